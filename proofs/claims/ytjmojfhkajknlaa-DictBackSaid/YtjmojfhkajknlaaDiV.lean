/- The walk of the law that a dictionary's bytes are read as it. -/
import Derived.Test.YtjmojfhkajknlaaDiU
namespace Go.Proofs.Ytjmojfhkajknlaa
open Go.RowKit
set_option linter.unusedVariables false
set_option linter.unusedSimpArgs false
theorem dictBytes_le {l : List (List UInt8)} (h : whyNot l = 0) : (dictBytes l).length ≤ 1343497 := by
  have hw := whyNot_zero h
  have h1 := encGo_le (d := []) (chk_len hw.2)
  have h2 := numBytes_le l.length
  unfold dictBytes
  rw [List.length_append]
  omega
set_option maxHeartbeats 3200000 in
theorem dictBack_walk (A : Option Addr) (c : Nat) (ws : List ByteArray) (B : Option Addr) (d : Nat) (bs : List UInt8) (w : World) (hr : Lies w A (ws.map Value.string)) (hA : A = none → c = 0) (hlc : ws.length ≤ c) (hm : ws.length ≤ 9223372036854775807)
    (hrB : RB w B bs) (hB : B = none → d = 0) (hld : bs.length ≤ d) (hmB : bs.length ≤ 140737488351232) :
    Calls Try.prog 4 #[.slice A ws.length c, .slice B bs.length d] w fun e w' => e = .returned (.bool true) ∧ Below w.heap.size w w' := by
  have HML : Hid (maxLen = 9223372036854775807) := rfl
  have HF : Hid (∀ w', Below w.heap.size w w' → Calls Try.prog 7 #[.slice A ws.length c] w' (YesNo w')) := fun w' hb => few_any A c ws w' (hr.below hb) hm
  have HBd := Lib.hid (build_any A c ws w hr hm)
  have HAw : Hid (∀ w', Below w.heap.size w w' → Calls Try.prog 8 #[] w' fun e w'' => e = .returned (.bool true) ∧ Below w.heap.size w w'') :=
    fun w' hb => (dawake_any w').mono fun e w'' ⟨h1, h2⟩ => ⟨h1, hb.trans (h2.mono hb.size)⟩
  have HR := Lib.hid hr
  have HRB := Lib.hid hrB
  clear hr hA hrB
  go_enter Try.func4, Try.ntmps4
  go_wp2_with fail
  refine HBd.out.mono ?_
  rintro e w1 ⟨hb, ⟨h0, g, vH, vB, rfl, hd, hg⟩ | ⟨h0, rfl⟩⟩
  · go_wp2_with fail
    refine (HF.out _ hb).mono ?_
    rintro e w' ⟨b, rfl, rfl⟩
    cases b with
    | false =>
      have HA2 := Lib.hid (HAw.out _ hb)
      go_wp2_with (go_at_call 8; refine HA2.out.mono ?_; rintro e w5 ⟨rfl, hb5⟩)
      go_ret
      exact ⟨rfl, hb5⟩
    | true =>
      have hw := whyNot_zero h0
      have hdl := dictBytes_le h0
      have hll : ws.length ≤ 16384 := by rw [← wl_length]; exact hw.1
      have HBy := Lib.hid (bytes_any g _ w1 hd.ok hw.1 (chk_len hw.2))
      have HDr : Hid (∀ gr w', RdOk w' gr (dictBytes (wl ws) ++ bs) → Calls Try.prog 17 #[.pointer (some ⟨gr, 0, none⟩)] w' fun e w'' => ∃ gd, e = .returned (.pointer (some ⟨gd, 0, none⟩)) ∧ DOk w'' gd (wl ws) ∧ RdOk w'' gr bs ∧ w'.grownBy w'' (some gr)) := fun gr w' h => dread_any gr (wl ws) bs w' hw.2 hw.1 h (by omega)
      have HWd : Hid (∀ gd w', Below w.heap.size w w' → DOk w' gd (wl ws) → Calls Try.prog 14 #[.pointer (some ⟨gd, 0, none⟩)] w' fun e w'' => ∃ A2 c2, e = .returned (.slice A2 ws.length c2) ∧ Lies w'' A2 ((wl ws).map vs) ∧ Lies w'' A ((wl ws).map vs) ∧ Below w'.heap.size w' w'' ∧ Below w.heap.size w w'') := by
        intro gd w' hb2 hdk
        refine (words_any gd (wl ws) w' hdk hw.1 (chk_len hw.2)).mono ?_
        rintro e w'' ⟨v, rfl, ho, hb4⟩
        obtain ⟨A2, c2, rfl, hL, hc, hA2⟩ := ho.lies
        have hb5 := hb2.trans (hb4.mono hb2.size)
        exact ⟨A2, c2, by rw [wl_length], hL, by rw [wl_vs]; exact HR.out.below hb5, hb4, hb5⟩
      have HEq : Hid (∀ w' A2 c2, Lies w' A2 ((wl ws).map vs) → Lies w' A ((wl ws).map vs) → Calls Try.prog 13 #[.slice A2 ws.length c2, .slice A ws.length c] w' fun e w'' => e = .returned (.bool true) ∧ ∃ q, w'' = w'.drewN q) := by
        intro w' A2 c2 h1 h2
        have := sequal_any A2 A c2 c (wl ws) w' h1 h2 (by rw [wl_length]; omega)
        rwa [wl_length] at this
      have HEr : Hid (∀ gr w' bs, RdOk w' gr bs → Calls Try.prog 18 #[.pointer (some ⟨gr, 0, none⟩)] w' fun e w'' => e = .returned (.int .i64 0) ∧ w' = w'') := fun gr w' bs h => rerrok gr bs w' h
      have HLf : Hid (∀ gr w' bs, RdOk w' gr bs → Calls Try.prog 19 #[.pointer (some ⟨gr, 0, none⟩)] w' fun e w'' => e = .returned (.int .i64 bs.length) ∧ w' = w'') := fun gr w' bs h => rleftok gr bs w' h
      clear h0 hd hg hw HBd HF
      generalize dictBytes (wl ws) = D at HBy HDr hdl
      go_wp2_with fail
      refine HBy.out.mono ?_
      rintro e w2 ⟨v2, rfl, ho2, hb2⟩
      have hb02 := hb.trans (hb2.mono hb.size)
      have hrb2 := HRB.out.below hb02
      unfold OB at ho2
      have hs12 := hb2.size
      clear HBy
      go_wp2_with (at_builtin; refine wpList_app_wide _ rfl _ _ 36 rfl w1.heap.size 5 _ 1 1 Try.underlying36 info_u8 rfl (by decide) _ D.length (D.map vb) rfl ho2 B bs.length d (bs.map vb) rfl (by simp) hrb2 (vbs_one bs) hB (by rw [HML.out]; omega) (by omega) hs12 ?_; intro v3 w3 hown3 hg3)
      have ho3 : OB w3 w1.heap.size v3 (D ++ bs) := OB.mk hown3 (by simp) (by simp)
      have hb3 := hb02.grown hg3 hb02.size (fun k hk => Nat.le_trans hb.size (World.ownsRow.lt ho2 k hk).1)
      obtain ⟨A3, c3, hv3, hl3, hA3⟩ := ho3.form
      obtain ⟨n3, hn3⟩ : ∃ n3, n3 = (D ++ bs).length := ⟨_, rfl⟩
      rw [← hn3] at hv3
      subst hv3
      have HRd : Hid (Calls Try.prog 15 #[.slice A3 n3 c3] w3 fun e w' => ∃ g, e = .returned (.pointer (some ⟨g, 0, none⟩)) ∧ RdOk w' g (D ++ bs) ∧ w3.heap.size ≤ g ∧ Below w3.heap.size w3 w') := by
        rw [hn3]
        exact readok_wide A3 c3 (D ++ bs) w3 (by rw [List.length_append]; omega) hA3 (RB.of_own ho3)
      clear hn3 hown3 hg3 ho2 ho3 hrb2 hl3
      have hs03 := hb3.size
      go_wp2_with fail
      refine HRd.out.mono ?_
      rintro e w4 ⟨gr, rfl, hR4, hgr, hb4⟩
      have hb04 := hb3.trans (hb4.mono hb3.size)
      clear HRd
      go_wp2_with fail
      refine (HDr.out gr w4 hR4).mono ?_
      rintro e w5 ⟨gd, rfl, hd5, hR5, hg5⟩
      have hb05 := hb04.grown hg5 hb04.size (fun k hk => by injection hk with hk; omega)
      go_wp2_with fail
      refine (HWd.out gd w5 hb05 hd5).mono ?_
      rintro e w6 ⟨A6, c6, rfl, hL6, hLA6, hb56, hb06⟩
      have hR6 := hR5.alike hb56
      go_wp2_with fail
      refine (HEq.out w6 A6 c6 hL6 hLA6).mono ?_
      rintro e w7 ⟨rfl, q, rfl⟩
      have hR7 : RdOk (w6.drewN q) gr bs := hR6.heap rfl
      have hb07 := below_drewN hb06 q
      have HR7 := Lib.hid hR7
      have HA7 := Lib.hid (HAw.out _ hb07)
      clear hR7 hR6 hR5 hR4 hL6 hLA6 hd5
      go_wp2_with (first
        | (go_at_call 18; refine (HEr.out _ _ _ HR7.out).mono ?_; rintro e w' ⟨rfl, rfl⟩)
        | (go_at_call 19; refine (HLf.out _ _ _ HR7.out).mono ?_; rintro e w' ⟨rfl, rfl⟩)
        | (go_at_call 8; refine HA7.out.mono ?_; rintro e w8 ⟨rfl, hb8⟩))
      go_ret
      exact ⟨rfl, hb8⟩
  · have h0i : ((whyNot (wl ws) : Nat) : Int) ≠ 0 := by omega
    have hq : (((whyNot (wl ws) : Nat) : Int) != 0) = true := bne_iff_ne.mpr h0i
    generalize whyNot (wl ws) = N at hq h0i
    go_wp2_with fail
    refine (HF.out _ hb).mono ?_
    rintro e w' ⟨b, rfl, rfl⟩
    have HA2 := Lib.hid (HAw.out _ hb)
    cases b
    all_goals
      go_wp2_with (go_at_call 8; refine HA2.out.mono ?_; rintro e w5 ⟨rfl, hb5⟩)
      go_ret
      exact ⟨rfl, hb5⟩
end Go.Proofs.Ytjmojfhkajknlaa
