/- Numbers that rise, read from any bytes. -/
import Derived.Test.YtbeejmedekgjjaaCoX
namespace Go.Proofs.Ytbeejmedekgjjaa
open Go.RowKit
set_option linter.unusedVariables false
set_option linter.unusedSimpArgs false
theorem pre_ok {o : Out (List Int)} {l : List Int} {n x : Nat} {top last : Int} {bs s : List UInt8} (h : numP (top - last - 1) bs = .ok x s) (ho : o = (riseP top last (n + 1) bs).pre l) : o = (riseP top (last + 1 + x) n s).pre (l ++ [last + 1 + x]) := by
  rw [ho, riseP_ok h, Out.pre_pre]
theorem pre_no {o : Out (List Int)} {l : List Int} {n e : Nat} {top last : Int} {bs : List UInt8} (h : numP (top - last - 1) bs = .no e) (ho : o = (riseP top last (n + 1) bs).pre l) : o = .no e := by
  rw [ho, riseP_no h]; rfl
set_option maxHeartbeats 1600000 in
theorem rdrising (g : Nat) (many top : Int) (bs : List UInt8) (w : World) (hmany : many ≤ 65536) (ht0 : -1 ≤ top) (ht1 : top ≤ 65536) (h : RdOk w g bs) (hm : bs.length ≤ 140737488355300) :
    Calls Try.prog 58 #[.pointer (some ⟨g, 0, none⟩), .int .i64 many, .int .i64 top] w fun e w' => ∃ v l, e = .returned v ∧ OI w' w.heap.size v l ∧ ((∃ r, risingP many top bs = .ok l r ∧ RdOk w' g r) ∨ (∃ c, risingP many top bs = .no c ∧ l = [] ∧ RdNo w' g c)) ∧ w.grownBy w' (some g) := by
  have HML : Hid (maxLen = 9223372036854775807) := rfl
  have hgw := h.lt
  have hmx : max top (-1) = top := by omega
  have HE := Lib.hid (show risingP many top bs = match numP many bs with | .no e => .no e | .ok n r => riseP top (-1) n r from rfl)
  obtain ⟨o, ho⟩ : ∃ o, o = risingP many top bs := ⟨_, rfl⟩
  rw [← ho] at HE ⊢
  clear ho
  cases hn : numP many bs with
  | no c =>
    have HR := Lib.hid (rdnum_no hn w h hm)
    have HE2 := HE.out
    rw [hn] at HE2
    have HE := Lib.hid HE2
    clear HE2 hn h hm
    go_enter Try.func58, Try.ntmps58
    go_wp2_with (go_at_call 34; refine HR.out.mono ?_; rintro e w1 ⟨rfl, hr, hg⟩)
    go_loopg [8, 9, 14] 0 (fun r v la i wr => wr = w1 ∧ i = .int .i64 0 ∧ v = .slice none 0 0)
    case atStart => exact ⟨rfl, rfl, rfl⟩
    case round =>
      obtain ⟨rfl, rfl, rfl⟩ := hrel
      go_wp2
      go_returns
      exact ⟨_, [], rfl, World.ownsRow_nil _ _ _ _, .inr ⟨c, HE.out, rfl, hr⟩, hg⟩
  | ok n s =>
    obtain ⟨hn1, hn2, hn3⟩ := numP_ok hn
    have HR := Lib.hid (rdnum_ok hn w h hm)
    have HE2 := HE.out
    rw [hn] at HE2
    simp only at HE2
    have HE := Lib.hid HE2
    clear HE2 hn h
    go_enter Try.func58, Try.ntmps58
    go_wp2_with fail
    refine HR.out.mono ?_
    rintro e w1 ⟨rfl, hr, hg⟩
    clear HR
    go_wp2
    go_loopg [8, 9, 14] n (fun r v last i wr => ∃ (j : Nat) (l : List Int) (la : Int) (rr : List UInt8), j + r = n ∧ i = .int .i64 j ∧ last = .int .i64 la ∧ l.length = j ∧ -1 ≤ la ∧ la ≤ top ∧ rr.length ≤ bs.length ∧ OI wr w.heap.size v l ∧ RdOk wr g rr ∧ Hid (o = (riseP top la (n - j) rr).pre l) ∧ w.grownBy wr (some g))
    case atStart =>
      refine ⟨0, [], -1, s, by omega, rfl, rfl, rfl, by omega, by omega, hn3, World.ownsRow_nil _ _ _ _, hr, ?_, hg⟩
      show _ = _
      rw [HE.out]
      cases riseP top (-1) n s with
      | ok a b => rfl
      | no e => rfl
    case round =>
      clear hr hg HE
      obtain ⟨j, l, la, rr, hj, rfl, rfl, hlj, hl1, hl2, hrl, ho, hr, HO, hg⟩ := hrel
      by_cases hjk : j < n
      · obtain ⟨r', hr'⟩ : ∃ r', n - j = r' + 1 := ⟨n - j - 1, by omega⟩
        have hr2' : n - (j + 1) = r' := by omega
        rw [hr'] at HO
        have HLj := Lib.hid hlj
        clear hlj
        have hwr := gap_of (x := top + 1) (d := la) (by omega) hl1 (by omega)
        have hw2 : wrap64 (wrap64 (top - la) - 1) = top - la - 1 := by unfold wrap64; omega
        cases hx : numP (top - la - 1) rr with
        | ok x s2 =>
          obtain ⟨hx1, hx2, hx3⟩ := numP_ok hx
          have HR := Lib.hid (rdnum_ok hx wr hr (by omega))
          have HO2 := Lib.hid (pre_ok hx HO.out)
          clear hr HO hx hwr
          go_wp2_with fail
          refine HR.out.mono ?_
          rintro e w2 ⟨rfl, hr2, hg2⟩
          have ho2 := ho.kept hg2 hgw
          have hgt := Lib.grownBy_trans hg hg2
          clear ho hg hg2 hw2 HR
          go_wp2_with fail
          refine (rerrok g _ w2 hr2).mono ?_
          rintro e w3 ⟨rfl, rfl⟩
          rw [show la + (1 + (x : Int)) = la + 1 + x by omega]
          have hol := ho2
          unfold OI at hol
          have hsz := hgt.size
          have hn100 : l.length ≤ 65536 := by rw [HLj.out]; omega
          have hla1 : -1 ≤ la + 1 + x := by omega
          have hla2 : la + 1 + x ≤ top := by omega
          generalize la + 1 + (x : Int) = y at HO2 hla1 hla2 ⊢
          go_wp2_with (at_builtin; (refine wpList_app _ rfl _ _ 35 rfl w.heap.size 3 _ 1 8 Try.underlying35 info_i64 rfl (by decide) _ _ _ rfl (World.ownsRow.alloc hol _) (some ⟨w2.heap.size, 0, none⟩) 1 1 [.int .i64 y] rfl rfl (Lies.new w2 3 _ (0, 0)) (by intro u hu; cases List.mem_singleton.1 hu; rfl) (by simp) ?c1 ?c2 ?c3 ?_))
          case c1 => rw [HML.out]; omega
          case c2 => omega
          case c3 => simp; omega
          intro v3 w3 hown3 hg3 _
          have ho3 : OI w3 w.heap.size v3 (l ++ [y]) := OI.mk hown3 (by simp) (by simp)
          have hgal : w.grownBy (w2.alloc (.cells #[.int .i64 y] 3)) (some g) := Lib.grownBy_allocR hgt _
          have hrow := fun k hk => (World.ownsRow.lt hol k hk).1
          have hg3' := grownBy_new hgal hg3 hrow
          have hbal : Below w2.heap.size w2 (w2.alloc (.cells #[.int .i64 y] 3)) := (Below.refl _ _).alloc (Nat.le_refl _) _
          have hr3 : RdOk w3 g s2 := (hr2.alike hbal).own hg3 (fun k hk => Nat.lt_of_lt_of_le hgw (hrow k hk))
          clear hr2 hown3 hg3 hol ho2
          go_wp2
          go_roundg (n - (j + 1))
          case measure => omega
          case rel => exact ⟨j + 1, l ++ [y], y, s2, by omega, by go_num, by rfl, by rw [List.length_append, HLj.out]; rfl, hla1, hla2, by omega, ho3, hr3, by rw [hr2']; exact HO2, hg3'⟩
        | no c =>
          have hce := numP_err hx
          have HR := Lib.hid (rdnum_no hx wr hr (by omega))
          have HO2 := Lib.hid (pre_no hx HO.out)
          have hq : ((c : Int) != 0) = true := bne_iff_ne.mpr (by omega)
          clear hr HO hx hwr hce
          go_wp2_with fail
          refine HR.out.mono ?_
          rintro e w2 ⟨rfl, hr2, hg2⟩
          have hgt := Lib.grownBy_trans hg hg2
          have HEr := Lib.hid (err_no g c w2 hr2)
          clear ho hg hg2 hw2 HR
          go_wp2_with (go_at_call 39; refine HEr.out.mono ?_; rintro e w3 ⟨rfl, rfl⟩)
          go_returns
          exact ⟨_, [], rfl, World.ownsRow_nil _ _ _ _, .inr ⟨c, HO2.out, rfl, hr2⟩, hgt⟩
      · obtain rfl : j = n := by omega
        have HO2 : Hid (o = .ok l rr) := by show _ = _; rw [HO.out, Nat.sub_self, riseP_zero]; simp [Out.pre]
        clear HO
        go_wp2
        go_returns
        exact ⟨_, l, rfl, ho, .inl ⟨rr, HO2.out, hr⟩, hg⟩
end Go.Proofs.Ytbeejmedekgjjaa
