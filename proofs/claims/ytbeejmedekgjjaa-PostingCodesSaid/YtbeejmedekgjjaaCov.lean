/- Numbers that rise, read by the document from any bytes. -/
import Derived.Test.YtbeejmedekgjjaaCoY
import Derived.Test.YtbeejmedekgjjaaCoZ
namespace Go.Proofs.Ytbeejmedekgjjaa
open Go.RowKit
set_option linter.unusedVariables false
set_option linter.unusedSimpArgs false
set_option maxHeartbeats 1600000 in
theorem rfrising (g : Nat) (many top : Int) (bs : List UInt8) (w : World) (hmany : many ≤ 65536) (ht0 : -1 ≤ top) (ht1 : top ≤ 65536) (h : RfOk w g bs) (hm : bs.length ≤ 140737488355300) :
    Calls Try.prog 48 #[.pointer (some ⟨g, 0, none⟩), .int .i64 many, .int .i64 top] w fun e w' => ∃ v l, e = .returned v ∧ OI w' w.heap.size v l ∧ ((∃ r, risingP many top bs = .ok l r ∧ RfOk w' g r) ∨ (∃ c, risingP many top bs = .no c ∧ l = [] ∧ RfNo w' g c)) ∧ w.grownBy w' (some g) := by
  have HML : Hid (maxLen = 9223372036854775807) := rfl
  have hgw := h.lt
  have HE := Lib.hid (show risingP many top bs = match numP many bs with | .no e => .no e | .ok n r => riseP top (-1) n r from rfl)
  obtain ⟨o, ho⟩ : ∃ o, o = risingP many top bs := ⟨_, rfl⟩
  rw [← ho] at HE ⊢
  clear ho
  cases hn : numP many bs with
  | no c =>
    have HR := Lib.hid (rfnum_no' hn w h hm)
    have HE2 := HE.out
    rw [hn] at HE2
    have HE := Lib.hid HE2
    clear HE2 hn h hm
    go_enter Try.func48, Try.ntmps48
    go_wp2_with (go_at_call 27; refine HR.out.mono ?_; rintro e w1 ⟨rfl, hr, hg⟩)
    go_loopg [8, 16] 0 (fun r v i wr => wr = w1 ∧ i = .int .i64 0 ∧ v = .slice none 0 0)
    case atStart => exact ⟨rfl, rfl, rfl⟩
    case round =>
      obtain ⟨rfl, rfl, rfl⟩ := hrel
      go_wp2
      go_returns
      exact ⟨_, [], rfl, World.ownsRow_nil _ _ _ _, .inr ⟨c, HE.out, rfl, hr⟩, hg⟩
  | ok n s =>
    obtain ⟨hn1, hn2, hn3⟩ := numP_ok hn
    have HR := Lib.hid (rfnum_ok hn w h hm)
    have HE2 := HE.out
    rw [hn] at HE2
    simp only at HE2
    have HE := Lib.hid HE2
    clear HE2 hn h
    go_enter Try.func48, Try.ntmps48
    go_wp2_with fail
    refine HR.out.mono ?_
    rintro e w1 ⟨rfl, hr, hg⟩
    clear HR
    go_wp2
    go_loopg [8, 16] n (fun r v i wr => ∃ (j : Nat) (l : List Int) (la : Int) (rr : List UInt8), j + r = n ∧ i = .int .i64 j ∧ l.length = j ∧ Hid (lastOf (-1) l = la) ∧ -1 ≤ la ∧ la ≤ top ∧ rr.length ≤ bs.length ∧ OI wr w.heap.size v l ∧ RfOk wr g rr ∧ Hid (o = (riseP top la (n - j) rr).pre l) ∧ w.grownBy wr (some g))
    case atStart =>
      refine ⟨0, [], -1, s, by omega, rfl, rfl, rfl, by omega, by omega, hn3, World.ownsRow_nil _ _ _ _, hr, ?_, hg⟩
      show _ = _
      rw [HE.out]
      cases riseP top (-1) n s with
      | ok a b => rfl
      | no e => rfl
    case round =>
      clear hr hg HE
      obtain ⟨j, l, la, rr, hj, rfl, hlj, HLa, hl1, hl2, hrl, ho, hr, HO, hg⟩ := hrel
      by_cases hjk : j < n
      · obtain ⟨r', hr'⟩ : ∃ r', n - j = r' + 1 := ⟨n - j - 1, by omega⟩
        have hr2' : n - (j + 1) = r' := by omega
        rw [hr'] at HO
        obtain ⟨A1, c1, rfl, hl1', hA1⟩ := ho.form
        by_cases hj0 : j = 0
        · subst hj0
          have hlj2 : l = [] := List.length_eq_zero_iff.1 hlj
          have hla : la = -1 := by rw [← HLa.out, hlj2]; rfl
          subst hla
          have et : top - -1 - 1 = top := by omega
          have HLj := Lib.hid hlj
          clear hlj HLa hlj2
          cases hx : numP (top - -1 - 1) rr with
          | ok x s2 =>
            obtain ⟨hx1, hx2, hx3⟩ := numP_ok hx
            have HR := Lib.hid (by have := rfnum_ok hx wr hr (by omega); rwa [et] at this)
            have HO2 := Lib.hid (pre_ok hx HO.out)
            have hla1 : -1 ≤ -1 + 1 + (x : Int) := by omega
            have hla2 : -1 + 1 + (x : Int) ≤ top := by omega
            clear hr HO hx
            go_wp2_with fail
            refine HR.out.mono ?_
            rintro e w2 ⟨rfl, hr2, hg2⟩
            have ho2 := ho.kept hg2 hgw
            have hgt := Lib.grownBy_trans hg hg2
            have hk1 : w2.cell? ⟨g, 1, none⟩ = some (.int .i64 0) := by obtain ⟨A, c, h⟩ := hr2; exact h.err
            have e0 : -1 + 1 + (x : Int) = (x : Int) := by omega
            rw [e0] at HO2 hla1 hla2
            have hol := ho2
            unfold OI at hol
            have hsz := hgt.size
            have hn100 : l.length ≤ 65536 := by rw [HLj.out]; omega
            clear ho hg hg2 HR
            go_wp2_with (at_builtin; (refine wpList_app _ rfl _ _ 35 rfl w.heap.size 3 _ 1 8 Try.underlying35 info_i64 rfl (by decide) _ _ _ rfl (World.ownsRow.alloc hol _) (some ⟨w2.heap.size, 0, none⟩) 1 1 [.int .i64 ((x : Int))] rfl rfl (Lies.new w2 3 _ (0, 0)) (by intro u hu; cases List.mem_singleton.1 hu; rfl) (by simp) ?c1 ?c2 ?c3 ?_))
            case c1 => rw [HML.out]; omega
            case c2 => omega
            case c3 => simp; omega
            intro v3 w3 hown3 hg3 _
            have ho3 : OI w3 w.heap.size v3 (l ++ [(x : Int)]) := OI.mk hown3 (by simp) (by simp)
            have hgal : w.grownBy (w2.alloc (.cells #[.int .i64 ((x : Int))] 3)) (some g) := Lib.grownBy_allocR hgt _
            have hrow := fun k hk => (World.ownsRow.lt hol k hk).1
            have hg3' := grownBy_new hgal hg3 hrow
            have hbal : Below w2.heap.size w2 (w2.alloc (.cells #[.int .i64 ((x : Int))] 3)) := (Below.refl _ _).alloc (Nat.le_refl _) _
            have hr3 : RfOk w3 g s2 := (hr2.alike hbal).own hg3 (fun k hk => Nat.lt_of_lt_of_le hgw (hrow k hk))
            clear hr2 hown3 hg3 hol ho2
            go_wp2
            go_roundg (n - (0 + 1))
            case measure => omega
            case rel => exact ⟨0 + 1, l ++ [(x : Int)], (x : Int), s2, by omega, by first | rfl | go_num, by rw [List.length_append, HLj.out]; rfl, lastOf_snoc _ _ _, hla1, hla2, by omega, ho3, hr3, by rw [hr2']; exact HO2, hg3'⟩
          | no c =>
            have hce := numP_err hx
            have HR := Lib.hid (by have := rfnum_no' hx wr hr (by omega); rwa [et] at this)
            have HO2 := Lib.hid (pre_no hx HO.out)
            have hq : ((c : Int) != 0) = true := bne_iff_ne.mpr (by omega)
            clear hr HO hx hce
            go_wp2_with (go_at_call 27; refine HR.out.mono ?_; rintro e w2 ⟨rfl, hr2, hg2⟩; have hgt := Lib.grownBy_trans hg hg2; have hk1 := hr2.err; clear ho hg hg2 HR)
            go_returns
            exact ⟨_, [], rfl, World.ownsRow_nil _ _ _ _, .inr ⟨c, HO2.out, rfl, hr2⟩, hgt⟩
        · have hx0 : ∃ hh : j - 1 < l.length, l[j - 1] = la := by
            refine ⟨by omega, ?_⟩
            rw [← HLa.out]
            have e : l = l.take (j - 1) ++ [l[j - 1]'(by omega)] := by
              have h1 : l.take (j - 1 + 1) = l.take (j - 1) ++ [l[j - 1]'(by omega)] := List.take_succ_eq_append_getElem (by omega)
              rw [List.take_of_length_le (by omega)] at h1
              exact h1
            generalize l[j - 1]'(by omega) = z at e ⊢
            rw [e, lastOf_snoc]
          obtain ⟨hh, hla⟩ := hx0
          obtain ⟨ad, rfl, hcl⟩ := (Lies.of_own ho).at (k := j - 1) (by simpa using hh)
          rw [List.getElem_map, hla] at hcl
          have hsub : ((j : Int) - 1) = ((j - 1 : Nat) : Int) := by omega
          have hwj : IntKind.i64.wrap ((j - 1 : Nat) : Int) = ((j - 1 : Nat) : Int) := by rw [IntKind.wrap_i64]; omega
          have hi0 : 0 ≤ ((j - 1 : Nat) : Int) := Int.natCast_nonneg _
          have hi1 : ((j - 1 : Nat) : Int) < l.length := by omega
          have hj1 : ((j : Nat) : Int) > 0 := by omega
          have HLj := Lib.hid hlj
          clear hlj hla HLa
          cases hx : numP (top - la - 1) rr with
          | ok x s2 =>
            obtain ⟨hx1, hx2, hx3⟩ := numP_ok hx
            have HR := Lib.hid (rfnum_ok hx wr hr (by omega))
            have HO2 := Lib.hid (pre_ok hx HO.out)
            have hla1 : -1 ≤ la + 1 + (x : Int) := by omega
            have hla2 : la + 1 + (x : Int) ≤ top := by omega
            clear hr HO hx
            go_wp2_with fail
            refine HR.out.mono ?_
            rintro e w2 ⟨rfl, hr2, hg2⟩
            have ho2 := ho.kept hg2 hgw
            have hgt := Lib.grownBy_trans hg hg2
            have hk1 : w2.cell? ⟨g, 1, none⟩ = some (.int .i64 0) := by obtain ⟨A, c, h⟩ := hr2; exact h.err
            have hcl2 := hg2.cell hcl (by have h1 := (World.ownsRow.lt (show World.ownsRow _ _ _ _ _ _ _ from ho) ad.block rfl).1; have h2 : (ad.add (j - 1)).block = ad.block := (by unfold Addr.add; split <;> rfl); rw [h2]; intro e; injection e; omega)
            have hol := ho2
            unfold OI at hol
            have hsz := hgt.size
            have hn100 : l.length ≤ 65536 := by rw [HLj.out]; omega
            clear ho hg hg2 HR
            go_wp2_with (at_builtin; (refine wpList_app _ rfl _ _ 35 rfl w.heap.size 3 _ 1 8 Try.underlying35 info_i64 rfl (by decide) _ _ _ rfl (World.ownsRow.alloc hol _) (some ⟨w2.heap.size, 0, none⟩) 1 1 [.int .i64 (la + 1 + (x : Int))] rfl rfl (Lies.new w2 3 _ (0, 0)) (by intro u hu; cases List.mem_singleton.1 hu; rfl) (by simp) ?c1 ?c2 ?c3 ?_))
            case c1 => rw [HML.out]; omega
            case c2 => omega
            case c3 => simp; omega
            intro v3 w3 hown3 hg3 _
            have ho3 : OI w3 w.heap.size v3 (l ++ [la + 1 + (x : Int)]) := OI.mk hown3 (by simp) (by simp)
            have hgal : w.grownBy (w2.alloc (.cells #[.int .i64 (la + 1 + (x : Int))] 3)) (some g) := Lib.grownBy_allocR hgt _
            have hrow := fun k hk => (World.ownsRow.lt hol k hk).1
            have hg3' := grownBy_new hgal hg3 hrow
            have hbal : Below w2.heap.size w2 (w2.alloc (.cells #[.int .i64 (la + 1 + (x : Int))] 3)) := (Below.refl _ _).alloc (Nat.le_refl _) _
            have hr3 : RfOk w3 g s2 := (hr2.alike hbal).own hg3 (fun k hk => Nat.lt_of_lt_of_le hgw (hrow k hk))
            clear hr2 hown3 hg3 hol ho2
            go_wp2
            go_roundg (n - (j + 1))
            case measure => omega
            case rel => exact ⟨j + 1, l ++ [la + 1 + (x : Int)], la + 1 + (x : Int), s2, by omega, by first | rfl | go_num, by rw [List.length_append, HLj.out]; rfl, lastOf_snoc _ _ _, hla1, hla2, by omega, ho3, hr3, by rw [hr2']; exact HO2, hg3'⟩
          | no c =>
            have hce := numP_err hx
            have HR := Lib.hid (rfnum_no' hx wr hr (by omega))
            have HO2 := Lib.hid (pre_no hx HO.out)
            have hq : ((c : Int) != 0) = true := bne_iff_ne.mpr (by omega)
            clear hr HO hx hce
            go_wp2_with (go_at_call 27; refine HR.out.mono ?_; rintro e w2 ⟨rfl, hr2, hg2⟩; have hgt := Lib.grownBy_trans hg hg2; have hk1 := hr2.err; clear ho hg hg2 HR)
            go_returns
            exact ⟨_, [], rfl, World.ownsRow_nil _ _ _ _, .inr ⟨c, HO2.out, rfl, hr2⟩, hgt⟩
      · obtain rfl : j = n := by omega
        have HO2 : Hid (o = .ok l rr) := by show _ = _; rw [HO.out, Nat.sub_self, riseP_zero]; simp [Out.pre]
        clear HO
        go_wp2
        go_returns
        exact ⟨_, l, rfl, ho, .inl ⟨rr, HO2.out, hr⟩, hg⟩
end Go.Proofs.Ytbeejmedekgjjaa
