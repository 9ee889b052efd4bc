/- The walk of the law of numbers (chapter 1), and of its examples. -/
import Derived.Test.YtcdggfojmfefkaaCoJ
import Derived.Test.YtcdggfojmfefkaaRow
namespace Go.Proofs.Ytcdggfojmfefkaa
open Go.RowKit
set_option linter.unusedVariables false
set_option linter.unusedSimpArgs false
theorem num300 : numBytes (numNat 300) = [129, 44] := by decide
theorem rising349 : risingBytes [3, 4, 9] = [3, 3, 0, 4] := by decide
theorem equal_of (A B : Option Addr) (c d n m : Nat) (xs ys : List UInt8) (w : World) (hr : RB w A xs) (hs : RB w B ys) (hn : xs.length = n) (hm : ys.length = m) {b : Bool} (hb : (xs == ys) = b) :
    Calls Try.prog 10 #[.slice A n c, .slice B m d] w fun e w' => e = .returned (.bool b) ∧ w = w' := by
  subst hn hm hb
  exact equal_any A B c d xs ys w hr hs
theorem num300_any (w : World) :
    Calls Try.prog 16 #[.slice none 0 0, .int .i64 300] w fun e w' => ∃ v, e = .returned v ∧ OB w' w.heap.size v [129, 44] ∧ Below w.heap.size w w' := by
  have h := num_any none 0 [] 300 w (by decide) (by decide) (by simp) (by decide) (Lies.nil _ _)
  rw [num300] at h
  exact h
theorem two_new (w : World) : RB (w.alloc (.cells #[.int .u8 129, .int .u8 44] 5)) (some ⟨w.heap.size, 0, none⟩) [129, 44] := RB.new w 5 [129, 44] (0, 0)
theorem four_new (w : World) : RB (w.alloc (.cells #[.int .u8 3, .int .u8 3, .int .u8 0, .int .u8 4] 5)) (some ⟨w.heap.size, 0, none⟩) [3, 3, 0, 4] := RB.new w 5 [3, 3, 0, 4] (0, 0)
theorem rising349_any (w : World) :
    Calls Try.prog 13 #[.slice none 0 0, .slice (some ⟨w.heap.size, 0, none⟩) 3 3] (w.alloc (.cells #[.int .i64 3, .int .i64 4, .int .i64 9] 3)) fun e w' => ∃ v, e = .returned v ∧ OB w' w.heap.size v [3, 3, 0, 4] ∧ Below w.heap.size w w' := by
  have h := rising_any none (some ⟨w.heap.size, 0, none⟩) 0 3 [] [3, 4, 9] _ (by decide) (by simp) (by decide) (by decide) (by decide) (Lies.nil _ _) (Lies.new w 3 [.int .i64 3, .int .i64 4, .int .i64 9] (0, 0))
  rw [rising349] at h
  refine h.mono ?_
  rintro e w' ⟨v, rfl, ho, hb⟩
  exact ⟨v, rfl, ho.mono (by simp), ((Below.refl _ _).alloc (Nat.le_refl _) _).trans (hb.mono (by simp))⟩
set_option maxHeartbeats 800000 in
theorem awake_any (w : World) :
    Calls Try.prog 15 #[] w fun e w' => e = .returned (.bool true) ∧ Below w.heap.size w w' := by
  have H1 := Lib.hid num300
  have H2 := Lib.hid rising349
  go_enter Try.func15, Try.ntmps15
  go_wp2_with fail
  refine (num300_any w).mono ?_
  rintro e w1 ⟨v1, rfl, ho1, hb1⟩
  obtain ⟨A1, c1, rfl, hl1, hA1⟩ := ho1.form
  have r1 := (RB.of_own ho1).below ((Below.refl _ _).alloc (Nat.le_refl _) (.cells #[.int .u8 129, .int .u8 44] 5))
  have r2 := two_new w1
  have hb2 : Below w.heap.size w (w1.alloc (.cells #[.int .u8 129, .int .u8 44] 5)) := hb1.alloc hb1.size _
  clear ho1 hb1
  obtain ⟨la, hla⟩ : ∃ la : List UInt8, la = [129, 44] := ⟨_, rfl⟩
  have hll : la.length = 2 := by rw [hla]; rfl
  rw [← hla] at r1 r2 hl1 ⊢
  clear hla
  rw [hll]
  go_wp2_with fail
  refine (equal_of _ _ _ _ _ _ la la _ r1 r2 hll hll (b := true) (by simp)).mono ?_
  rintro e w2 ⟨rfl, rfl⟩
  generalize w1.alloc (.cells #[.int .u8 129, .int .u8 44] 5) = w2 at hb2 ⊢
  clear r1 r2
  go_wp2_with fail
  refine (rising349_any w2).mono ?_
  rintro e w3 ⟨v3, rfl, ho3, hb3⟩
  obtain ⟨A3, c3, rfl, hl3, hA3⟩ := ho3.form
  have hb4 := hb2.trans (hb3.mono hb2.size)
  have r1 := (RB.of_own ho3).below ((Below.refl _ _).alloc (Nat.le_refl _) (.cells #[.int .u8 3, .int .u8 3, .int .u8 0, .int .u8 4] 5))
  have r2 := four_new w3
  clear ho3 hb3
  obtain ⟨lb, hlb⟩ : ∃ lb : List UInt8, lb = [3, 3, 0, 4] := ⟨_, rfl⟩
  have hll : lb.length = 4 := by rw [hlb]; rfl
  rw [← hlb] at r1 r2 hl3 ⊢
  clear hlb
  rw [hll]
  go_wp2_with fail
  refine (equal_of _ _ _ _ _ _ lb lb _ r1 r2 hll hll (b := true) (by simp)).mono ?_
  rintro e w5 ⟨rfl, rfl⟩
  go_wp2
  go_ret
  exact ⟨rfl, hb4.alloc hb4.size _⟩
set_option maxHeartbeats 1600000 in
theorem coderNums_walk (A : Option Addr) (c : Nat) (bs : List UInt8) (n : Int) (w : World) (hr : RB w A bs) (hA : A = none → c = 0) (hlc : bs.length ≤ c) (hm : bs.length ≤ 140737488351232) (hw : (Lit.int .i64 n).wf = true) :
    Calls Try.prog 4 #[.slice A bs.length c, .int .i64 n] w fun e w' => e = .returned (.bool true) ∧ Below w.heap.size w w' := by
  have hn := wf_i64 hw
  have hN := numNat_lt hn.2
  have hS := signNat_lt hn.1 hn.2
  go_enter Try.func4, Try.ntmps4
  go_wp2_with fail
  refine (clone_any _ _ _ _ hm hA hr).mono ?_
  rintro e w1 ⟨v1, rfl, ho1, hb1⟩
  obtain ⟨A1, c1, rfl, hl1, hA1⟩ := ho1.form
  have r1 := RB.of_own ho1
  go_wp2_with fail
  refine (num_any A c bs n w1 (by omega) hn.2 hA hlc (hr.below hb1)).mono ?_
  rintro e w2 ⟨v2, rfl, ho2, hb2⟩
  obtain ⟨A2, c2, rfl, hl2, hA2⟩ := ho2.form
  have hb12 := hb1.trans (hb2.mono hb1.size)
  have r1 := r1.below hb2
  clear hb1 ho1
  generalize hxs : bs ++ numBytes (numNat n) = xs at ho2 hl2 ⊢
  have HX := Lib.hid hxs
  clear hxs
  go_wp2_with fail
  refine (rnum_any A1 c1 bs n w2 (by omega) hn.2 hA1 r1).mono ?_
  rintro e w3 ⟨v3, rfl, ho3, hb3⟩
  rw [HX.out] at ho3
  obtain ⟨A3, c3, rfl, hl3, hA3⟩ := ho3.form
  have hb13 := hb12.trans (hb3.mono hb12.size)
  have r2 := (RB.of_own ho2).below hb3
  have r1 := r1.below hb3
  clear hb12 ho2 hb2
  go_wp2_with fail
  refine (equal_of _ _ _ _ _ _ xs xs _ r2 (RB.of_own ho3) rfl rfl (b := true) (by simp)).mono ?_
  rintro e w4 ⟨rfl, rfl⟩
  clear r2 ho3 HX hl2 hl3 hA2 hA3 hb3
  go_wp2_with fail
  refine (sign_any A c bs n w3 (by omega) hn.1 hn.2 hA hlc (hr.below hb13)).mono ?_
  rintro e w5 ⟨v5, rfl, ho5, hb5⟩
  obtain ⟨A5, c5, rfl, hl5, hA5⟩ := ho5.form
  have hb15 := hb13.trans (hb5.mono hb13.size)
  have r1 := r1.below hb5
  clear hb13
  generalize hys : bs ++ numBytes (signNat n) = ys at ho5 hl5 ⊢
  have HY := Lib.hid hys
  clear hys
  go_wp2_with fail
  refine (rsign_any A1 c1 bs n w5 (by omega) hn.1 hn.2 hA1 r1).mono ?_
  rintro e w6 ⟨v6, rfl, ho6, hb6⟩
  rw [HY.out] at ho6
  obtain ⟨A6, c6, rfl, hl6, hA6⟩ := ho6.form
  have hb16 := hb15.trans (hb6.mono hb15.size)
  have r5 := (RB.of_own ho5).below hb6
  have r1 := r1.below hb6
  clear hb15 ho5 hb5
  go_wp2_with fail
  refine (equal_of _ _ _ _ _ _ ys ys _ r5 (RB.of_own ho6) rfl rfl (b := true) (by simp)).mono ?_
  rintro e w7 ⟨rfl, rfl⟩
  clear r5 ho6 HY hl5 hl6 hA5 hA6 hb6
  go_wp2_with fail
  refine (equal_of _ _ _ _ _ _ bs bs _ (hr.below hb16) r1 rfl rfl (b := true) (by simp)).mono ?_
  rintro e w8 ⟨rfl, rfl⟩
  go_wp2_with fail
  refine (awake_any _).mono ?_
  rintro e w9 ⟨rfl, hb9⟩
  go_wp2
  go_ret
  exact ⟨rfl, hb16.trans (hb9.mono hb16.size)⟩
end Go.Proofs.Ytcdggfojmfefkaa
