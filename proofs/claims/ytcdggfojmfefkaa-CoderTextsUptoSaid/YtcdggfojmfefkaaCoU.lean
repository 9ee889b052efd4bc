/- The walk of the law of texts and of numbers that rise. -/
import Derived.Test.YtcdggfojmfefkaaCoT
namespace Go.Proofs.Ytcdggfojmfefkaa
open Go.RowKit
set_option linter.unusedVariables false
set_option linter.unusedSimpArgs false
set_option maxHeartbeats 1600000 in
theorem coderTexts_walk (A : Option Addr) (c : Nat) (bs : List UInt8) (s : ByteArray) (B : Option Addr) (d : Nat) (l : List Int) (w : World) (hr : RB w A bs) (hA : A = none → c = 0) (hlc : bs.length ≤ c) (hm : bs.length ≤ 1048576)
    (hsm : s.size ≤ 1048576) (hs : Lies w B (l.map (Value.int .i64))) (hB : B = none → d = 0) (hld : l.length ≤ d) (hlm : l.length ≤ 1048576) (hwl : ∀ z ∈ l, (Lit.int .i64 z).wf = true) :
    Calls Try.prog 3 #[.slice A bs.length c, .string s, .slice B l.length d] w fun e w' => e = .returned (.bool true) ∧ Below w.heap.size w w' := by
  have hl : ∀ z ∈ l, -9223372036854775808 ≤ z ∧ z ≤ 9223372036854775807 := fun z hz => wf_i64 (hwl z hz)
  have HL := Lib.hid hl
  clear hl hwl
  go_enter Try.func3, Try.ntmps3
  go_wp2_with fail
  refine (clone_any _ _ _ _ (by omega) hA hr).mono ?_
  rintro e w1 ⟨v1, rfl, ho1, hb1⟩
  obtain ⟨A1, c1, rfl, hl1, hA1⟩ := ho1.form
  have r1 := RB.of_own ho1
  go_wp2_with fail
  refine (text_any A c bs s w1 (by omega) hA hlc (hr.below hb1)).mono ?_
  rintro e w2 ⟨v2, rfl, ho2, hb2⟩
  obtain ⟨A2, c2, rfl, hl2, hA2⟩ := ho2.form
  have hb12 := hb1.trans (hb2.mono hb1.size)
  have r1 := r1.below hb2
  clear hb1 ho1
  generalize hxs : bs ++ textBytes s.data.toList = xs at ho2 hl2 ⊢
  have HX := Lib.hid hxs
  clear hxs
  go_wp2_with fail
  refine (rtext_any A1 c1 bs s w2 (by omega) hA1 r1).mono ?_
  rintro e w3 ⟨v3, rfl, ho3, hb3⟩
  rw [HX.out] at ho3
  obtain ⟨A3, c3, rfl, hl3, hA3⟩ := ho3.form
  have hb13 := hb12.trans (hb3.mono hb12.size)
  have r2 := (RB.of_own ho2).below hb3
  have r1 := r1.below hb3
  clear hb12 ho2 hb2
  go_wp2_with fail
  refine (equal_of _ _ _ _ _ _ xs xs _ r2 (RB.of_own ho3) rfl rfl (b := true) (by simp)).mono ?_
  rintro e w4 ⟨rfl, rfl⟩
  clear r2 ho3 HX hl2 hl3 hA2 hA3 hb3
  go_wp2_with fail
  refine (rising_any A B c d bs l w3 (by omega) hA hlc hld HL.out (hr.below hb13) (hs.below hb13)).mono ?_
  rintro e w5 ⟨v5, rfl, ho5, hb5⟩
  obtain ⟨A5, c5, rfl, hl5, hA5⟩ := ho5.form
  have hb15 := hb13.trans (hb5.mono hb13.size)
  have r1 := r1.below hb5
  clear hb13
  generalize hys : bs ++ risingBytes l = ys at ho5 hl5 ⊢
  have HY := Lib.hid hys
  clear hys
  go_wp2_with fail
  refine (rrising_any A1 B c1 d bs l w5 (by omega) hA1 hld HL.out r1 (hs.below hb15)).mono ?_
  rintro e w6 ⟨v6, rfl, ho6, hb6⟩
  rw [HY.out] at ho6
  obtain ⟨A6, c6, rfl, hl6, hA6⟩ := ho6.form
  have hb16 := hb15.trans (hb6.mono hb15.size)
  have r5 := (RB.of_own ho5).below hb6
  have r1 := r1.below hb6
  clear hb15 ho5 hb5
  go_wp2_with fail
  refine (equal_of _ _ _ _ _ _ ys ys _ r5 (RB.of_own ho6) rfl rfl (b := true) (by simp)).mono ?_
  rintro e w7 ⟨rfl, rfl⟩
  clear r5 ho6 HY hl5 hl6 hA5 hA6 hb6
  go_wp2_with fail
  refine (equal_of _ _ _ _ _ _ bs bs _ (hr.below hb16) r1 rfl rfl (b := true) (by simp)).mono ?_
  rintro e w8 ⟨rfl, rfl⟩
  go_wp2_with fail
  refine (awake_any _).mono ?_
  rintro e w9 ⟨rfl, hb9⟩
  go_wp2
  go_ret
  exact ⟨rfl, hb16.trans (hb9.mono hb16.size)⟩
end Go.Proofs.Ytcdggfojmfefkaa
