/- The examples, and the law of a matrix that no call made. -/
import Derived.Test.YtokcohepkajloaaMs
namespace Go.Proofs.Ytokcohepkajloaa
open Go.RowKit
set_option linter.unusedVariables false
set_option linter.unusedSimpArgs false
def va : List Int := 3 :: 1 :: List.replicate 62 0
def vb2 : List Int := 2 :: 5 :: List.replicate 62 0
def vc : List Int := 2 :: 1 :: List.replicate 62 0
theorem va_eq : (#[.int .i64 3, .int .i64 1, .int .i64 0, .int .i64 0, .int .i64 0, .int .i64 0, .int .i64 0, .int .i64 0, .int .i64 0, .int .i64 0, .int .i64 0, .int .i64 0, .int .i64 0, .int .i64 0, .int .i64 0, .int .i64 0, .int .i64 0, .int .i64 0, .int .i64 0, .int .i64 0, .int .i64 0, .int .i64 0, .int .i64 0, .int .i64 0, .int .i64 0, .int .i64 0, .int .i64 0, .int .i64 0, .int .i64 0, .int .i64 0, .int .i64 0, .int .i64 0, .int .i64 0, .int .i64 0, .int .i64 0, .int .i64 0, .int .i64 0, .int .i64 0, .int .i64 0, .int .i64 0, .int .i64 0, .int .i64 0, .int .i64 0, .int .i64 0, .int .i64 0, .int .i64 0, .int .i64 0, .int .i64 0, .int .i64 0, .int .i64 0, .int .i64 0, .int .i64 0, .int .i64 0, .int .i64 0, .int .i64 0, .int .i64 0, .int .i64 0, .int .i64 0, .int .i64 0, .int .i64 0, .int .i64 0, .int .i64 0, .int .i64 0, .int .i64 0] : Array Value) = (ic va).toArray := rfl
theorem vb_eq : (#[.int .i64 2, .int .i64 5, .int .i64 0, .int .i64 0, .int .i64 0, .int .i64 0, .int .i64 0, .int .i64 0, .int .i64 0, .int .i64 0, .int .i64 0, .int .i64 0, .int .i64 0, .int .i64 0, .int .i64 0, .int .i64 0, .int .i64 0, .int .i64 0, .int .i64 0, .int .i64 0, .int .i64 0, .int .i64 0, .int .i64 0, .int .i64 0, .int .i64 0, .int .i64 0, .int .i64 0, .int .i64 0, .int .i64 0, .int .i64 0, .int .i64 0, .int .i64 0, .int .i64 0, .int .i64 0, .int .i64 0, .int .i64 0, .int .i64 0, .int .i64 0, .int .i64 0, .int .i64 0, .int .i64 0, .int .i64 0, .int .i64 0, .int .i64 0, .int .i64 0, .int .i64 0, .int .i64 0, .int .i64 0, .int .i64 0, .int .i64 0, .int .i64 0, .int .i64 0, .int .i64 0, .int .i64 0, .int .i64 0, .int .i64 0, .int .i64 0, .int .i64 0, .int .i64 0, .int .i64 0, .int .i64 0, .int .i64 0, .int .i64 0, .int .i64 0] : Array Value) = (ic vb2).toArray := rfl
theorem vc_eq : (#[.int .i64 2, .int .i64 1, .int .i64 0, .int .i64 0, .int .i64 0, .int .i64 0, .int .i64 0, .int .i64 0, .int .i64 0, .int .i64 0, .int .i64 0, .int .i64 0, .int .i64 0, .int .i64 0, .int .i64 0, .int .i64 0, .int .i64 0, .int .i64 0, .int .i64 0, .int .i64 0, .int .i64 0, .int .i64 0, .int .i64 0, .int .i64 0, .int .i64 0, .int .i64 0, .int .i64 0, .int .i64 0, .int .i64 0, .int .i64 0, .int .i64 0, .int .i64 0, .int .i64 0, .int .i64 0, .int .i64 0, .int .i64 0, .int .i64 0, .int .i64 0, .int .i64 0, .int .i64 0, .int .i64 0, .int .i64 0, .int .i64 0, .int .i64 0, .int .i64 0, .int .i64 0, .int .i64 0, .int .i64 0, .int .i64 0, .int .i64 0, .int .i64 0, .int .i64 0, .int .i64 0, .int .i64 0, .int .i64 0, .int .i64 0, .int .i64 0, .int .i64 0, .int .i64 0, .int .i64 0, .int .i64 0, .int .i64 0, .int .i64 0, .int .i64 0] : Array Value) = (ic vc).toArray := rfl
def rows0 : List (List Int) := List.replicate 2 (List.replicate 64 0)
def rows1 : List (List Int) := rows0.set 0 (joinv rows0[0] va)
def rows2 : List (List Int) := rows1.set 1 (joinv rows1[1] vb2)
theorem stab_rows2 : stab rows2 = vc := by decide
theorem guard_vec : Try.prog.eqGuardType Try.prog.depth 27 = false := by kernel_rfl
set_option maxHeartbeats 1600000 in
theorem awake_any (w : World) :
    Calls Try.prog 13 #[] w fun e w' => e = .returned (.bool true) ∧ Below w.heap.size w w' := by
  have H1 := fun (g R : Nat) (w : World) (h : Mat w g R rows0) => note_in g R 0 rows0 va w h (by decide) (by decide)
  have H2 := fun (g R : Nat) (w : World) (h : Mat w g R rows1) => note_in g R 1 rows1 vb2 w h (by decide) (by decide)
  have H3 := fun (g R : Nat) (w : World) (h : Mat w g R rows2) => stable_any g R rows2 w h (by decide) (by decide)
  rw [stab_rows2] at H3
  have heq : ∀ w, (Op.equalIn 10000 27 (vv vc) (vv vc)).run Try.prog w = .ok true w := fun w => by
    have := run_equalIn_vec (P := Try.prog) w 9998 27 3 64 vc vc Try.underlying27 Try.underlying3 Try.isAgg3 Try.sizeOf3 (by decide) (by decide)
    rwa [beq_self_eq_true] at this
  unfold vv at H1 H2 H3 heq
  have H1 : Hid (∀ (g R : Nat) (w : World) (h : Mat w g R rows0), Calls Try.prog 9 #[.pointer (some ⟨g, 0, none⟩), .int .i64 0, .agg (ic va).toArray] w fun e w' => e = .returned (.bool true) ∧ Mat w' g R rows1 ∧ w.grownBy w' (some R)) := H1
  have H2 : Hid (∀ (g R : Nat) (w : World) (h : Mat w g R rows1), Calls Try.prog 9 #[.pointer (some ⟨g, 0, none⟩), .int .i64 1, .agg (ic vb2).toArray] w fun e w' => e = .returned (.bool true) ∧ Mat w' g R rows2 ∧ w.grownBy w' (some R)) := H2
  have H3 := Lib.hid H3
  have HN : Hid (∀ w, Calls Try.prog 7 #[.int .i64 2] w fun e w' => ∃ g R, e = .returned (.pointer (some ⟨g, 0, none⟩)) ∧ Mat w' g R rows0 ∧ w.heap.size ≤ R ∧ Below w.heap.size w w') := fun w => new_any 2 w (by decide) (by decide)
  have HG := guard_vec
  have hva := Lib.hid va_eq
  have hvb := Lib.hid vb_eq
  have hvc := Lib.hid vc_eq
  generalize (ic va).toArray = xa at H1 hva
  generalize (ic vb2).toArray = xb at H2 hvb
  generalize (ic vc).toArray = xc at H3 hvc heq
  generalize rows0 = q0 at H1 HN
  generalize rows1 = q1 at H1 H2
  generalize rows2 = q2 at H2 H3
  go_enter Try.func13, Try.ntmps13
  go_wp2_with fail
  refine (HN.out w).mono ?_
  rintro e w1 ⟨g, R, rfl, hM1, hR, hb1⟩
  go_wp2_with fail
  rw [hva.out]
  refine (H1.out g R w1 hM1).mono ?_
  rintro e w2 ⟨rfl, hM2, hg2⟩
  have hb2 := hb1.grown hg2 hb1.size (by intro k hk; injection hk with hk; omega)
  go_wp2_with fail
  rw [hvb.out]
  refine (H2.out g R w2 hM2).mono ?_
  rintro e w3 ⟨rfl, hM3, hg3⟩
  have hb3 := hb2.grown hg3 hb2.size (by intro k hk; injection hk with hk; omega)
  go_wp2_with fail
  refine (H3.out g R w3 hM3).mono ?_
  rintro e w4 ⟨rfl, hb4⟩
  have hb04 := hb3.trans (hb4.mono hb3.size)
  go_wp2_with fail
  rw [hvc.out]
  rw [heq]
  simp only [Result.andThen_ok]
  rw [Oper.upon_value]
  go_wp2
  go_ret
  exact ⟨rfl, hb04⟩
end Go.Proofs.Ytokcohepkajloaa
