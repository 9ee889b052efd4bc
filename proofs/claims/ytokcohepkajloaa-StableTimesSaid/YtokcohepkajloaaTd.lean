/- Writes compared; the document's own comparisons. -/
import Derived.Test.YtokcohepkajloaaTc
namespace Go.Proofs.Ytokcohepkajloaa
open Go.RowKit
set_option linter.unusedVariables false
set_option linter.unusedSimpArgs false
set_option maxHeartbeats 1600000 in
theorem rless_any (a b : Int × Int) (w : World) :
    Calls Try.prog 30 #[dotv a, dotv b] w fun e w' => e = .returned (.bool (decide (a.1 < b.1 ∨ (a.1 = b.1 ∧ a.2 < b.2)))) ∧ Below w.heap.size w w' := by
  obtain ⟨a1, a2⟩ := a
  obtain ⟨b1, b2⟩ := b
  have hb : Below w.heap.size w ((w.alloc (.cells #[.int .i64 a1, .int .i64 a2] 48)).alloc (.cells #[.int .i64 b1, .int .i64 b2] 48)) := ((Below.refl _ _).alloc (Nat.le_refl _) _).alloc (by simp) _
  unfold dotv
  by_cases h1 : a1 < b1
  · have e : decide (a1 < b1 ∨ (a1 = b1 ∧ a2 < b2)) = true := decide_eq_true (.inl h1)
    rw [e]
    clear e
    go_enter Try.func30, Try.ntmps30
    go_wp2
    go_ret
    exact ⟨rfl, hb⟩
  · by_cases h2 : a1 = b1
    · subst h2
      have e : decide (a1 < a1 ∨ (a1 = a1 ∧ a2 < b2)) = decide (a2 < b2) := by simp
      rw [e]
      clear e h1
      go_enter Try.func30, Try.ntmps30
      go_wp2
      go_ret
      exact ⟨rfl, hb⟩
    · have e : decide (a1 < b1 ∨ (a1 = b1 ∧ a2 < b2)) = false := decide_eq_false (by omega)
      rw [e]
      clear e
      have hq : (a1 == b1) = false := beq_eq_false_iff_ne.mpr h2
      go_enter Try.func30, Try.ntmps30
      go_wp2
      go_ret
      exact ⟨rfl, hb⟩
end Go.Proofs.Ytokcohepkajloaa
