/- Writes compared. -/
import Derived.Test.YtokcohepkajloaaTd
namespace Go.Proofs.Ytokcohepkajloaa
open Go.RowKit
set_option linter.unusedVariables false
set_option linter.unusedSimpArgs false
structure Wr where
  dot : Int × Int
  time : Int
  doc : ByteArray
  field : Int
  text : ByteArray
def wcs (a : Wr) : List Value := [.int .i64 a.dot.1, .int .i64 a.dot.2, .int .i64 a.time, .string a.doc, .int .i64 a.field, .string a.text]
def wv (a : Wr) : Value := .agg (wcs a).toArray
def cmpWr (a b : Wr) : Int := orInt (cmpInt a.time b.time) (cmpDot a.dot b.dot)
set_option maxHeartbeats 1600000 in
theorem rahead_any (a b : Wr) (w : World) :
    Calls Try.prog 21 #[wv a, wv b] w fun e w' => e = .returned (.bool (decide (a.time < b.time ∨ (a.time = b.time ∧ (a.dot.1 < b.dot.1 ∨ (a.dot.1 = b.dot.1 ∧ a.dot.2 < b.dot.2)))))) ∧ Below w.heap.size w w' := by
  obtain ⟨⟨a1, a2⟩, at', ad, af, ax⟩ := a
  obtain ⟨⟨b1, b2⟩, bt, bd, bf, bx⟩ := b
  have HL := fun w => rless_any (a1, a2) (b1, b2) w
  unfold dotv at HL
  have HL := Lib.hid HL
  unfold wv wcs
  by_cases h1 : at' < bt
  · have e : decide (at' < bt ∨ (at' = bt ∧ (a1 < b1 ∨ (a1 = b1 ∧ a2 < b2)))) = true := decide_eq_true (.inl h1)
    rw [e]
    clear e
    go_enter Try.func21, Try.ntmps21
    go_wp2
    go_ret
    exact ⟨rfl, ((Below.refl _ _).alloc (Nat.le_refl _) _).alloc (by simp) _⟩
  · by_cases h2 : at' = bt
    · subst h2
      have e : decide (at' < at' ∨ (at' = at' ∧ (a1 < b1 ∨ (a1 = b1 ∧ a2 < b2)))) = decide (a1 < b1 ∨ (a1 = b1 ∧ a2 < b2)) := by simp
      rw [e]
      clear e h1
      simp only [] at HL
      generalize decide (a1 < b1 ∨ (a1 = b1 ∧ a2 < b2)) = z at HL ⊢
      go_enter Try.func21, Try.ntmps21
      go_wp2_with (go_at_call 30; refine (HL.out _).mono ?_; rintro e w' ⟨rfl, hb⟩)
      go_ret
      exact ⟨rfl, ((((Below.refl _ _).alloc (Nat.le_refl _) _).alloc (by simp) _).trans (hb.mono (by simp; omega)))⟩
    · have e : decide (at' < bt ∨ (at' = bt ∧ (a1 < b1 ∨ (a1 = b1 ∧ a2 < b2)))) = false := decide_eq_false (by omega)
      rw [e]
      clear e
      have hq : (at' == bt) = false := beq_eq_false_iff_ne.mpr h2
      go_enter Try.func21, Try.ntmps21
      go_wp2
      go_ret
      exact ⟨rfl, ((Below.refl _ _).alloc (Nat.le_refl _) _).alloc (by simp) _⟩
end Go.Proofs.Ytokcohepkajloaa
