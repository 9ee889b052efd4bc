/- cmp.Or of two; dots compared. -/
import Derived.Test.YtokcohepkajloaaTa
namespace Go.Proofs.Ytokcohepkajloaa
open Go.RowKit
set_option linter.unusedVariables false
set_option linter.unusedSimpArgs false
def orInt (a b : Int) : Int := if a = 0 then b else a
set_option maxHeartbeats 800000 in
theorem or_any (g : Nat) (a b : Int) (w : World) (h0 : w.cell? ⟨g, 0, none⟩ = some (.int .i64 a)) (h1 : w.cell? ⟨g, 1, none⟩ = some (.int .i64 b)) :
    Calls Try.prog 27 #[.slice (some ⟨g, 0, none⟩) 2 2] w fun e w' => e = .returned (.int .i64 (orInt a b)) ∧ w = w' := by
  by_cases ha : a = 0
  · have e1 : orInt a b = b := if_pos ha
    rw [e1]
    subst ha
    clear e1
    go_enter Try.func27, Try.ntmps27
    go_wp2
    go_loopg [8] 2 (fun r i wr => wr = w ∧ ∃ j : Nat, j + r = 2 ∧ i = .int .i64 j ∧ (j = 2 → b = 0))
    case atStart => exact ⟨rfl, 0, by omega, rfl, by omega⟩
    case round =>
      obtain ⟨rfl, j, hj, rfl, hb⟩ := hrel
      obtain rfl | rfl | rfl : j = 0 ∨ j = 1 ∨ j = 2 := by omega
      · go_wp2
        go_roundg 1
        case measure => omega
        case rel => exact ⟨rfl, 1, by omega, rfl, by omega⟩
      · by_cases hb0 : b = 0
        · subst hb0
          go_wp2
          go_roundg 0
          case measure => omega
          case rel => exact ⟨rfl, 2, by omega, rfl, by simp⟩
        · have hq : (b != 0) = true := bne_iff_ne.mpr hb0
          go_wp2
          go_ret
          exact ⟨rfl, rfl⟩
      · have hb2 := hb rfl
        subst hb2
        go_wp2
        go_ret
        exact ⟨rfl, rfl⟩
  · have e1 : orInt a b = a := if_neg ha
    rw [e1]
    clear e1
    have hq : (a != 0) = true := bne_iff_ne.mpr ha
    go_enter Try.func27, Try.ntmps27
    go_wp2
    go_loopg [8] 1 (fun r i wr => wr = w ∧ i = .int .i64 0)
    case atStart => exact ⟨rfl, rfl⟩
    case round =>
      obtain ⟨rfl, rfl⟩ := hrel
      go_wp2
      go_ret
      exact ⟨rfl, rfl⟩
end Go.Proofs.Ytokcohepkajloaa
