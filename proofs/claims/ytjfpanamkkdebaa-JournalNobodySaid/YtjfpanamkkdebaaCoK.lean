/- The walk of the law of numbers (chapter 1), and of its examples. -/
import Derived.Test.YtjfpanamkkdebaaCoJ
import Derived.Test.YtjfpanamkkdebaaRow
namespace Go.Proofs.Ytjfpanamkkdebaa
open Go.RowKit
set_option linter.unusedVariables false
set_option linter.unusedSimpArgs false
theorem num300 : numBytes (numNat 300) = [129, 44] := by decide
theorem rising349 : risingBytes [3, 4, 9] = [3, 3, 0, 4] := by decide
theorem equal_of (A B : Option Addr) (c d n m : Nat) (xs ys : List UInt8) (w : World) (hr : RB w A xs) (hs : RB w B ys) (hn : xs.length = n) (hm : ys.length = m) {b : Bool} (hb : (xs == ys) = b) :
    Calls Try.prog 14 #[.slice A n c, .slice B m d] w fun e w' => e = .returned (.bool b) ∧ w = w' := by
  subst hn hm hb
  exact equal_any A B c d xs ys w hr hs
theorem num300_any (w : World) :
    Calls Try.prog 68 #[.slice none 0 0, .int .i64 300] w fun e w' => ∃ v, e = .returned v ∧ OB w' w.heap.size v [129, 44] ∧ Below w.heap.size w w' := by
  have h := num_any none 0 [] 300 w (by decide) (by decide) (by simp) (by decide) (Lies.nil _ _)
  rw [num300] at h
  exact h
theorem two_new (w : World) : RB (w.alloc (.cells #[.int .u8 129, .int .u8 44] 5)) (some ⟨w.heap.size, 0, none⟩) [129, 44] := RB.new w 5 [129, 44] (0, 0)
theorem four_new (w : World) : RB (w.alloc (.cells #[.int .u8 3, .int .u8 3, .int .u8 0, .int .u8 4] 5)) (some ⟨w.heap.size, 0, none⟩) [3, 3, 0, 4] := RB.new w 5 [3, 3, 0, 4] (0, 0)
end Go.Proofs.Ytjfpanamkkdebaa
