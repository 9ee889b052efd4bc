/- The walks of the coder's writers, of numbers of either sign, texts, numbers that rise. -/
import Derived.Test.YtjfpanamkkdebaaCoW
import Derived.BigQuiet
import Derived.Deep.QuietTactic
import Derived.Lib.AppendStr
namespace Go.Proofs.Ytjfpanamkkdebaa
open Go.RowKit
set_option linter.unusedVariables false
set_option linter.unusedSimpArgs false
theorem zig {n : Int} (h0 : -9223372036854775808 ≤ n) (h1 : n ≤ 9223372036854775807) : Go.bits .xor .u64 (IntKind.u64.wrap (IntKind.u64.wrap n * 2)) (IntKind.u64.wrap (n / 9223372036854775808)) = ((signNat n : Nat) : Int) := by
  rw [IntKind.wrap_u64, IntKind.wrap_u64, IntKind.wrap_u64, signNat]
  split
  · rename_i h
    have e1 : n / 9223372036854775808 % 18446744073709551616 = ((18446744073709551615 : Nat) : Int) := by omega
    have e2 : n % 18446744073709551616 * 2 % 18446744073709551616 = ((18446744073709551615 - (2 * (-(n + 1)).toNat + 1) : Nat) : Int) := by omega
    rw [e1, e2, u64_xor_nat _ _ (by omega) (by decide), xor_ones (by omega)]
    omega
  · rename_i h
    have e1 : n / 9223372036854775808 % 18446744073709551616 = ((0 : Nat) : Int) := by omega
    have e2 : n % 18446744073709551616 * 2 % 18446744073709551616 = ((2 * n.toNat : Nat) : Int) := by omega
    rw [e1, e2, u64_xor_nat _ _ (by omega) (by decide), Nat.xor_zero]
/-- How many bytes gaps take. -/
theorem gapBytes_le (l : List Int) : ∀ d, (gapBytes d l).length ≤ 9 * l.length := by
  induction l with
  | nil => intro d; simp [gapBytes]
  | cons x l ih =>
    intro d
    have h1 := ih x
    have h2 := need_le (x - d - 1).toNat
    simp only [gapBytes, List.length_append, numBytes_length, List.length_cons]
    omega
theorem gap_of {x d : Int} (h0 : d < x) (h1 : -1 ≤ d) (h2 : x ≤ 9223372036854775807) : wrap64 (wrap64 (x - d) - 1) = x - d - 1 := by unfold wrap64; omega
end Go.Proofs.Ytjfpanamkkdebaa
