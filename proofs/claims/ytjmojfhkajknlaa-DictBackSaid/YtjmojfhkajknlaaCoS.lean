/- The walks of the coder's writers, of numbers of either sign, texts, numbers that rise. -/
import Derived.Test.YtjmojfhkajknlaaCoW
import Derived.BigQuiet
import Derived.Deep.QuietTactic
import Derived.Lib.AppendStr
namespace Go.Proofs.Ytjmojfhkajknlaa
open Go.RowKit
set_option linter.unusedVariables false
set_option linter.unusedSimpArgs false
theorem zig {n : Int} (h0 : -9223372036854775808 ≤ n) (h1 : n ≤ 9223372036854775807) : Go.bits .xor .u64 (IntKind.u64.wrap (IntKind.u64.wrap n * 2)) (IntKind.u64.wrap (n / 9223372036854775808)) = ((signNat n : Nat) : Int) := by
  rw [IntKind.wrap_u64, IntKind.wrap_u64, IntKind.wrap_u64, signNat]
  split
  · rename_i h
    have e1 : n / 9223372036854775808 % 18446744073709551616 = ((18446744073709551615 : Nat) : Int) := by omega
    have e2 : n % 18446744073709551616 * 2 % 18446744073709551616 = ((18446744073709551615 - (2 * (-(n + 1)).toNat + 1) : Nat) : Int) := by omega
    rw [e1, e2, u64_xor_nat _ _ (by omega) (by decide), xor_ones (by omega)]
    omega
  · rename_i h
    have e1 : n / 9223372036854775808 % 18446744073709551616 = ((0 : Nat) : Int) := by omega
    have e2 : n % 18446744073709551616 * 2 % 18446744073709551616 = ((2 * n.toNat : Nat) : Int) := by omega
    rw [e1, e2, u64_xor_nat _ _ (by omega) (by decide), Nat.xor_zero]
set_option maxHeartbeats 800000 in
theorem text_any (A : Option Addr) (c : Nat) (bs : List UInt8) (s : ByteArray) (w : World) (hm : bs.length + s.size ≤ 140737488355000) (hA : A = none → c = 0) (hlc : bs.length ≤ c) (hr : RB w A bs) :
    Calls Try.prog 29 #[.slice A bs.length c, .string s] w fun e w' => ∃ v, e = .returned v ∧ OB w' w.heap.size v (bs ++ textBytes s.data.toList) ∧ Below w.heap.size w w' := by
  have HML : Hid (maxLen = 9223372036854775807) := rfl
  obtain ⟨i0, hi, hz0, hz1, hz2⟩ := info_parts info_u8
  have hns : numNat (s.size : Int) = s.size := by unfold numNat; omega
  have hnl : (numBytes s.size).length ≤ 9 := by rw [numBytes_length]; have := need_le s.size; omega
  have HC := num_any A c bs (s.size : Int) w (by omega) (by omega) hA hlc hr
  rw [hns] at HC
  have HC := Lib.hid HC
  clear hns
  go_enter Try.func29, Try.ntmps29
  go_wp2_with fail
  refine HC.out.mono ?_
  rintro e w1 ⟨v1, rfl, ho, hb⟩
  have hol := ho
  unfold OB at hol
  have hll : (bs ++ numBytes s.size).length ≤ bs.length + 9 := by rw [List.length_append]; omega
  go_wp2_with (at_builtin; refine Lib.wpList_append_own_string _ rfl _ _ 36 9 rfl w.heap.size 5 i0 Try.underlying36 Try.underlying9 hi hz0 hz1 hz2 _ _ _ rfl hol s rfl ?c1 ?c2 ?c3 ?_)
  case c1 => rw [HML.out]; omega
  case c2 => omega
  case c3 => exact hb.size
  intro v2 w2 hown2 hg2 _
  go_wp2
  go_ret
  refine ⟨_, rfl, OB.mk hown2 ?_ ?_, hb.grown hg2 hb.size (by intro j hj; exact (World.ownsRow.lt hol j hj).1)⟩
  · have : s.data.toList.length = s.size := by rw [Array.length_toList]; rfl
    simp only [textBytes, List.length_append, this]; omega
  · have : s.data.toList.length = s.size := by rw [Array.length_toList]; rfl
    rw [textBytes, this, List.map_append, List.map_append]
    rfl
/-- How many bytes gaps take. -/
theorem gapBytes_le (l : List Int) : ∀ d, (gapBytes d l).length ≤ 9 * l.length := by
  induction l with
  | nil => intro d; simp [gapBytes]
  | cons x l ih =>
    intro d
    have h1 := ih x
    have h2 := need_le (x - d - 1).toNat
    simp only [gapBytes, List.length_append, numBytes_length, List.length_cons]
    omega
theorem gap_of {x d : Int} (h0 : d < x) (h1 : -1 ≤ d) (h2 : x ≤ 9223372036854775807) : wrap64 (wrap64 (x - d) - 1) = x - d - 1 := by unfold wrap64; omega
end Go.Proofs.Ytjmojfhkajknlaa
