/- A number's bytes, read and written in place: the walks of number and digits. -/
import Derived.Test.YtjfpanamkkdebaaPgJ
import Derived.Test.YtjfpanamkkdebaaCoX
import Derived.Test.YtjfpanamkkdebaaFrS
import Derived.Test.YtjfpanamkkdebaaFrP
import Derived.Test.YtjfpanamkkdebaaPoH
namespace Go.Proofs.Ytjfpanamkkdebaa
open Go.RowKit
set_option linter.unusedVariables false
set_option linter.unusedSimpArgs false
theorem or_u32 (x b : Nat) (hb : b < 256) (hx : x < 16777216) : Go.bits .or .u32 ((x : Int) * 256) (b : Int) = ((x * 256 + b : Nat) : Int) := by
  have h := u32_or_nat (x * 256) b (by omega) (by omega)
  rw [fr_or_byte x b hb] at h
  exact h
set_option maxHeartbeats 1600000 in
theorem number_any (A : Option Addr) (c : Nat) (l : List UInt8) (w : World) (hr : RB w A l) (hl : l.length ≤ 4) :
    Calls Try.prog 78 #[.slice A l.length c] w fun e w' => e = .returned (.int .u32 (acc 0 l)) ∧ w = w' := by
  have HR := Lib.hid hr
  clear hr
  go_enter Try.func78, Try.ntmps78
  go_wp2_with fail
  go_loopg [3, 8] l.length (fun r s3 s8 wr => ∃ j : Nat, j + r = l.length ∧ s8 = .int .i64 j ∧ s3 = .int .u32 (acc 0 (l.take j)) ∧ w = wr)
  case atStart => exact ⟨0, by omega, rfl, rfl, rfl⟩
  case round =>
    obtain ⟨j, hj, rfl, rfl, rfl⟩ := hrel
    by_cases hjl : j < l.length
    · obtain ⟨a, rfl, hc⟩ := (HR.out).at (k := j) (by simpa using hjl)
      have ht : acc 0 (l.take (j + 1)) = acc 0 (l.take j) * 256 + l[j].toNat := by rw [List.take_succ_eq_append_getElem hjl, acc_snoc]
      have hlt := acc_lt (l.take j) 0
      rw [List.length_take, show min j l.length = j by omega, Nat.zero_add, Nat.one_mul] at hlt
      have hp : 256 ^ j ≤ 256 ^ 3 := Nat.pow_le_pow_right (by decide) (by omega)
      have hx : acc 0 (l.take j) < 16777216 := by have : (256 : Nat) ^ 3 = 16777216 := by decide
                                                  omega
      generalize l[j] = b at hc ht
      have hb : b.toNat < 256 := b.toNat_lt
      have HT := Lib.hid ht
      generalize acc 0 (l.take j) = x at hx HT
      have hj1 : decide ((j : Int) < (l.length : Int)) = true := decide_eq_true (by omega)
      have hj2 : (j : Int) < (l.length : Int) := by omega
      clear ht hp hlt
      go_wp2_with fail
      go_roundg (l.length - (j + 1))
      case measure => omega
      case rel => exact ⟨j + 1, by omega, by go_num, by rw [HT.out, or_u32 x b.toNat hb hx], rfl⟩
    · obtain rfl : j = l.length := by omega
      rw [List.take_length]
      have hj1 : decide ((l.length : Int) < (l.length : Int)) = false := decide_eq_false (by omega)
      go_wp2_with fail
      go_returns
      exact ⟨rfl, rfl⟩
/-- A row of bytes, whole. -/
def RowAt (w : World) (g : Nat) (bs : List UInt8) : Prop := w.heap[g]? = some (.cells (bs.map vb).toArray 5 (0, 0))
theorem shr_int (x k : Nat) : (x : Int) / 2 ^ (8 * k) = ((x / 256 ^ k : Nat) : Int) := by
  rw [show (256 : Nat) ^ k = 2 ^ (8 * k) by rw [Nat.pow_mul]]
  norm_cast
theorem row_set (bs T : List UInt8) (o j : Nat) {y : UInt8} (h : o + j < bs.length) (hj : j < T.length) (hy : T[j] = y) :
    (bs.take o ++ (T.take j ++ bs.drop (o + j))).set (o + j) y = bs.take o ++ (T.take (j + 1) ++ bs.drop (o + (j + 1))) := by
  have e1 : bs.drop (o + j) = bs[o + j] :: bs.drop (o + (j + 1)) := List.drop_eq_getElem_cons h
  have e2 : T.take (j + 1) = T.take j ++ [y] := by rw [List.take_succ_eq_append_getElem hj, hy]
  have l1 : (bs.take o).length = o := by rw [List.length_take]; omega
  have l2 : (T.take j).length = j := by rw [List.length_take]; omega
  rw [e1, e2, List.set_append, if_neg (by omega), l1, List.set_append, if_neg (by omega), l2, show o + j - o - j = 0 by omega, List.set_cons_zero, List.append_assoc]
  rfl
set_option maxHeartbeats 1600000 in
theorem digits_any (g o n c x : Nat) (bs : List UInt8) (w : World) (h : RowAt w g bs) (ho : o + n ≤ bs.length) (hn : n ≤ 4) (hx : x < 4294967296) :
    Calls Try.prog 84 #[.slice (some ⟨g, o, none⟩) n c, .int .u32 x] w fun e w' => e = .returned (.tuple #[]) ∧ RowAt w' g (bs.take o ++ (tailBytes x n ++ bs.drop (o + n))) ∧ w.grownBy w' (some g) := by
  have hlt := blk_lt h
  have HR := Lib.hid h
  clear h
  go_enter Try.func84, Try.ntmps84
  go_wp2_with fail
  go_loopg [7] n (fun r s7 wr => ∃ j : Nat, j + r = n ∧ s7 = .int .i64 j ∧ RowAt wr g (bs.take o ++ ((tailBytes x n).take j ++ bs.drop (o + j))) ∧ w.grownBy wr (some g))
  case atStart => exact ⟨0, by omega, rfl, by have := HR.out; simpa using this, World.grownBy.refl _ _⟩
  case round =>
    obtain ⟨j, hj, rfl, hr, hg⟩ := hrel
    by_cases hjl : j < n
    · have hj1 : decide ((j : Int) < (n : Int)) = true := decide_eq_true (by omega)
      have hj2 : (j : Int) < (n : Int) := by omega
      have hcell : ∃ v, wr.cell? ⟨g, o + j, none⟩ = some v := by
        unfold RowAt at hr
        rw [blk_cell hr]
        exact ⟨_, Array.getElem?_eq_getElem (by simp [tailBytes_length]; omega)⟩
      obtain ⟨v, hv⟩ := hcell
      have hf : wr.frozen? ⟨g, o + j, none⟩ = false := blk_free hr
      go_wp2_with fail
      have hT : (tailBytes x n)[j]'(by rw [tailBytes_length]; exact hjl) = UInt8.ofNat (x / 256 ^ (n - 1 - j)) := tailBytes_at x n j hjl
      have hv2 : Value.int .u8 ((x : Int) / 2 ^ (8 * (n - 1 - j)) % 256) = vb (UInt8.ofNat (x / 256 ^ (n - 1 - j))) := by
        rw [vb_ofNat, shr_int x (n - 1 - j)]
      have hset := heap_setCell_same wr g (o + j) _ _ (Value.int .u8 ((x : Int) / 2 ^ (8 * (n - 1 - j)) % 256)) hr
      have hgS := Lib.grownBy_setCell wr g (o + j) (Value.int .u8 ((x : Int) / 2 ^ (8 * (n - 1 - j)) % 256))
      have hnew : RowAt (wr.setCell ⟨g, o + j, none⟩ (Value.int .u8 ((x : Int) / 2 ^ (8 * (n - 1 - j)) % 256))) g (bs.take o ++ ((tailBytes x n).take (j + 1) ++ bs.drop (o + (j + 1)))) := by
        unfold RowAt
        rw [hset, hv2, List.setIfInBounds_toArray, ← List.map_set]
        congr 4
        exact row_set bs (tailBytes x n) o j (by omega) (by rw [tailBytes_length]; exact hjl) hT
      have HN := Lib.hid hnew
      have HG := Lib.hid (Lib.grownBy_trans hg hgS)
      clear hset hnew hv2 hT
      go_roundg (n - (j + 1))
      case measure => omega
      case rel => exact ⟨j + 1, by omega, by go_num, HN.out, HG.out⟩
    · obtain rfl : j = n := by omega
      have ht : (tailBytes x j).take j = tailBytes x j := List.take_of_length_le (by rw [tailBytes_length]; exact Nat.le_refl _)
      rw [ht] at hr
      clear ht
      have hj1 : decide ((j : Int) < (j : Int)) = false := decide_eq_false (by omega)
      go_wp2_with fail
      refine bodyPost_end (results_none rfl _ _ _) rfl ?_
      exact ⟨rfl, hr, hg⟩
end Go.Proofs.Ytjfpanamkkdebaa
