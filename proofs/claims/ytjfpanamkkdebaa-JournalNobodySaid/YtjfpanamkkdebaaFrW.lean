/- The walks of the package frame. -/
import Derived.Test.YtjfpanamkkdebaaChecked
import Derived.Test.YtjfpanamkkdebaaFrA
import Derived.Test.YtjfpanamkkdebaaBase
import Derived.Deep.LoopGhost
import Derived.WalkLawsBesides
import Derived.WalkSpells
import Derived.Outline
import Derived.LoopTactic
import Derived.Lib.Hide
import Derived.LoopN
import Derived.Handy
namespace Go.Proofs.Ytjfpanamkkdebaa
open Go.RowKit
theorem and_one_u32 (n : Nat) (h : n < 4294967296) : Go.bits .and .u32 (n : Int) 1 = ((n % 2 : Nat) : Int) := by
  have := u32_and_nat n 1 h (by decide)
  rw [Nat.and_one_is_mod] at this
  exact this
theorem slide_any (b : Nat) (w : World) (hb : b < 256) :
    Calls Try.prog 87 #[.int .u8 b] w fun e w' => e = .returned (.int .u32 (crcSteps 8 b)) ∧ w = w' := by
  go_enter Try.func87, Try.ntmps87
  go_wp2
  go_loop [3, 7] (fun s i => ∃ k : Nat, k ≤ 8 ∧ i = .int .i64 k ∧ s = .int .u32 (crcSteps k b)) (fun _ i => 8 - (intOf i).toNat)
  case atStart => exact ⟨0, by omega, rfl, rfl⟩
  case round =>
    obtain ⟨k, hk, rfl, rfl⟩ := hrel
    by_cases hlt : k < 8
    · obtain ⟨s, hs⟩ : ∃ s, s = crcSteps k b := ⟨_, rfl⟩
      have hsl : s < 4294967296 := by rw [hs]; exact crcSteps_lt k (by omega)
      have HS : Hid (crcSteps (k + 1) b = crcStep s) := by rw [hs]; exact crcSteps_snoc k b
      rw [← hs]
      clear hs
      have e1 := and_one_u32 s hsl
      have E2 : Hid (Go.bits .xor .u32 ((s : Int) / 2) 3988292384 = (((s / 2) ^^^ 3988292384 : Nat) : Int)) := u32_xor_nat (s / 2) 3988292384 (by omega) (by decide)
      go_wp2
      · have h1 : ((s : Int) % 2 == 1) = true := by assumption
        have h1 : s % 2 = 1 := by simp at h1; omega
        go_round
        case rel => exact ⟨k + 1, by omega, by go_num, by rw [HS.out, crcStep, if_pos h1, E2.out]⟩
        case measure => simp [intOf]; omega
      · have h1 : ((s : Int) % 2 == 1) = false := by assumption
        have h1 : ¬ s % 2 = 1 := by simp at h1; omega
        go_round
        case rel => exact ⟨k + 1, by omega, by go_num, by rw [HS.out, crcStep, if_neg h1]; rfl⟩
        case measure => simp [intOf]; omega
    · obtain rfl : k = 8 := by omega
      go_wp2
      go_ret
      exact ⟨rfl, rfl⟩
theorem slide_int (b : Int) (w : World) (h0 : 0 ≤ b) (hb : b < 256) :
    Calls Try.prog 87 #[.int .u8 b] w fun e w' => e = .returned (.int .u32 (crcSteps 8 b.toNat)) ∧ w = w' := by
  have h := slide_any b.toNat w (by omega)
  rw [Int.toNat_of_nonneg h0] at h
  exact h
set_option maxHeartbeats 400000 in
theorem column_any (w : World) :
    Calls Try.prog 83 #[] w fun e w' => e = .returned (.agg #[.int .u32 (crcSteps 8 1), .int .u32 (crcSteps 8 2), .int .u32 (crcSteps 8 4), .int .u32 (crcSteps 8 8), .int .u32 (crcSteps 8 16), .int .u32 (crcSteps 8 32), .int .u32 (crcSteps 8 64), .int .u32 (crcSteps 8 128)]) ∧ Below w.heap.size w w' := by
  go_enter Try.func83, Try.ntmps83
  go_wp2
  refine wp_loop_rounds 9 ?_
  iterate 9
    rw [rounds_succ]
    go_wp2_with (go_at_call 87; refine (slide_int _ _ (by omega) (by omega)).mono ?_; rintro e w' ⟨rfl, rfl⟩)
  exact bodyPost_ret (v := .agg #[.int .u32 (crcSteps 8 1), .int .u32 (crcSteps 8 2), .int .u32 (crcSteps 8 4), .int .u32 (crcSteps 8 8), .int .u32 (crcSteps 8 16), .int .u32 (crcSteps 8 32), .int .u32 (crcSteps 8 64), .int .u32 (crcSteps 8 128)]) (by simp [results, Try.results83, go_sem]) rfl ⟨rfl, ((Below.refl _ _).alloc (Nat.le_refl _) _).alloc (by simp) _⟩
/-- The table of the eight bytes with one bit each. -/
def crcTab : Array Value := #[.int .u32 (crcSteps 8 1), .int .u32 (crcSteps 8 2), .int .u32 (crcSteps 8 4), .int .u32 (crcSteps 8 8), .int .u32 (crcSteps 8 16), .int .u32 (crcSteps 8 32), .int .u32 (crcSteps 8 64), .int .u32 (crcSteps 8 128)]
theorem crcTab_at {i : Nat} (h : i < 8) : crcTab[i]? = some (.int .u32 (crcSteps 8 (2 ^ i) : Nat)) := by
  rcases i with _ | _ | _ | _ | _ | _ | _ | _ | i <;> first | rfl | omega
set_option maxHeartbeats 800000 in
theorem sum_any (A : Option Addr) (c : Nat) (bs : List UInt8) (w : World) (hm : bs.length ≤ 9223372036854775807) (hr : RB w A bs) :
    Calls Try.prog 74 #[.slice A bs.length c] w fun e w' => e = .returned (.int .u32 (crc bs)) ∧ Below w.heap.size w w' := by
  go_enter Try.func74, Try.ntmps74
  go_wp2_with (go_at_call 83; refine (column_any _).mono ?_; rintro e w1 ⟨rfl, hb⟩)
  have hb2 : Below w.heap.size w (w1.alloc (.cells crcTab 131)) := hb.alloc hb.size _
  have ht : ∀ i, i < 8 → (w1.alloc (.cells crcTab 131)).cell? ⟨w1.heap.size, i, none⟩ = some (.int .u32 (crcSteps 8 (2 ^ i) : Nat)) := by
    intro i hi
    rw [← crcTab_at hi]
    exact World.cell?_alloc_at crcTab _ _ _ rfl
  have hr2 := hr.below hb2
  obtain ⟨g, hg⟩ : ∃ g, g = w1.heap.size := ⟨_, rfl⟩
  unfold crcTab at hb2 ht hr2
  rw [← hg] at ht ⊢
  generalize w1.alloc _ = W at hb2 ht hr2 ⊢
  clear hr hb hg
  go_loopg [4, 12] bs.length (fun n s i w' => w' = W ∧ ∃ k : Nat, k + n = bs.length ∧ i = .int .i64 k ∧ s = .int .u32 (crcFold 4294967295 (bs.take k)))
  case atStart => exact ⟨rfl, 0, by omega, rfl, rfl⟩
  case round =>
    obtain ⟨rfl, k, hk, rfl, rfl⟩ := hrel
    by_cases hlt : k < bs.length
    · obtain ⟨a, rfl, hc⟩ := hr2.at hlt
      obtain ⟨s, hs⟩ : ∃ s, s = crcFold 4294967295 (bs.take k) := ⟨_, rfl⟩
      have hsl : s < 4294967296 := by rw [hs]; exact crcFold_lt _ (by decide)
      have HS : Hid (crcFold 4294967295 (bs.take (k + 1)) = crcByte s bs[k]) := by rw [List.take_succ_eq_append_getElem hlt, crcFold_snoc, hs]; rfl
      rw [← hs]
      clear hs
      obtain ⟨x, hx⟩ : ∃ x, x = bs[k].toNat := ⟨_, rfl⟩
      have hxl : x < 256 := by rw [hx]; exact UInt8.toNat_lt _
      rw [← hx] at hc
      have HX := Lib.hid hx
      clear hx
      have e1 : Go.bits .xor .u8 ((s : Int) % 256) (x : Int) = (((s % 256) ^^^ x : Nat) : Int) := u8_xor_nat (s % 256) x (by omega) hxl
      go_wp2
      obtain ⟨low, hlo⟩ : ∃ low, low = (s % 256) ^^^ x := ⟨_, rfl⟩
      have hll : low < 256 := by rw [hlo]; exact Nat.xor_lt_two_pow (n := 8) (by omega) hxl
      have HB : Hid (crcByte s bs[k] = (s / 256) ^^^ crcSteps 8 low) := by rw [hlo, HX.out]; exact crcByte_table s _
      rw [← hlo]
      clear hlo e1
      go_loopg [4, 22] 8 (fun n s4 i w' => w' = wr ∧ ∃ j : Nat, j + n = 8 ∧ i = .int .i64 j ∧ s4 = .int .u32 (((s / 256) ^^^ crcSteps 8 (low % 2 ^ j) : Nat) : Int))
      case atStart => exact ⟨rfl, 0, by omega, rfl, by simp [Nat.mod_one, show crcSteps 8 0 = 0 by decide]⟩
      case round =>
        obtain ⟨rfl, j, hj, rfl, rfl⟩ := hrel
        by_cases hjt : j < 8
        · have htj := ht j hjt
          have hct : crcSteps 8 (2 ^ j) < 4294967296 := crcSteps_lt 8 (by have : 2 ^ j < 2 ^ 8 := Nat.pow_lt_pow_right (by decide) hjt; omega)
          have hcl : crcSteps 8 (low % 2 ^ j) < 4294967296 := crcSteps_lt 8 (by have := Nat.mod_le low (2 ^ j); omega)
          have EX : Hid _ := Lib.hid (u32_xor_nat _ _ (xor_lt32 (show s / 256 < 4294967296 by omega) hcl) hct)
          have HN : Hid (crcSteps 8 (low % 2 ^ (j + 1)) = if low / 2 ^ j % 2 = 1 then crcSteps 8 (low % 2 ^ j) ^^^ crcSteps 8 (2 ^ j) else crcSteps 8 (low % 2 ^ j)) := crcSteps_bit low j
          have e3 : Go.bits .and .u8 ((low : Int) / 2 ^ j) 1 = ((low / 2 ^ j % 2 : Nat) : Int) := by
            have := u8_and_nat (low / 2 ^ j) 1 (by have := Nat.div_le_self low (2 ^ j); omega) (by decide)
            rw [Nat.and_one_is_mod] at this
            rw [← this]; simp
          clear hct hcl
          by_cases hbit : low / 2 ^ j % 2 = 1
          · have hq : (Go.bits .and .u8 ((low : Int) / 2 ^ j) 1 == 1) = true := by rw [e3, hbit]; rfl
            have HBit := Lib.hid hbit
            clear hbit e3
            go_wp2
            go_roundg (8 - j - 1)
            case measure => omega
            case rel => exact ⟨rfl, j + 1, by omega, by go_num, by rw [HN.out, if_pos HBit.out, ← Nat.xor_assoc]; rw [EX.out]⟩
          · have hq : (Go.bits .and .u8 ((low : Int) / 2 ^ j) 1 == 1) = false := by
              rw [e3, show low / 2 ^ j % 2 = 0 by omega]; rfl
            have HBit := Lib.hid hbit
            clear hbit e3
            go_wp2
            go_roundg (8 - j - 1)
            case measure => omega
            case rel => exact ⟨rfl, j + 1, by omega, by go_num, by rw [HN.out, if_neg HBit.out]⟩
        · obtain rfl : j = 8 := by omega
          have HM : Hid (low % 2 ^ 8 = low) := Nat.mod_eq_of_lt hll
          go_wp2
          go_roundg (bs.length - k - 1)
          case measure => omega
          case rel => exact ⟨rfl, k + 1, by omega, by go_num, by rw [HS.out, HB.out, HM.out]⟩
    · obtain rfl : k = bs.length := by omega
      go_wp2
      go_ret
      exact ⟨ret_int (by rw [show IntKind.u32.max = ((4294967295 : Nat) : Int) from rfl, u32_xor_nat _ _ (by decide) (crcFold_lt bs (by decide)), Nat.xor_comm]; rfl), hb2⟩
end Go.Proofs.Ytjfpanamkkdebaa
