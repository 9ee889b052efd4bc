/- The walks of the package frame.
   The walks of Seal and Open. -/
import Derived.Test.YtjfpanamkkdebaaChecked
import Derived.Test.YtjfpanamkkdebaaMaE
import Derived.Test.YtjfpanamkkdebaaMaA
import Derived.Deep.LoopGhost
import Derived.WalkLawsBesides
import Derived.WalkSpells
import Derived.Outline
import Derived.LoopTactic
import Derived.Lib.Hide
import Derived.LoopN
import Derived.Handy
import Derived.Test.YtjfpanamkkdebaaMaD
import Derived.Lib.SlBytesConst
namespace Go.Proofs.Ytjfpanamkkdebaa
open Go.RowKit
theorem and_one_u32 (n : Nat) (h : n < 4294967296) : Go.bits .and .u32 (n : Int) 1 = ((n % 2 : Nat) : Int) := by
  have := u32_and_nat n 1 h (by decide)
  rw [Nat.and_one_is_mod] at this
  exact this
theorem slide_any (b : Nat) (w : World) (hb : b < 256) :
    Calls Try.prog 87 #[.int .u8 b] w fun e w' => e = .returned (.int .u32 (crcSteps 8 b)) ∧ w = w' := by
  go_enter Try.func87, Try.ntmps87
  go_wp2
  go_loop [3, 7] (fun s i => ∃ k : Nat, k ≤ 8 ∧ i = .int .i64 k ∧ s = .int .u32 (crcSteps k b)) (fun _ i => 8 - (intOf i).toNat)
  case atStart => exact ⟨0, by omega, rfl, rfl⟩
  case round =>
    obtain ⟨k, hk, rfl, rfl⟩ := hrel
    by_cases hlt : k < 8
    · obtain ⟨s, hs⟩ : ∃ s, s = crcSteps k b := ⟨_, rfl⟩
      have hsl : s < 4294967296 := by rw [hs]; exact crcSteps_lt k (by omega)
      have HS : Hid (crcSteps (k + 1) b = crcStep s) := by rw [hs]; exact crcSteps_snoc k b
      rw [← hs]
      clear hs
      have e1 := and_one_u32 s hsl
      have E2 : Hid (Go.bits .xor .u32 ((s : Int) / 2) 3988292384 = (((s / 2) ^^^ 3988292384 : Nat) : Int)) := u32_xor_nat (s / 2) 3988292384 (by omega) (by decide)
      go_wp2
      · have h1 : ((s : Int) % 2 == 1) = true := by assumption
        have h1 : s % 2 = 1 := by simp at h1; omega
        go_round
        case rel => exact ⟨k + 1, by omega, by go_num, by rw [HS.out, crcStep, if_pos h1, E2.out]⟩
        case measure => simp [intOf]; omega
      · have h1 : ((s : Int) % 2 == 1) = false := by assumption
        have h1 : ¬ s % 2 = 1 := by simp at h1; omega
        go_round
        case rel => exact ⟨k + 1, by omega, by go_num, by rw [HS.out, crcStep, if_neg h1]; rfl⟩
        case measure => simp [intOf]; omega
    · obtain rfl : k = 8 := by omega
      go_wp2
      go_ret
      exact ⟨rfl, rfl⟩
theorem slide_int (b : Int) (w : World) (h0 : 0 ≤ b) (hb : b < 256) :
    Calls Try.prog 87 #[.int .u8 b] w fun e w' => e = .returned (.int .u32 (crcSteps 8 b.toNat)) ∧ w = w' := by
  have h := slide_any b.toNat w (by omega)
  rw [Int.toNat_of_nonneg h0] at h
  exact h
set_option maxHeartbeats 400000 in
theorem column_any (w : World) :
    Calls Try.prog 83 #[] w fun e w' => e = .returned (.agg #[.int .u32 (crcSteps 8 1), .int .u32 (crcSteps 8 2), .int .u32 (crcSteps 8 4), .int .u32 (crcSteps 8 8), .int .u32 (crcSteps 8 16), .int .u32 (crcSteps 8 32), .int .u32 (crcSteps 8 64), .int .u32 (crcSteps 8 128)]) ∧ Below w.heap.size w w' := by
  go_enter Try.func83, Try.ntmps83
  go_wp2
  refine wp_loop_rounds 9 ?_
  iterate 9
    rw [rounds_succ]
    go_wp2_with (go_at_call 87; refine (slide_int _ _ (by omega) (by omega)).mono ?_; rintro e w' ⟨rfl, rfl⟩)
  exact bodyPost_ret (v := .agg #[.int .u32 (crcSteps 8 1), .int .u32 (crcSteps 8 2), .int .u32 (crcSteps 8 4), .int .u32 (crcSteps 8 8), .int .u32 (crcSteps 8 16), .int .u32 (crcSteps 8 32), .int .u32 (crcSteps 8 64), .int .u32 (crcSteps 8 128)]) (by simp [results, Try.results83, go_sem]) rfl ⟨rfl, ((Below.refl _ _).alloc (Nat.le_refl _) _).alloc (by simp) _⟩
/-- The table of the eight bytes with one bit each. -/
def crcTab : Array Value := #[.int .u32 (crcSteps 8 1), .int .u32 (crcSteps 8 2), .int .u32 (crcSteps 8 4), .int .u32 (crcSteps 8 8), .int .u32 (crcSteps 8 16), .int .u32 (crcSteps 8 32), .int .u32 (crcSteps 8 64), .int .u32 (crcSteps 8 128)]
theorem crcTab_at {i : Nat} (h : i < 8) : crcTab[i]? = some (.int .u32 (crcSteps 8 (2 ^ i) : Nat)) := by
  rcases i with _ | _ | _ | _ | _ | _ | _ | _ | i <;> first | rfl | omega
set_option maxHeartbeats 800000 in
theorem sum_any (A : Option Addr) (c : Nat) (bs : List UInt8) (w : World) (hm : bs.length ≤ 9223372036854775807) (hr : RB w A bs) :
    Calls Try.prog 74 #[.slice A bs.length c] w fun e w' => e = .returned (.int .u32 (crc bs)) ∧ Below w.heap.size w w' := by
  go_enter Try.func74, Try.ntmps74
  go_wp2_with (go_at_call 83; refine (column_any _).mono ?_; rintro e w1 ⟨rfl, hb⟩)
  have hb2 : Below w.heap.size w (w1.alloc (.cells crcTab 131)) := hb.alloc hb.size _
  have ht : ∀ i, i < 8 → (w1.alloc (.cells crcTab 131)).cell? ⟨w1.heap.size, i, none⟩ = some (.int .u32 (crcSteps 8 (2 ^ i) : Nat)) := by
    intro i hi
    rw [← crcTab_at hi]
    exact World.cell?_alloc_at crcTab _ _ _ rfl
  have hr2 := hr.below hb2
  obtain ⟨g, hg⟩ : ∃ g, g = w1.heap.size := ⟨_, rfl⟩
  unfold crcTab at hb2 ht hr2
  rw [← hg] at ht ⊢
  generalize w1.alloc _ = W at hb2 ht hr2 ⊢
  clear hr hb hg
  go_loopg [4, 12] bs.length (fun n s i w' => w' = W ∧ ∃ k : Nat, k + n = bs.length ∧ i = .int .i64 k ∧ s = .int .u32 (crcFold 4294967295 (bs.take k)))
  case atStart => exact ⟨rfl, 0, by omega, rfl, rfl⟩
  case round =>
    obtain ⟨rfl, k, hk, rfl, rfl⟩ := hrel
    by_cases hlt : k < bs.length
    · obtain ⟨a, rfl, hc⟩ := hr2.at hlt
      obtain ⟨s, hs⟩ : ∃ s, s = crcFold 4294967295 (bs.take k) := ⟨_, rfl⟩
      have hsl : s < 4294967296 := by rw [hs]; exact crcFold_lt _ (by decide)
      have HS : Hid (crcFold 4294967295 (bs.take (k + 1)) = crcByte s bs[k]) := by rw [List.take_succ_eq_append_getElem hlt, crcFold_snoc, hs]; rfl
      rw [← hs]
      clear hs
      obtain ⟨x, hx⟩ : ∃ x, x = bs[k].toNat := ⟨_, rfl⟩
      have hxl : x < 256 := by rw [hx]; exact UInt8.toNat_lt _
      rw [← hx] at hc
      have HX := Lib.hid hx
      clear hx
      have e1 : Go.bits .xor .u8 ((s : Int) % 256) (x : Int) = (((s % 256) ^^^ x : Nat) : Int) := u8_xor_nat (s % 256) x (by omega) hxl
      go_wp2
      obtain ⟨low, hlo⟩ : ∃ low, low = (s % 256) ^^^ x := ⟨_, rfl⟩
      have hll : low < 256 := by rw [hlo]; exact Nat.xor_lt_two_pow (n := 8) (by omega) hxl
      have HB : Hid (crcByte s bs[k] = (s / 256) ^^^ crcSteps 8 low) := by rw [hlo, HX.out]; exact crcByte_table s _
      rw [← hlo]
      clear hlo e1
      go_loopg [4, 22] 8 (fun n s4 i w' => w' = wr ∧ ∃ j : Nat, j + n = 8 ∧ i = .int .i64 j ∧ s4 = .int .u32 (((s / 256) ^^^ crcSteps 8 (low % 2 ^ j) : Nat) : Int))
      case atStart => exact ⟨rfl, 0, by omega, rfl, by simp [Nat.mod_one, show crcSteps 8 0 = 0 by decide]⟩
      case round =>
        obtain ⟨rfl, j, hj, rfl, rfl⟩ := hrel
        by_cases hjt : j < 8
        · have htj := ht j hjt
          have hct : crcSteps 8 (2 ^ j) < 4294967296 := crcSteps_lt 8 (by have : 2 ^ j < 2 ^ 8 := Nat.pow_lt_pow_right (by decide) hjt; omega)
          have hcl : crcSteps 8 (low % 2 ^ j) < 4294967296 := crcSteps_lt 8 (by have := Nat.mod_le low (2 ^ j); omega)
          have EX : Hid _ := Lib.hid (u32_xor_nat _ _ (xor_lt32 (show s / 256 < 4294967296 by omega) hcl) hct)
          have HN : Hid (crcSteps 8 (low % 2 ^ (j + 1)) = if low / 2 ^ j % 2 = 1 then crcSteps 8 (low % 2 ^ j) ^^^ crcSteps 8 (2 ^ j) else crcSteps 8 (low % 2 ^ j)) := crcSteps_bit low j
          have e3 : Go.bits .and .u8 ((low : Int) / 2 ^ j) 1 = ((low / 2 ^ j % 2 : Nat) : Int) := by
            have := u8_and_nat (low / 2 ^ j) 1 (by have := Nat.div_le_self low (2 ^ j); omega) (by decide)
            rw [Nat.and_one_is_mod] at this
            rw [← this]; simp
          clear hct hcl
          by_cases hbit : low / 2 ^ j % 2 = 1
          · have hq : (Go.bits .and .u8 ((low : Int) / 2 ^ j) 1 == 1) = true := by rw [e3, hbit]; rfl
            have HBit := Lib.hid hbit
            clear hbit e3
            go_wp2
            go_roundg (8 - j - 1)
            case measure => omega
            case rel => exact ⟨rfl, j + 1, by omega, by go_num, by rw [HN.out, if_pos HBit.out, ← Nat.xor_assoc]; rw [EX.out]⟩
          · have hq : (Go.bits .and .u8 ((low : Int) / 2 ^ j) 1 == 1) = false := by
              rw [e3, show low / 2 ^ j % 2 = 0 by omega]; rfl
            have HBit := Lib.hid hbit
            clear hbit e3
            go_wp2
            go_roundg (8 - j - 1)
            case measure => omega
            case rel => exact ⟨rfl, j + 1, by omega, by go_num, by rw [HN.out, if_neg HBit.out]⟩
        · obtain rfl : j = 8 := by omega
          have HM : Hid (low % 2 ^ 8 = low) := Nat.mod_eq_of_lt hll
          go_wp2
          go_roundg (bs.length - k - 1)
          case measure => omega
          case rel => exact ⟨rfl, k + 1, by omega, by go_num, by rw [HS.out, HB.out, HM.out]⟩
    · obtain rfl : k = bs.length := by omega
      go_wp2
      go_ret
      exact ⟨ret_int (by rw [show IntKind.u32.max = ((4294967295 : Nat) : Int) from rfl, u32_xor_nat _ _ (by decide) (crcFold_lt bs (by decide)), Nat.xor_comm]; rfl), hb2⟩
end Go.Proofs.Ytjfpanamkkdebaa
namespace Go.Proofs.Ytjfpanamkkdebaa
open Go.RowKit
set_option linter.unusedVariables false
set_option linter.unusedSimpArgs false
theorem head_set (s : Nat) {j : Nat} (hj : j < 4) : (((crcHead s).take j ++ List.replicate (4 - j) 0).map vb).set j (.int .u8 ((s : Int) / 2 ^ (24 - 8 * j) % 256)) = ((crcHead s).take (j + 1) ++ List.replicate (4 - (j + 1)) 0).map vb := by
  rcases j with _ | _ | _ | _ | j
  · simp [crcHead, vb_ofNat, List.replicate]
  · simp [crcHead, vb_ofNat, List.replicate]
  · simp [crcHead, vb_ofNat, List.replicate]
  · simp [crcHead, vb_ofNat, List.replicate]
  · omega
set_option maxHeartbeats 800000 in
theorem seal_any (A : Option Addr) (c : Nat) (bs : List UInt8) (w : World) (hm : bs.length ≤ 140737488351232) (hA : A = none → c = 0) (hr : RB w A bs) :
    Calls Try.prog 67 #[.slice A bs.length c] w fun e w' => ∃ v, e = .returned v ∧ OB w' w.heap.size v (sealed bs) ∧ Below w.heap.size w w' := by
  have hml : maxLen = 9223372036854775807 := rfl
  have HML := Lib.hid hml
  clear hml
  go_enter Try.func67, Try.ntmps67
  go_wp2_with (first | (go_at_call 74; refine (sum_any _ _ _ _ (by omega) hr).mono ?_; rintro e w1 ⟨rfl, hb⟩) | (at_make; refine wpList_mk _ rfl _ _ 29 rfl w.heap.size 5 _ 1 Try.underlying29 info_u8 rfl _ _ _ _ 4 (4 + bs.length) rfl rfl rfl ?c1 ?c2 ?c3 ?c4 ?c5 ?_))
  case c1 => omega
  case c2 => omega
  case c3 => omega
  case c4 => rw [HML.out]; omega
  case c5 => exact hb.size
  intro w2 hown hg
  have hb2 : Below w.heap.size w w2 := hb.grown hg hb.size (by simp)
  obtain ⟨g, hgg⟩ : ∃ g, g = w1.heap.size := ⟨_, rfl⟩
  have hgw : w.heap.size ≤ g := by rw [hgg]; exact hb.size
  rw [← hgg] at hown ⊢
  clear hb hgg hg
  obtain ⟨s, hs⟩ : ∃ s, s = crc bs := ⟨_, rfl⟩
  have hsl : s < 4294967296 := by rw [hs]; exact crc_lt bs
  rw [← hs]
  have HS := Lib.hid hs
  clear hs
  go_wp2
  go_loopg [14] 4 (fun n i w' => ∃ j : Nat, j + n = 4 ∧ i = .int .i64 j ∧ w'.ownsRow w.heap.size 5 1 (.slice (some ⟨g, 0, none⟩) 4 (4 + bs.length)) 4 (((crcHead s).take j ++ List.replicate (4 - j) 0).map vb) ∧ Below w.heap.size w w')
  case atStart => exact ⟨0, by omega, rfl, hown, hb2⟩
  case round =>
    obtain ⟨j, hj, rfl, hown, hb2⟩ := hrel
    by_cases hlt : j < 4
    · have hcell := hown.cellAt j (by omega)
      have hfr := hown.frozenAt j
      obtain ⟨u, hu⟩ : ∃ u, (((crcHead s).take j ++ List.replicate (4 - j) 0).map vb)[j]? = some u := ⟨_, List.getElem?_eq_getElem (by simp [crcHead]; omega)⟩
      rw [hu] at hcell
      clear hu
      have HO := Lib.hid hown
      clear hown
      go_wp2
      go_roundg (4 - j - 1)
      case measure => omega
      case rel =>
        refine ⟨j + 1, by omega, by go_num, ?_, hb2.setCell hgw _⟩
        rw [← head_set s hlt]
        exact (HO.out.stored j _).1
    · obtain rfl : j = 4 := by omega
      have hrr := hr.below hb2
      simp only [show (crcHead s).take 4 = crcHead s from rfl, Nat.sub_self, List.replicate_zero, List.append_nil] at hown
      go_wp2_with (at_builtin; refine wpList_app _ rfl _ _ 29 rfl w.heap.size 5 _ 1 1 Try.underlying29 info_u8 rfl (by decide) _ 4 _ rfl hown A bs.length c (bs.map vb) rfl (by simp) hrr (vbs_one bs) hA ?c6 ?c7 hb2.size ?_)
      case c6 => rw [HML.out]; omega
      case c7 => omega
      intro v w3 hown3 hg3 _
      go_wp2
      go_ret
      refine ⟨v, rfl, ?_, hb2.grown hg3 hb2.size (by intro k hk; cases hk; exact hgw)⟩
      unfold OB sealed
      rw [← HS.out, List.length_append, List.map_append]
      exact hown3
set_option maxHeartbeats 800000 in
theorem fopen_any (A : Option Addr) (c : Nat) (bs : List UInt8) (w : World) (hm : bs.length ≤ 140737488355328) (hlc : bs.length ≤ c) (hA : A = none → c = 0) (hr : RB w A bs) :
    Calls Try.prog 59 #[.slice A bs.length c] w fun e w' => ∃ v, e = .returned (.tuple #[v, .int .i64 ((opened bs).2 : Int)]) ∧ OB w' w.heap.size v (opened bs).1 ∧ Below w.heap.size w w' := by
  by_cases hl : bs.length < 4
  · have HO : Hid (opened bs = ([], 4)) := if_pos hl
    go_enter Try.func59, Try.ntmps59
    go_wp2
    go_ret2
    rw [HO.out]
    exact ⟨_, rfl, World.ownsRow_nil _ _ _ _, Below.refl _ _⟩
  · have hml : maxLen = 9223372036854775807 := rfl
    have HML := Lib.hid hml
    clear hml
    have hl : 4 ≤ bs.length := by omega
    go_enter Try.func59, Try.ntmps59
    go_wp2
    go_loopg [4, 13] 4 (fun n s i w' => w' = w ∧ ∃ j : Nat, j + n = 4 ∧ i = .int .i64 j ∧ s = .int .u32 (num (bs.take j)))
    case atStart => exact ⟨rfl, 0, by omega, rfl, rfl⟩
    case round =>
      obtain ⟨rfl, j, hj, rfl, rfl⟩ := hrel
      by_cases hlt : j < 4
      · obtain ⟨a, rfl, hc⟩ := hr.at (show j < bs.length by omega)
        obtain ⟨s, hs⟩ : ∃ s, s = num (bs.take j) := ⟨_, rfl⟩
        have hsl : s < 16777216 := by
          have h1 := num_lt (bs.take j)
          have h2 : 256 ^ (bs.take j).length ≤ 256 ^ 3 := Nat.pow_le_pow_right (by decide) (by simp; omega)
          omega
        obtain ⟨x, hx⟩ : ∃ x, x = bs[j].toNat := ⟨_, rfl⟩
        have hxl : x < 256 := by rw [hx]; exact UInt8.toNat_lt _
        have HS : Hid (num (bs.take (j + 1)) = s * 256 + x) := by show _ = _; rw [List.take_succ_eq_append_getElem (by omega), num_snoc, hs, hx]
        rw [← hx] at hc
        rw [← hs]
        clear hs hx
        have E1 : Hid (Go.bits .or .u32 ((s : Int) * 256) (x : Int) = ((s * 256 + x : Nat) : Int)) := by
          have := u32_or_nat (s * 256) x (by omega) (by omega)
          rw [fr_or_byte s x hxl] at this
          exact this
        go_wp2
        go_roundg (4 - j - 1)
        case measure => omega
        case rel => exact ⟨rfl, j + 1, by omega, by go_num, by rw [HS.out, ← E1.out]⟩
      · obtain rfl : j = 4 := by omega
        clear hlt
        have hd : (4 : Nat) ≤ c := by omega
        have hn := num_lt (bs.take 4)
        rw [show (bs.take 4).length = 4 by simp; omega] at hn
        obtain ⟨s, hs⟩ : ∃ s, s = num (bs.take 4) := ⟨_, rfl⟩
        rw [← hs]
        have HI : Hid (s = crc (bs.drop 4) ↔ bs.take 4 = crcHead (crc (bs.drop 4))) := by
          show _ ↔ _
          rw [hs]; exact head_iff (by simp; omega) (crc_lt _)
        clear hs hn
        have hdl : (bs.drop 4).length = bs.length - 4 := by simp
        have HD := Lib.hid hdl
        clear hdl
        have hc0 : A = none → c = 0 := hA
        go_wp2_with (refine wpList_cut _ rfl (.tmp 23) (some (.const (.int .i64 4))) none none 29 rfl 5 _ 1 1 Try.underlying29 info_u8 A bs.length c rfl 4 bs.length c ⟨_, rfl⟩ rfl rfl (by simp) (by omega) (by omega) (by omega) ?_; intro A1 hA1)
        have h1 := hr.from hA1 hlc
        rw [← HD.out]
        refine (sum_any A1 _ (bs.drop 4) wr (by rw [HD.out]; omega) h1).mono ?_
        rintro e w1 ⟨rfl, hb⟩
        rw [HD.out]
        have hr1 := hr.below hb
        by_cases heq : s = crc (bs.drop 4)
        · have HO : Hid (opened bs = (bs.drop 4, 0)) := by
            show _ = _
            rw [opened, if_neg (by omega), if_pos (HI.out.1 heq)]
          have hq : ((crc (bs.drop 4) : Int) != (s : Int)) = false := by simp [heq]
          clear heq
          go_wp2_with (first | (refine wpList_cut _ rfl (.tmp 28) (some (.const (.int .i64 4))) none none 29 rfl 5 _ 1 1 Try.underlying29 info_u8 A bs.length c rfl 4 bs.length c ⟨_, rfl⟩ rfl rfl (by simp) (by omega) (by omega) (by omega) ?_; intro A2 hA2; have h2 := hr1.from hA2 hlc; have h3 := hA2.cap0 hA) | (at_builtin; refine wpList_app _ rfl _ _ 29 rfl wr.heap.size 5 _ 1 1 Try.underlying29 info_u8 rfl (by decide) _ 0 [] rfl (World.ownsRow_nil _ _ _ _) A2 (bs.length - 4) _ ((bs.drop 4).map vb) rfl (by simp) h2 (vbs_one _) h3 ?c6 ?c7 hb.size ?_))
          case c6 => rw [HML.out]; omega
          case c7 => omega
          intro v w3 hown3 hg3 _
          go_wp2
          go_ret2
          rw [HO.out]
          refine ⟨_, rfl, ?_, hb.grown hg3 hb.size (by intro k hk; cases hk)⟩
          unfold OB
          simpa [HD.out] using hown3
        · have HO : Hid (opened bs = ([], 6)) := by
            show _ = _
            rw [opened, if_neg (by omega), if_neg (fun h => heq (HI.out.2 h))]
          have hq : ((crc (bs.drop 4) : Int) != (s : Int)) = true := by simp; omega
          clear heq
          go_wp2
          go_ret2
          rw [HO.out]
          exact ⟨_, rfl, World.ownsRow_nil _ _ _ _, hb⟩
end Go.Proofs.Ytjfpanamkkdebaa
