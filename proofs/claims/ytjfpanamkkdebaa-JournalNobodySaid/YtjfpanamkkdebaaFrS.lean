/- The walks of Seal and Open. -/
import Derived.Test.YtjfpanamkkdebaaFrW
import Derived.Test.YtjfpanamkkdebaaLaws
import Derived.Test.YtjfpanamkkdebaaByt
import Derived.Test.YtjfpanamkkdebaaCoW
import Derived.Lib.SlBytesConst
namespace Go.Proofs.Ytjfpanamkkdebaa
open Go.RowKit
set_option linter.unusedVariables false
set_option linter.unusedSimpArgs false
theorem head_set (s : Nat) {j : Nat} (hj : j < 4) : (((crcHead s).take j ++ List.replicate (4 - j) 0).map vb).set j (.int .u8 ((s : Int) / 2 ^ (24 - 8 * j) % 256)) = ((crcHead s).take (j + 1) ++ List.replicate (4 - (j + 1)) 0).map vb := by
  rcases j with _ | _ | _ | _ | j
  · simp [crcHead, vb_ofNat, List.replicate]
  · simp [crcHead, vb_ofNat, List.replicate]
  · simp [crcHead, vb_ofNat, List.replicate]
  · simp [crcHead, vb_ofNat, List.replicate]
  · omega
set_option maxHeartbeats 800000 in
theorem seal_any (A : Option Addr) (c : Nat) (bs : List UInt8) (w : World) (hm : bs.length ≤ 140737488351232) (hA : A = none → c = 0) (hr : RB w A bs) :
    Calls Try.prog 67 #[.slice A bs.length c] w fun e w' => ∃ v, e = .returned v ∧ OB w' w.heap.size v (sealed bs) ∧ Below w.heap.size w w' := by
  have hml : maxLen = 9223372036854775807 := rfl
  have HML := Lib.hid hml
  clear hml
  go_enter Try.func67, Try.ntmps67
  go_wp2_with (first | (go_at_call 74; refine (sum_any _ _ _ _ (by omega) hr).mono ?_; rintro e w1 ⟨rfl, hb⟩) | (at_make; refine wpList_mk _ rfl _ _ 29 rfl w.heap.size 5 _ 1 Try.underlying29 info_u8 rfl _ _ _ _ 4 (4 + bs.length) rfl rfl rfl ?c1 ?c2 ?c3 ?c4 ?c5 ?_))
  case c1 => omega
  case c2 => omega
  case c3 => omega
  case c4 => rw [HML.out]; omega
  case c5 => exact hb.size
  intro w2 hown hg
  have hb2 : Below w.heap.size w w2 := hb.grown hg hb.size (by simp)
  obtain ⟨g, hgg⟩ : ∃ g, g = w1.heap.size := ⟨_, rfl⟩
  have hgw : w.heap.size ≤ g := by rw [hgg]; exact hb.size
  rw [← hgg] at hown ⊢
  clear hb hgg hg
  obtain ⟨s, hs⟩ : ∃ s, s = crc bs := ⟨_, rfl⟩
  have hsl : s < 4294967296 := by rw [hs]; exact crc_lt bs
  rw [← hs]
  have HS := Lib.hid hs
  clear hs
  go_wp2
  go_loopg [14] 4 (fun n i w' => ∃ j : Nat, j + n = 4 ∧ i = .int .i64 j ∧ w'.ownsRow w.heap.size 5 1 (.slice (some ⟨g, 0, none⟩) 4 (4 + bs.length)) 4 (((crcHead s).take j ++ List.replicate (4 - j) 0).map vb) ∧ Below w.heap.size w w')
  case atStart => exact ⟨0, by omega, rfl, hown, hb2⟩
  case round =>
    obtain ⟨j, hj, rfl, hown, hb2⟩ := hrel
    by_cases hlt : j < 4
    · have hcell := hown.cellAt j (by omega)
      have hfr := hown.frozenAt j
      obtain ⟨u, hu⟩ : ∃ u, (((crcHead s).take j ++ List.replicate (4 - j) 0).map vb)[j]? = some u := ⟨_, List.getElem?_eq_getElem (by simp [crcHead]; omega)⟩
      rw [hu] at hcell
      clear hu
      have HO := Lib.hid hown
      clear hown
      go_wp2
      go_roundg (4 - j - 1)
      case measure => omega
      case rel =>
        refine ⟨j + 1, by omega, by go_num, ?_, hb2.setCell hgw _⟩
        rw [← head_set s hlt]
        exact (HO.out.stored j _).1
    · obtain rfl : j = 4 := by omega
      have hrr := hr.below hb2
      simp only [show (crcHead s).take 4 = crcHead s from rfl, Nat.sub_self, List.replicate_zero, List.append_nil] at hown
      go_wp2_with (at_builtin; refine wpList_app _ rfl _ _ 29 rfl w.heap.size 5 _ 1 1 Try.underlying29 info_u8 rfl (by decide) _ 4 _ rfl hown A bs.length c (bs.map vb) rfl (by simp) hrr (vbs_one bs) hA ?c6 ?c7 hb2.size ?_)
      case c6 => rw [HML.out]; omega
      case c7 => omega
      intro v w3 hown3 hg3 _
      go_wp2
      go_ret
      refine ⟨v, rfl, ?_, hb2.grown hg3 hb2.size (by intro k hk; cases hk; exact hgw)⟩
      unfold OB sealed
      rw [← HS.out, List.length_append, List.map_append]
      exact hown3
set_option maxHeartbeats 800000 in
theorem fopen_any (A : Option Addr) (c : Nat) (bs : List UInt8) (w : World) (hm : bs.length ≤ 140737488355328) (hlc : bs.length ≤ c) (hA : A = none → c = 0) (hr : RB w A bs) :
    Calls Try.prog 59 #[.slice A bs.length c] w fun e w' => ∃ v, e = .returned (.tuple #[v, .int .i64 ((opened bs).2 : Int)]) ∧ OB w' w.heap.size v (opened bs).1 ∧ Below w.heap.size w w' := by
  by_cases hl : bs.length < 4
  · have HO : Hid (opened bs = ([], 4)) := if_pos hl
    go_enter Try.func59, Try.ntmps59
    go_wp2
    go_ret2
    rw [HO.out]
    exact ⟨_, rfl, World.ownsRow_nil _ _ _ _, Below.refl _ _⟩
  · have hml : maxLen = 9223372036854775807 := rfl
    have HML := Lib.hid hml
    clear hml
    have hl : 4 ≤ bs.length := by omega
    go_enter Try.func59, Try.ntmps59
    go_wp2
    go_loopg [4, 13] 4 (fun n s i w' => w' = w ∧ ∃ j : Nat, j + n = 4 ∧ i = .int .i64 j ∧ s = .int .u32 (num (bs.take j)))
    case atStart => exact ⟨rfl, 0, by omega, rfl, rfl⟩
    case round =>
      obtain ⟨rfl, j, hj, rfl, rfl⟩ := hrel
      by_cases hlt : j < 4
      · obtain ⟨a, rfl, hc⟩ := hr.at (show j < bs.length by omega)
        obtain ⟨s, hs⟩ : ∃ s, s = num (bs.take j) := ⟨_, rfl⟩
        have hsl : s < 16777216 := by
          have h1 := num_lt (bs.take j)
          have h2 : 256 ^ (bs.take j).length ≤ 256 ^ 3 := Nat.pow_le_pow_right (by decide) (by simp; omega)
          omega
        obtain ⟨x, hx⟩ : ∃ x, x = bs[j].toNat := ⟨_, rfl⟩
        have hxl : x < 256 := by rw [hx]; exact UInt8.toNat_lt _
        have HS : Hid (num (bs.take (j + 1)) = s * 256 + x) := by show _ = _; rw [List.take_succ_eq_append_getElem (by omega), num_snoc, hs, hx]
        rw [← hx] at hc
        rw [← hs]
        clear hs hx
        have E1 : Hid (Go.bits .or .u32 ((s : Int) * 256) (x : Int) = ((s * 256 + x : Nat) : Int)) := by
          have := u32_or_nat (s * 256) x (by omega) (by omega)
          rw [fr_or_byte s x hxl] at this
          exact this
        go_wp2
        go_roundg (4 - j - 1)
        case measure => omega
        case rel => exact ⟨rfl, j + 1, by omega, by go_num, by rw [HS.out, ← E1.out]⟩
      · obtain rfl : j = 4 := by omega
        clear hlt
        have hd : (4 : Nat) ≤ c := by omega
        have hn := num_lt (bs.take 4)
        rw [show (bs.take 4).length = 4 by simp; omega] at hn
        obtain ⟨s, hs⟩ : ∃ s, s = num (bs.take 4) := ⟨_, rfl⟩
        rw [← hs]
        have HI : Hid (s = crc (bs.drop 4) ↔ bs.take 4 = crcHead (crc (bs.drop 4))) := by
          show _ ↔ _
          rw [hs]; exact head_iff (by simp; omega) (crc_lt _)
        clear hs hn
        have hdl : (bs.drop 4).length = bs.length - 4 := by simp
        have HD := Lib.hid hdl
        clear hdl
        have hc0 : A = none → c = 0 := hA
        go_wp2_with (refine wpList_cut _ rfl (.tmp 23) (some (.const (.int .i64 4))) none none 29 rfl 5 _ 1 1 Try.underlying29 info_u8 A bs.length c rfl 4 bs.length c ⟨_, rfl⟩ rfl rfl (by simp) (by omega) (by omega) (by omega) ?_; intro A1 hA1)
        have h1 := hr.from hA1 hlc
        rw [← HD.out]
        refine (sum_any A1 _ (bs.drop 4) wr (by rw [HD.out]; omega) h1).mono ?_
        rintro e w1 ⟨rfl, hb⟩
        rw [HD.out]
        have hr1 := hr.below hb
        by_cases heq : s = crc (bs.drop 4)
        · have HO : Hid (opened bs = (bs.drop 4, 0)) := by
            show _ = _
            rw [opened, if_neg (by omega), if_pos (HI.out.1 heq)]
          have hq : ((crc (bs.drop 4) : Int) != (s : Int)) = false := by simp [heq]
          clear heq
          go_wp2_with (first | (refine wpList_cut _ rfl (.tmp 28) (some (.const (.int .i64 4))) none none 29 rfl 5 _ 1 1 Try.underlying29 info_u8 A bs.length c rfl 4 bs.length c ⟨_, rfl⟩ rfl rfl (by simp) (by omega) (by omega) (by omega) ?_; intro A2 hA2; have h2 := hr1.from hA2 hlc; have h3 := hA2.cap0 hA) | (at_builtin; refine wpList_app _ rfl _ _ 29 rfl wr.heap.size 5 _ 1 1 Try.underlying29 info_u8 rfl (by decide) _ 0 [] rfl (World.ownsRow_nil _ _ _ _) A2 (bs.length - 4) _ ((bs.drop 4).map vb) rfl (by simp) h2 (vbs_one _) h3 ?c6 ?c7 hb.size ?_))
          case c6 => rw [HML.out]; omega
          case c7 => omega
          intro v w3 hown3 hg3 _
          go_wp2
          go_ret2
          rw [HO.out]
          refine ⟨_, rfl, ?_, hb.grown hg3 hb.size (by intro k hk; cases hk)⟩
          unfold OB
          simpa [HD.out] using hown3
        · have HO : Hid (opened bs = ([], 6)) := by
            show _ = _
            rw [opened, if_neg (by omega), if_neg (fun h => heq (HI.out.2 h))]
          have hq : ((crc (bs.drop 4) : Int) != (s : Int)) = true := by simp; omega
          clear heq
          go_wp2
          go_ret2
          rw [HO.out]
          exact ⟨_, rfl, World.ownsRow_nil _ _ _ _, hb⟩
end Go.Proofs.Ytjfpanamkkdebaa
