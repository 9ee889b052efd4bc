/- Rank. -/
import Derived.Test.YtopgikjmeebgbaaDoorBe
import Derived.Deep.Cut
namespace Go.Proofs.YtopgikjmeebgbaaDoor
open Go.RowKit
set_option linter.unusedVariables false
set_option linter.unusedSimpArgs false
theorem below_drewN {B : Nat} {a w : World} (h : Below B a w) (n : Nat) : Below B a (w.drewN n) := h.trans ⟨rfl, rfl, rfl, Nat.le_refl _, fun _ _ => rfl⟩
theorem rank_out (g W : Nat) (bs : List Bool) (i : Int) (w : World) (h : SetAt w g W bs) (hi : i ≤ 0) :
    Calls Tryd.prog 17 #[.pointer (some ⟨g, 0, none⟩), .int .i64 i] w fun e w' => e = .returned (.int .i64 0) ∧ w = w' := by
  have h2 := h.c2
  go_enter Tryd.func17, Tryd.ntmps17
  go_wp2
  go_ret
  exact ⟨rfl, rfl⟩
theorem cnt_le (bs : List Bool) (k : Nat) : (bs.take k).count true ≤ bs.length := Nat.le_trans List.count_le_length (by rw [List.length_take]; omega)
theorem mask_eq (r : Nat) (hr : r < 64) (x : Nat) (hx : x < 18446744073709551616) : ∃ m : Int, IntKind.u64.wrap (IntKind.u64.wrap (2 ^ r) - 1) = m ∧ bits .and .u64 (x : Int) m = ((x &&& (2 ^ r - 1) : Nat) : Int) := by
  have h1 := wrap_pow r
  have h2 := pow_lt r
  rw [Nat.mod_eq_of_lt hr] at h1 h2
  have h3 : 1 ≤ 2 ^ r := Nat.one_le_two_pow
  refine ⟨((2 ^ r - 1 : Nat) : Int), ?_, bits_and_u64_nat x _ hx (by omega)⟩
  rw [h1]
  generalize 2 ^ r = p at h2 h3
  rw [IntKind.wrap_u64]
  omega
set_option maxHeartbeats 1600000 in
theorem rank_in (g W : Nat) (bs : List Bool) (i : Int) (k : Nat) (w : World) (h : SetAt w g W bs) (hi : 0 < i) (hk : (k : Int) = min i bs.length) :
    Calls Tryd.prog 17 #[.pointer (some ⟨g, 0, none⟩), .int .i64 i] w fun e w' => e = .returned (.int .i64 ((bs.take k).count true)) ∧ Below w.heap.size w w' := by
  have h0 := h.c0
  have h1 := h.c1
  have h2 := h.c2
  have hsm := h.small
  have hkl : k ≤ bs.length := by omega
  obtain ⟨q, r, hkq, hr64⟩ : ∃ q r, k = 64 * q + r ∧ r < 64 := ⟨k / 64, k % 64, by omega, Nat.mod_lt _ (by decide)⟩
  have hq : (k : Int) / 64 = (q : Int) := by omega
  have hr : (k : Int) % 64 = (r : Int) := by omega
  have hqn : q ≤ nw bs.length := by unfold nw; omega
  have hcnt : Hid ((bs.take k).count true = (bs.take (64 * q)).count true + ((bs.drop (64 * q)).take r).count true) := by show _ = _; rw [hkq, count_take_add]
  have HKQ := Lib.hid hkq
  have HH := Lib.hid h
  generalize (bs.take k).count true = tot at hcnt ⊢
  clear hkq h
  go_enter Tryd.func17, Tryd.ntmps17
  by_cases hle : i ≤ bs.length
  · obtain rfl : i = (k : Int) := by omega
    clear hk
    go_upto_region 4 with fail
    all_goals
      go_wp2_with (refine wpList_cut _ rfl (.tmp 30) none (some (.tmp 32)) none 39 rfl 60 _ 1 8 Tryd.underlying39 info_u64 (some ⟨W, 0, none⟩) (nw bs.length) (nw bs.length) rfl 0 q (nw bs.length) rfl ⟨_, rfl⟩ rfl (by simp) (by omega) hqn (Nat.le_refl _) ?_; intro A1 hA1)
      obtain rfl : A1 = some ⟨W, 0, none⟩ := by
        unfold CutAt at hA1
        split at hA1
        · exact hA1
        · rw [hA1]; rfl
      have hc0 : Hid ((bs.take (64 * 0)).count true = 0) := by show _ = _; rw [Nat.mul_zero, List.take_zero]; rfl
      go_loopg [5, 35] q (fun r' n j wr => wr = w ∧ ∃ c : Nat, c + r' = q ∧ j = .int .i64 c ∧ n = .int .i64 ((bs.take (64 * c)).count true))
      case atStart => exact ⟨rfl, 0, by omega, rfl, by rw [hc0.out]; rfl⟩
      case round =>
        obtain ⟨rfl, c, hc, rfl, rfl⟩ := hrel
        by_cases hcq : c < q
        · have hw := HH.out.word c (by omega)
          have hlt := wd_lt bs c
          have HO := ones_any (wd bs c) wr hlt
          rw [pop_all] at HO
          have HO := Lib.hid HO
          have hcn : Hid ((bs.take (64 * (c + 1))).count true = (bs.take (64 * c)).count true + ((bs.drop (64 * c)).take 64).count true) := by
            show _ = _; rw [show 64 * (c + 1) = 64 * c + 64 by omega, count_take_add]
          have hb1 : (bs.take (64 * c)).count true ≤ bs.length := cnt_le _ _
          have hb2 : ((bs.drop (64 * c)).take 64).count true ≤ 64 := Nat.le_trans List.count_le_length (by rw [List.length_take]; omega)
          generalize wd bs c = x at hw hlt HO
          generalize ((bs.drop (64 * c)).take 64).count true = u at HO hcn hb2
          generalize (bs.take (64 * c)).count true = s at hcn hb1
          have hci : (c : Int) < (q : Int) := by omega
          have hcn2 : c < nw bs.length := by omega
          go_wp2_with (go_at_call 45; refine HO.out.mono ?_; rintro e w' ⟨rfl, rfl⟩)
          go_roundg (q - (c + 1))
          case measure => omega
          case rel => exact ⟨rfl, c + 1, by omega, by go_num, by rw [hcn.out]; go_num⟩
        · obtain rfl : c = q := by omega
          have hb1 : (bs.take (64 * c)).count true ≤ bs.length := cnt_le _ _
          by_cases hr0 : r = 0
          · subst hr0
            have hz : Hid (((bs.drop (64 * c)).take 0).count true = 0) := by show _ = _; rw [List.take_zero]; rfl
            rw [hz.out] at hcnt
            generalize (bs.take (64 * c)).count true = s at hb1 hcnt
            go_wp2
            go_ret
            exact ⟨ret_int (by have := hcnt.out; omega), Below.refl _ _⟩
          · have hr1 : (0 : Int) < (r : Int) := by omega
            have hcn : c < nw bs.length := by have := HKQ.out; unfold nw; omega
            have hw : wr.cell? ⟨W, c, none⟩ = some (.int .u64 (wd bs c)) := HH.out.word c hcn
            have hci : (c : Int) < (nw bs.length : Int) := by omega
            have HO := fun w => ones_any (wd bs c &&& (2 ^ r - 1)) w (Nat.lt_of_le_of_lt Nat.and_le_left (wd_lt bs c))
            rw [pop_low _ _ _ (by omega)] at HO
            obtain ⟨m, hm, hmx⟩ := mask_eq r hr64 (wd bs c) (wd_lt bs c)
            have HO := Lib.hid HO
            have hb2 : ((bs.drop (64 * c)).take r).count true ≤ 64 := Nat.le_trans List.count_le_length (by rw [List.length_take]; omega)
            have hlt := wd_lt bs c
            generalize wd bs c = x at hw hlt HO hmx
            generalize x &&& (2 ^ r - 1) = y at HO hmx
            generalize ((bs.drop (64 * c)).take r).count true = u at HO hb2 hcnt
            generalize (bs.take (64 * c)).count true = s at hb1 hcnt
            go_wp2_with fail
            go_quiet (first | (go_at_call 45; exact (HO.out _).mono (fun _ _ ⟨he, hm⟩ => ⟨he, _, hm.symm⟩)))
            go_wp2
            go_ret
            exact ⟨ret_int (by have := hcnt.out; omega), below_drewN (Below.refl _ _) _⟩
  · have hk2 : (bs.length : Int) = (k : Int) := by omega
    clear hk
    go_upto_region 4 with fail
    clear hk2
    all_goals
      go_wp2_with (refine wpList_cut _ rfl (.tmp 30) none (some (.tmp 32)) none 39 rfl 60 _ 1 8 Tryd.underlying39 info_u64 (some ⟨W, 0, none⟩) (nw bs.length) (nw bs.length) rfl 0 q (nw bs.length) rfl ⟨_, rfl⟩ rfl (by simp) (by omega) hqn (Nat.le_refl _) ?_; intro A1 hA1)
      obtain rfl : A1 = some ⟨W, 0, none⟩ := by
        unfold CutAt at hA1
        split at hA1
        · exact hA1
        · rw [hA1]; rfl
      have hc0 : Hid ((bs.take (64 * 0)).count true = 0) := by show _ = _; rw [Nat.mul_zero, List.take_zero]; rfl
      go_loopg [5, 35] q (fun r' n j wr => wr = w ∧ ∃ c : Nat, c + r' = q ∧ j = .int .i64 c ∧ n = .int .i64 ((bs.take (64 * c)).count true))
      case atStart => exact ⟨rfl, 0, by omega, rfl, by rw [hc0.out]; rfl⟩
      case round =>
        obtain ⟨rfl, c, hc, rfl, rfl⟩ := hrel
        by_cases hcq : c < q
        · have hw := HH.out.word c (by omega)
          have hlt := wd_lt bs c
          have HO := ones_any (wd bs c) wr hlt
          rw [pop_all] at HO
          have HO := Lib.hid HO
          have hcn : Hid ((bs.take (64 * (c + 1))).count true = (bs.take (64 * c)).count true + ((bs.drop (64 * c)).take 64).count true) := by
            show _ = _; rw [show 64 * (c + 1) = 64 * c + 64 by omega, count_take_add]
          have hb1 : (bs.take (64 * c)).count true ≤ bs.length := cnt_le _ _
          have hb2 : ((bs.drop (64 * c)).take 64).count true ≤ 64 := Nat.le_trans List.count_le_length (by rw [List.length_take]; omega)
          generalize wd bs c = x at hw hlt HO
          generalize ((bs.drop (64 * c)).take 64).count true = u at HO hcn hb2
          generalize (bs.take (64 * c)).count true = s at hcn hb1
          have hci : (c : Int) < (q : Int) := by omega
          have hcn2 : c < nw bs.length := by omega
          go_wp2_with (go_at_call 45; refine HO.out.mono ?_; rintro e w' ⟨rfl, rfl⟩)
          go_roundg (q - (c + 1))
          case measure => omega
          case rel => exact ⟨rfl, c + 1, by omega, by go_num, by rw [hcn.out]; go_num⟩
        · obtain rfl : c = q := by omega
          have hb1 : (bs.take (64 * c)).count true ≤ bs.length := cnt_le _ _
          by_cases hr0 : r = 0
          · subst hr0
            have hz : Hid (((bs.drop (64 * c)).take 0).count true = 0) := by show _ = _; rw [List.take_zero]; rfl
            rw [hz.out] at hcnt
            generalize (bs.take (64 * c)).count true = s at hb1 hcnt
            go_wp2
            go_ret
            exact ⟨ret_int (by have := hcnt.out; omega), Below.refl _ _⟩
          · have hr1 : (0 : Int) < (r : Int) := by omega
            have hcn : c < nw bs.length := by have := HKQ.out; unfold nw; omega
            have hw : wr.cell? ⟨W, c, none⟩ = some (.int .u64 (wd bs c)) := HH.out.word c hcn
            have hci : (c : Int) < (nw bs.length : Int) := by omega
            have HO := fun w => ones_any (wd bs c &&& (2 ^ r - 1)) w (Nat.lt_of_le_of_lt Nat.and_le_left (wd_lt bs c))
            rw [pop_low _ _ _ (by omega)] at HO
            obtain ⟨m, hm, hmx⟩ := mask_eq r hr64 (wd bs c) (wd_lt bs c)
            have HO := Lib.hid HO
            have hb2 : ((bs.drop (64 * c)).take r).count true ≤ 64 := Nat.le_trans List.count_le_length (by rw [List.length_take]; omega)
            have hlt := wd_lt bs c
            generalize wd bs c = x at hw hlt HO hmx
            generalize x &&& (2 ^ r - 1) = y at HO hmx
            generalize ((bs.drop (64 * c)).take r).count true = u at HO hb2 hcnt
            generalize (bs.take (64 * c)).count true = s at hb1 hcnt
            go_wp2_with fail
            go_quiet (first | (go_at_call 45; exact (HO.out _).mono (fun _ _ ⟨he, hm⟩ => ⟨he, _, hm.symm⟩)))
            go_wp2
            go_ret
            exact ⟨ret_int (by have := hcnt.out; omega), below_drewN (Below.refl _ _) _⟩
end Go.Proofs.YtopgikjmeebgbaaDoor
