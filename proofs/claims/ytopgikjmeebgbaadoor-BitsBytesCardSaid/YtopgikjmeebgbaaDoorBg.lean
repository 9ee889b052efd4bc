/- Count; Next. -/
import Derived.Test.YtopgikjmeebgbaaDoorBf
namespace Go.Proofs.YtopgikjmeebgbaaDoor
open Go.RowKit
set_option linter.unusedVariables false
set_option linter.unusedSimpArgs false
theorem rank_any (g W : Nat) (bs : List Bool) (i : Int) (w : World) (h : SetAt w g W bs) :
    Calls Tryd.prog 17 #[.pointer (some ⟨g, 0, none⟩), .int .i64 i] w fun e w' => e = .returned (.int .i64 ((bs.take i.toNat).count true)) ∧ Below w.heap.size w w' := by
  by_cases hi : 0 < i
  · have e : bs.take i.toNat = bs.take (min i bs.length).toNat := by
      by_cases hl : i ≤ bs.length
      · rw [show min i (bs.length : Int) = i by omega]
      · rw [show (min i (bs.length : Int)).toNat = bs.length by omega, List.take_length, List.take_of_length_le (by omega)]
    rw [e]
    exact rank_in g W bs i _ w h hi (by omega)
  · rw [show i.toNat = 0 by omega, List.take_zero]
    exact (rank_out g W bs i w h (by omega)).mono fun e w' ⟨h1, h2⟩ => ⟨h1, by rw [h2]; exact Below.refl _ _⟩
theorem count_any (g W : Nat) (bs : List Bool) (w : World) (h : SetAt w g W bs) :
    Calls Tryd.prog 12 #[.pointer (some ⟨g, 0, none⟩)] w fun e w' => e = .returned (.int .i64 (bs.count true)) ∧ Below w.heap.size w w' := by
  have HS := Lib.hid (size_any g W bs w h)
  have HR := rank_any g W bs bs.length w h
  rw [Int.toNat_natCast, List.take_length] at HR
  have HR := Lib.hid HR
  go_enter Tryd.func12, Tryd.ntmps12
  go_wp2_with (first
    | (go_at_call 11; refine HS.out.mono ?_; rintro e w' ⟨rfl, rfl⟩)
    | (go_at_call 17; refine HR.out.mono ?_; rintro e w' ⟨rfl, hb⟩))
  go_ret
  exact ⟨rfl, hb⟩
/-- What is so of the word in hand: the bits from k on, of the c-th word. -/
structure Hand (bs : List Bool) (k c y : Nat) : Prop where
  past : ∀ j, k ≤ j → j < 64 * c → bs[j]?.getD false = false
  here : ∀ t, y.testBit t = if t < 64 ∧ k ≤ 64 * c + t then bs[64 * c + t]?.getD false else false
  lt : y < 18446744073709551616
  low : k < 64 * (c + 1)
theorem Hand.start (bs : List Bool) (q r : Nat) (hr : r < 64) : Hand bs (64 * q + r) q (wd bs q / 2 ^ r * 2 ^ r) := by
  refine ⟨fun j h1 h2 => by omega, fun t => ?_, Nat.lt_of_le_of_lt (Nat.div_mul_le_self _ _) (wd_lt bs q), by omega⟩
  rw [high_bit, wd_bit]
  by_cases h1 : r ≤ t
  · by_cases h2 : t < 64
    · have : 64 * q + r ≤ 64 * q + t := by omega
      simp [h1, h2]
    · simp [h2]
  · have : ¬ (64 * q + r ≤ 64 * q + t) := by omega
    simp [h1]
theorem Hand.next {bs : List Bool} {k c : Nat} (h : Hand bs k c 0) : Hand bs k (c + 1) (wd bs (c + 1)) := by
  refine ⟨fun j h1 h2 => ?_, fun t => ?_, wd_lt _ _, by have := h.low; omega⟩
  · by_cases hj : j < 64 * c
    · exact h.past j h1 hj
    · have := h.here (j - 64 * c)
      rw [Nat.zero_testBit, if_pos ⟨by omega, by omega⟩, show 64 * c + (j - 64 * c) = j by omega] at this
      exact this.symm
  · rw [wd_bit]
    have := h.low
    by_cases ht : t < 64
    · rw [if_pos ht, if_pos ⟨ht, by omega⟩]
    · rw [if_neg ht, if_neg (fun h => ht h.1)]
theorem Hand.none {bs : List Bool} {k c : Nat} (h : Hand bs k c 0) (hc : bs.length ≤ 64 * (c + 1)) : nxt bs k = -1 := by
  refine nxt_none bs k fun j hj => ?_
  by_cases h1 : j < 64 * (c + 1)
  · exact h.next.past j hj h1
  · rw [List.getElem?_eq_none (by omega)]; rfl
theorem Hand.hit {bs : List Bool} {k c y : Nat} (h : Hand bs k c y) (hy : y ≠ 0) : nxt bs k = ((64 * c + Lib.ctz 64 y : Nat) : Int) ∧ 64 * c + Lib.ctz 64 y < bs.length := by
  obtain ⟨h1, h2, h3⟩ := ctz_bit y hy h.lt
  rw [h.here] at h1
  split at h1
  · rename_i hc
    have hs : bs[64 * c + Lib.ctz 64 y]? = some true := by
      cases hb : bs[64 * c + Lib.ctz 64 y]? with
      | none => rw [hb] at h1; cases h1
      | some b => rw [hb] at h1; rw [← h1]; rfl
    refine ⟨nxt_hit bs k _ hc.2 hs fun j hj1 hj2 => ?_, (List.getElem?_eq_some_iff.1 hs).1⟩
    by_cases hj : j < 64 * c
    · exact h.past j hj1 hj
    · have := h3 (j - 64 * c) (by omega)
      rw [h.here, if_pos ⟨by omega, by omega⟩, show 64 * c + (j - 64 * c) = j by omega] at this
      exact this
  · cases h1
set_option maxHeartbeats 1600000 in
theorem next_any (g W : Nat) (bs : List Bool) (i : Int) (w : World) (h : SetAt w g W bs) (hT : Tab w) :
    Calls Tryd.prog 13 #[.pointer (some ⟨g, 0, none⟩), .int .i64 i] w fun e w' => e = .returned (.int .i64 (nxt bs i.toNat)) ∧ w = w' := by
  obtain ⟨k, hk⟩ : ∃ k, k = i.toNat := ⟨_, rfl⟩
  rw [← hk]
  have h1 := h.c1
  have hsm := h.small
  have HI := Lib.hid (in_any g W bs k w h)
  by_cases hkl : k < bs.length
  · obtain ⟨q, r, hkq, hr64⟩ : ∃ q r, k = 64 * q + r ∧ r < 64 := ⟨k / 64, k % 64, by omega, Nat.mod_lt _ (by decide)⟩
    have hq : (k : Int) / 64 = (q : Int) := by omega
    have hr : (k : Int) % 64 = (r : Int) := by omega
    have hqn : q < nw bs.length := by unfold nw; omega
    have hqi : (q : Int) < (nw bs.length : Int) := by omega
    have hd : decide (0 ≤ (k : Int) ∧ (k : Int) < bs.length) = true := decide_eq_true ⟨by omega, by omega⟩
    rw [hd] at HI
    clear hd
    have hw := h.word q hqn
    have HA := Hand.start bs q r hr64
    rw [← hkq] at HA
    have HA := Lib.hid HA
    have hlt := wd_lt bs q
    have hsh : IntKind.u64.wrap ((wd bs q : Int) / 2 ^ r * 2 ^ r) = ((wd bs q / 2 ^ r * 2 ^ r : Nat) : Int) := by
      rw [castshr, ← wrapN _ HA.out.lt, Int.natCast_mul, Int.natCast_pow]; rfl
    have HN := Lib.hid (show bs.length ≤ 64 * nw bs.length by unfold nw; omega)
    have hnw : nw bs.length ≤ 1024 := by unfold nw; omega
    generalize hyy : wd bs q / 2 ^ r * 2 ^ r = y at HA hsh
    have HY := Lib.hid hyy
    clear hyy
    have HH := Lib.hid h
    have HT := Lib.hid hT
    generalize wd bs q = x at hw hlt hsh HY
    generalize hnx : nxt bs k = z
    have HZ := Lib.hid hnx
    have HKQ := Lib.hid hkq
    clear h hT hnx hkq
    go_enter Tryd.func13, Tryd.ntmps13
    by_cases hi0 : i < 0
    · obtain rfl : k = 0 := by omega
      obtain rfl : q = 0 := by have := HKQ.out; omega
      obtain rfl : r = 0 := by have := HKQ.out; omega
      rw [show (2 : Nat) ^ 0 = 1 from rfl, Nat.div_one, Nat.mul_one] at HY
      obtain rfl : x = y := HY.out
      have hwx := wrapN x hlt
      clear hk hq hr hsh
      go_upto_region 5 with (go_at_call 41; refine HI.out.mono ?_; rintro e w' ⟨rfl, rfl⟩)
      go_wp2_with fail
      go_loopg [5, 6] (nw bs.length - 0) (fun rr at' y' wr => wr = w ∧ ∃ c y : Nat, c + rr = nw bs.length ∧ at' = .int .i64 c ∧ y' = .int .u64 y ∧ c < nw bs.length ∧ Hand bs 0 c y)
      case atStart => exact ⟨rfl, 0, _, by omega, rfl, rfl, hqn, HA.out⟩
      case round =>
        clear hw hqi hwx hlt
        obtain ⟨rfl, c, y, hc, rfl, rfl, hcn, hA⟩ := hrel
        have hAl := hA.lt
        by_cases hy : y = 0
        · subst hy
          by_cases hce : c + 1 = nw bs.length
          · have hz : z = -1 := by rw [← HZ.out]; exact hA.none (by rw [hce]; exact HN.out)
            subst hz
            have hqq : ((c : Int) + 1 == (nw bs.length : Int)) = true := beq_iff_eq.mpr (by omega)
            clear hA
            go_wp2
            go_ret
            exact ⟨rfl, rfl⟩
          · have hqq : ((c : Int) + 1 == (nw bs.length : Int)) = false := beq_eq_false_iff_ne.mpr (by omega)
            have hw := HH.out.word (c + 1) (by omega)
            have HA2 := Lib.hid hA.next
            generalize wd bs (c + 1) = x at hw HA2
            have hci : (c : Int) + 1 < (nw bs.length : Int) := by omega
            have hcn2 : c + 1 < nw bs.length := by omega
            clear hA
            go_wp2
            go_roundg (nw bs.length - (c + 1))
            case measure => omega
            case rel => exact ⟨rfl, c + 1, x, by omega, by go_num, rfl, hcn2, HA2.out⟩
        · have hqq : ((y : Int) == 0) = false := beq_eq_false_iff_ne.mpr (by omega)
          have HC := Lib.hid (tz_any y hAl hy wr HT.out)
          have hhit := hA.hit hy
          rw [HZ.out] at hhit
          have hct : Lib.ctz 64 y < 64 := (ctz_bit y hy hAl).2.1
          generalize Lib.ctz 64 y = t at HC hhit hct
          have HHit := Lib.hid hhit.1
          clear hhit hA hy
          go_wp2_with (go_at_call 42; refine HC.out.mono ?_; rintro e w' ⟨rfl, rfl⟩)
          go_ret
          exact ⟨ret_int (by rw [HHit.out]; omega), rfl⟩
    · obtain rfl : i = (k : Int) := by omega
      clear hk
      go_upto_region 5 with (go_at_call 41; refine HI.out.mono ?_; rintro e w' ⟨rfl, rfl⟩)
      go_wp2_with fail
      go_loopg [5, 6] (nw bs.length - q) (fun rr at' y' wr => wr = w ∧ ∃ c y : Nat, c + rr = nw bs.length ∧ at' = .int .i64 c ∧ y' = .int .u64 y ∧ c < nw bs.length ∧ Hand bs k c y)
      case atStart => exact ⟨rfl, q, _, by omega, rfl, rfl, hqn, HA.out⟩
      case round =>
        clear hw hlt hsh hqi hq hr
        obtain ⟨rfl, c, y, hc, rfl, rfl, hcn, hA⟩ := hrel
        have hAl := hA.lt
        by_cases hy : y = 0
        · subst hy
          by_cases hce : c + 1 = nw bs.length
          · have hz : z = -1 := by rw [← HZ.out]; exact hA.none (by rw [hce]; exact HN.out)
            subst hz
            have hqq : ((c : Int) + 1 == (nw bs.length : Int)) = true := beq_iff_eq.mpr (by omega)
            clear hA
            go_wp2
            go_ret
            exact ⟨rfl, rfl⟩
          · have hqq : ((c : Int) + 1 == (nw bs.length : Int)) = false := beq_eq_false_iff_ne.mpr (by omega)
            have hw := HH.out.word (c + 1) (by omega)
            have HA2 := Lib.hid hA.next
            generalize wd bs (c + 1) = x at hw HA2
            have hci : (c : Int) + 1 < (nw bs.length : Int) := by omega
            have hcn2 : c + 1 < nw bs.length := by omega
            clear hA
            go_wp2
            go_roundg (nw bs.length - (c + 1))
            case measure => omega
            case rel => exact ⟨rfl, c + 1, x, by omega, by go_num, rfl, hcn2, HA2.out⟩
        · have hqq : ((y : Int) == 0) = false := beq_eq_false_iff_ne.mpr (by omega)
          have HC := Lib.hid (tz_any y hAl hy wr HT.out)
          have hhit := hA.hit hy
          rw [HZ.out] at hhit
          have hct : Lib.ctz 64 y < 64 := (ctz_bit y hy hAl).2.1
          generalize Lib.ctz 64 y = t at HC hhit hct
          have HHit := Lib.hid hhit.1
          clear hhit hA hy
          go_wp2_with (go_at_call 42; refine HC.out.mono ?_; rintro e w' ⟨rfl, rfl⟩)
          go_ret
          exact ⟨ret_int (by rw [HHit.out]; omega), rfl⟩
  · have hz : nxt bs k = -1 := nxt_end bs k (by omega)
    have hd : decide (0 ≤ (k : Int) ∧ (k : Int) < bs.length) = false := decide_eq_false (by omega)
    rw [hz]
    rw [hd] at HI
    clear hd hz h
    by_cases hi0 : i < 0
    · have hk0 : k = 0 := by omega
      subst hk0
      clear hk
      go_enter Tryd.func13, Tryd.ntmps13
      go_wp2_with (go_at_call 41; refine HI.out.mono ?_; rintro e w' ⟨rfl, rfl⟩)
      go_ret
      exact ⟨rfl, rfl⟩
    · obtain rfl : i = (k : Int) := by omega
      clear hk
      go_enter Tryd.func13, Tryd.ntmps13
      go_wp2_with (go_at_call 41; refine HI.out.mono ?_; rintro e w' ⟨rfl, rfl⟩)
      go_ret
      exact ⟨rfl, rfl⟩
end Go.Proofs.YtopgikjmeebgbaaDoor
