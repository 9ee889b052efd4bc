/- And, Or, Less, Clone; the document's Both. -/
import Derived.Test.YtopgikjmeebgbaaDoorBo
import Derived.Shelf.Abstract
namespace Go.Proofs.YtopgikjmeebgbaaDoor
open Go.RowKit
set_option linter.unusedVariables false
set_option linter.unusedSimpArgs false
theorem less_eq (x y : Nat) (hx : x < 18446744073709551616) (hy : y < 18446744073709551616) : x &&& (18446744073709551615 - y) = x ^^^ (x &&& y) := by
  refine Nat.eq_of_testBit_eq fun t => ?_
  have e1 : 18446744073709551615 - y = 2 ^ 64 - (y + 1) := by omega
  rw [Nat.testBit_and, Nat.testBit_xor, Nat.testBit_and, e1, Nat.testBit_two_pow_sub_succ hy]
  by_cases ht : t < 64
  · simp only [ht, decide_true, Bool.true_and]
    cases x.testBit t <;> cases y.testBit t <;> rfl
  · have : x.testBit t = false := Nat.testBit_lt_two_pow (Nat.lt_of_lt_of_le hx (Nat.pow_le_pow_right (show 0 < 2 by decide) (show 64 ≤ t by omega)))
    simp [this]
def fLess (x y : Bool) : Bool := x && !y
def fAnd (x y : Bool) : Bool := x && y
def fOr (x y : Bool) : Bool := x || y
theorem clAnd (x y : Nat) (w : World) (hx : x < 18446744073709551616) (hy : y < 18446744073709551616) : Calls Tryd.prog 48 #[.int .u64 x, .int .u64 y] w fun e w' => e = .returned (.int .u64 ((x &&& y : Nat) : Int)) ∧ w = w' := by
  go_enter Tryd.func48, Tryd.ntmps48
  go_wp2
  go_ret
  exact ⟨ret_int (by rw [bits_and_u64_nat x y hx hy]), rfl⟩
theorem and_any (g W gb Wb : Nat) (xs bs : List Bool) (w : World) (ha : SetAt w g W xs) (hb : SetAt w gb Wb bs) :
    Calls Tryd.prog 23 #[.pointer (some ⟨g, 0, none⟩), .pointer (some ⟨gb, 0, none⟩)] w fun e w' => ∃ go Wo, e = .returned (.pointer (some ⟨go, 0, none⟩)) ∧ SetAt w' go Wo (List.zipWith fAnd xs bs) ∧ w.heap.size ≤ Wo ∧ Below w.heap.size w w' := by
  have HB := Lib.hid (both_any 48 (fun x y => x &&& y) fAnd rfl (fun x y t => by rw [Nat.testBit_and]; rfl) (fun x y hx hy => Nat.lt_of_le_of_lt Nat.and_le_left hx) (fun args w => enters_of Tryd.func48 (by kernel_rfl) rfl args w) clAnd g W gb Wb xs bs w ha hb)
  go_enter Tryd.func23, Tryd.ntmps23
  go_wp2_with (go_at_call 47; refine HB.out.mono ?_; rintro e w' ⟨go, Wo, rfl, h1, h2, h3⟩)
  go_ret
  first | exact ⟨_, _, rfl, h1, h2, h3⟩ | exact ⟨_, rfl, _, h1, h2, h3⟩
theorem clOr (x y : Nat) (w : World) (hx : x < 18446744073709551616) (hy : y < 18446744073709551616) : Calls Tryd.prog 49 #[.int .u64 x, .int .u64 y] w fun e w' => e = .returned (.int .u64 ((x ||| y : Nat) : Int)) ∧ w = w' := by
  go_enter Tryd.func49, Tryd.ntmps49
  go_wp2
  go_ret
  exact ⟨ret_int (by rw [bits_or_u64_nat x y hx hy]), rfl⟩
theorem or_any (g W gb Wb : Nat) (xs bs : List Bool) (w : World) (ha : SetAt w g W xs) (hb : SetAt w gb Wb bs) :
    Calls Tryd.prog 25 #[.pointer (some ⟨g, 0, none⟩), .pointer (some ⟨gb, 0, none⟩)] w fun e w' => ∃ go Wo, e = .returned (.pointer (some ⟨go, 0, none⟩)) ∧ SetAt w' go Wo (List.zipWith fOr xs bs) ∧ w.heap.size ≤ Wo ∧ Below w.heap.size w w' := by
  have HB := Lib.hid (both_any 49 (fun x y => x ||| y) fOr rfl (fun x y t => by rw [Nat.testBit_or]; rfl) (fun x y hx hy => Nat.or_lt_two_pow (n := 64) hx hy) (fun args w => enters_of Tryd.func49 (by kernel_rfl) rfl args w) clOr g W gb Wb xs bs w ha hb)
  go_enter Tryd.func25, Tryd.ntmps25
  go_wp2_with (go_at_call 47; refine HB.out.mono ?_; rintro e w' ⟨go, Wo, rfl, h1, h2, h3⟩)
  go_ret
  first | exact ⟨_, _, rfl, h1, h2, h3⟩ | exact ⟨_, rfl, _, h1, h2, h3⟩
theorem clLess (x y : Nat) (w : World) (hx : x < 18446744073709551616) (hy : y < 18446744073709551616) : Calls Tryd.prog 50 #[.int .u64 x, .int .u64 y] w fun e w' => e = .returned (.int .u64 ((x ^^^ (x &&& y) : Nat) : Int)) ∧ w = w' := by
  go_enter Tryd.func50, Tryd.ntmps50
  go_wp2
  go_ret
  exact ⟨ret_int (by rw [u64_andNot_nat x y hx hy, less_eq x y hx hy]), rfl⟩
theorem less_any (g W gb Wb : Nat) (xs bs : List Bool) (w : World) (ha : SetAt w g W xs) (hb : SetAt w gb Wb bs) :
    Calls Tryd.prog 26 #[.pointer (some ⟨g, 0, none⟩), .pointer (some ⟨gb, 0, none⟩)] w fun e w' => ∃ go Wo, e = .returned (.pointer (some ⟨go, 0, none⟩)) ∧ SetAt w' go Wo (List.zipWith fLess xs bs) ∧ w.heap.size ≤ Wo ∧ Below w.heap.size w w' := by
  have HB := Lib.hid (both_any 50 (fun x y => x ^^^ (x &&& y)) fLess rfl (fun x y t => by rw [Nat.testBit_xor, Nat.testBit_and]; cases x.testBit t <;> cases y.testBit t <;> rfl) (fun x y hx hy => Nat.xor_lt_two_pow (n := 64) hx (Nat.lt_of_le_of_lt Nat.and_le_left hx)) (fun args w => enters_of Tryd.func50 (by kernel_rfl) rfl args w) clLess g W gb Wb xs bs w ha hb)
  go_enter Tryd.func26, Tryd.ntmps26
  go_wp2_with (go_at_call 47; refine HB.out.mono ?_; rintro e w' ⟨go, Wo, rfl, h1, h2, h3⟩)
  go_ret
  first | exact ⟨_, _, rfl, h1, h2, h3⟩ | exact ⟨_, rfl, _, h1, h2, h3⟩
theorem zip_self (xs : List Bool) : List.zipWith fOr xs xs = xs := by
  refine List.ext_getElem (by simp) fun i h1 h2 => ?_
  simp [fOr]
theorem clone_any (g W : Nat) (xs : List Bool) (w : World) (ha : SetAt w g W xs) :
    Calls Tryd.prog 27 #[.pointer (some ⟨g, 0, none⟩)] w fun e w' => ∃ go Wo, e = .returned (.pointer (some ⟨go, 0, none⟩)) ∧ SetAt w' go Wo xs ∧ w.heap.size ≤ Wo ∧ Below w.heap.size w w' := by
  have HB := or_any g W g W xs xs w ha ha
  rw [zip_self] at HB
  have HB := Lib.hid HB
  go_enter Tryd.func27, Tryd.ntmps27
  go_wp2_with (go_at_call 25; refine HB.out.mono ?_; rintro e w' ⟨go, Wo, rfl, h1, h2, h3⟩)
  go_ret
  first | exact ⟨_, _, rfl, h1, h2, h3⟩ | exact ⟨_, rfl, _, h1, h2, h3⟩
/-- The document's Both, so far. -/
def outs (zs : List Bool) (j : Nat) : List Bool := zs.take j ++ List.replicate (zs.length - j) false
theorem outs_zero (zs : List Bool) : outs zs 0 = List.replicate zs.length false := by simp [outs]
theorem outs_end (zs : List Bool) : outs zs zs.length = zs := by simp [outs]
theorem outs_len (zs : List Bool) (j : Nat) (hj : j ≤ zs.length) : (outs zs j).length = zs.length := by
  rw [outs, List.length_append, List.length_take, List.length_replicate]; omega
theorem outs_set (zs : List Bool) (j : Nat) (hj : j < zs.length) : (outs zs j).set j zs[j] = outs zs (j + 1) := by
  have hl : (zs.take j).length = j := by rw [List.length_take]; omega
  rw [outs, List.set_append_right _ _ (by omega), hl, Nat.sub_self, show zs.length - j = (zs.length - (j + 1)) + 1 by omega, List.replicate_succ, List.set_cons_zero, outs, List.take_succ_eq_append_getElem hj, List.append_assoc]
  rfl
set_option maxHeartbeats 3200000 in
theorem rboth0 (g R gb Rb : Nat) (xs bs : List Bool) (w : World) (ha : RefAt w g R xs) (hb : RefAt w gb Rb bs) :
    Calls Tryd.prog 24 #[.pointer (some ⟨g, 0, none⟩), .pointer (some ⟨gb, 0, none⟩), .int .i64 0] w fun e w' => ∃ go Ro, e = .returned (.pointer (some ⟨go, 0, none⟩)) ∧ RefAt w' go Ro (List.zipWith fAnd xs bs) ∧ w.heap.size ≤ Ro ∧ Below w.heap.size w w' := by
  have hasm := ha.small
  have hbsm := hb.small
  have hzl : (List.zipWith fAnd xs bs).length = min xs.length bs.length := List.length_zipWith
  obtain ⟨zs, hzs⟩ : ∃ zs, zs = List.zipWith fAnd xs bs := ⟨_, rfl⟩
  rw [← hzs] at hzl ⊢
  have HZ : Hid (∀ j (h : j < zs.length) (h1 : j < xs.length) (h2 : j < bs.length), zs[j] = fAnd xs[j] bs[j]) := fun j h h1 h2 => by simp only [hzs, List.getElem_zipWith]
  clear hzs
  have HA := Lib.hid (fun (w' : World) (h : Below w.heap.size w w') => ha.below h)
  have HB := Lib.hid (fun (w' : World) (h : Below w.heap.size w w') => hb.below h)
  have HNw : Hid (∀ n : Int, n = (zs.length : Int) → ∀ w, Calls Tryd.prog 43 #[.int .i64 n] w fun e w' => ∃ g R, e = .returned (.pointer (some ⟨g, 0, none⟩)) ∧ RefAt w' g R (outs zs 0) ∧ w.heap.size ≤ R ∧ Below w.heap.size w w') := by
    show ∀ n : Int, _
    intro n hn w
    have := rnew_any n w
    rw [show clip n = zs.length by unfold clip; omega, ← outs_zero] at this
    exact this
  have k1 : w.drew.cell? ⟨g, 0, none⟩ = some (.slice (some ⟨R, 0, none⟩) xs.length xs.length) := ha.c0
  have k2 : w.drew.cell? ⟨gb, 0, none⟩ = some (.slice (some ⟨Rb, 0, none⟩) bs.length bs.length) := hb.c0
  have hbd : Below w.heap.size w w.drew := (Below.refl _ _).drew
  have hgs := ha.glt
  have hgbs := hb.glt
  have hRl := ha.lt
  have hRbl := hb.lt
  clear ha hb
  go_enter Tryd.func24, Tryd.ntmps24
  go_wp2_with fail
  by_cases hle : xs.length ≤ bs.length
  · have hle2 : (xs.length : Int) ≤ (bs.length : Int) := by omega
    go_region_law (first
      | (go_simp; go_at_call 43; refine (HNw.out _ (by omega) _).mono ?_; rintro e w1 ⟨go, Ro, rfl, hO, hRo, hb1⟩))
    all_goals
      have hb01 := hbd.trans (hb1.mono hbd.size)
      have hmx : zs.length ≤ xs.length := by omega
      have hmy : zs.length ≤ bs.length := by omega
      have hRo2 : w.heap.size ≤ Ro := Nat.le_trans hbd.size hRo
      clear HNw hle2 k1 k2 hb1 hRo
      have h1 := hO.c0
      rw [outs_len _ _ (Nat.zero_le _)] at h1
      go_wp2_with fail
      go_loopg [28] zs.length (fun r i wr => ∃ j : Nat, j + r = zs.length ∧ i = .int .i64 j ∧ RefAt wr go Ro (outs zs j) ∧ Below w.heap.size w wr)
      case atStart => exact ⟨0, by omega, rfl, hO, hb01⟩
      case round =>
        clear h1 hO hb01
        obtain ⟨j, hj, rfl, hO, hbw⟩ := hrel
        have hOl := hO.lt
        by_cases hjn : j < zs.length
        · have hja : j < xs.length := by omega
          have hjb : j < bs.length := by omega
          have hol : (outs zs j).length = zs.length := outs_len _ _ (by omega)
          have k1 := hO.c0
          rw [hol] at k1
          have k2 := (HA.out wr hbw).c0
          have k3 := (HB.out wr hbw).c0
          have k4 := (HA.out wr hbw).bit j hja
          have k5 := (HB.out wr hbw).bit j hjb
          have k6 := hO.bit j (by omega)
          have kf := hO.free j (by omega)
          have HP := Lib.hid (hO.put j (by omega) zs[j])
          rw [outs_set _ _ hjn, HZ.out j hjn hja hjb] at HP
          generalize xs[j] = x at k4 HP
          generalize bs[j] = y at k5 HP
          generalize (outs zs j)[j] = z6 at k6
          have hj1 : (j : Int) < (zs.length : Int) := by omega
          have hj2 : (j : Int) < (xs.length : Int) := by omega
          have hj3 : (j : Int) < (bs.length : Int) := by omega
          have hzs : zs.length ≤ 65536 := by omega
          clear hO
          cases x <;> cases y <;>
          · go_wp2
            have hO2 := HP.out
            go_roundg (zs.length - (j + 1))
            case measure => omega
            case rel => exact ⟨j + 1, by omega, by go_num, hO2, hbw.setCell (p := ⟨Ro, j, none⟩) hRo2 _⟩
        · obtain rfl : j = zs.length := by omega
          rw [outs_end] at hO
          go_wp2
          go_ret
          first | exact ⟨_, _, rfl, hO, hRo2, hbw⟩ | exact ⟨_, rfl, _, hO, hRo2, hbw⟩
  · have hle2 : (bs.length : Int) ≤ (xs.length : Int) := by omega
    go_region_law (first
      | (go_simp; go_at_call 43; refine (HNw.out _ (by omega) _).mono ?_; rintro e w1 ⟨go, Ro, rfl, hO, hRo, hb1⟩))
    all_goals
      have hb01 := hbd.trans (hb1.mono hbd.size)
      have hmx : zs.length ≤ xs.length := by omega
      have hmy : zs.length ≤ bs.length := by omega
      have hRo2 : w.heap.size ≤ Ro := Nat.le_trans hbd.size hRo
      clear HNw hle2 k1 k2 hb1 hRo
      have h1 := hO.c0
      rw [outs_len _ _ (Nat.zero_le _)] at h1
      go_wp2_with fail
      go_loopg [28] zs.length (fun r i wr => ∃ j : Nat, j + r = zs.length ∧ i = .int .i64 j ∧ RefAt wr go Ro (outs zs j) ∧ Below w.heap.size w wr)
      case atStart => exact ⟨0, by omega, rfl, hO, hb01⟩
      case round =>
        clear h1 hO hb01
        obtain ⟨j, hj, rfl, hO, hbw⟩ := hrel
        have hOl := hO.lt
        by_cases hjn : j < zs.length
        · have hja : j < xs.length := by omega
          have hjb : j < bs.length := by omega
          have hol : (outs zs j).length = zs.length := outs_len _ _ (by omega)
          have k1 := hO.c0
          rw [hol] at k1
          have k2 := (HA.out wr hbw).c0
          have k3 := (HB.out wr hbw).c0
          have k4 := (HA.out wr hbw).bit j hja
          have k5 := (HB.out wr hbw).bit j hjb
          have k6 := hO.bit j (by omega)
          have kf := hO.free j (by omega)
          have HP := Lib.hid (hO.put j (by omega) zs[j])
          rw [outs_set _ _ hjn, HZ.out j hjn hja hjb] at HP
          generalize xs[j] = x at k4 HP
          generalize bs[j] = y at k5 HP
          generalize (outs zs j)[j] = z6 at k6
          have hj1 : (j : Int) < (zs.length : Int) := by omega
          have hj2 : (j : Int) < (xs.length : Int) := by omega
          have hj3 : (j : Int) < (bs.length : Int) := by omega
          have hzs : zs.length ≤ 65536 := by omega
          clear hO
          cases x <;> cases y <;>
          · go_wp2
            have hO2 := HP.out
            go_roundg (zs.length - (j + 1))
            case measure => omega
            case rel => exact ⟨j + 1, by omega, by go_num, hO2, hbw.setCell (p := ⟨Ro, j, none⟩) hRo2 _⟩
        · obtain rfl : j = zs.length := by omega
          rw [outs_end] at hO
          go_wp2
          go_ret
          first | exact ⟨_, _, rfl, hO, hRo2, hbw⟩ | exact ⟨_, rfl, _, hO, hRo2, hbw⟩
set_option maxHeartbeats 3200000 in
theorem rboth1 (g R gb Rb : Nat) (xs bs : List Bool) (w : World) (ha : RefAt w g R xs) (hb : RefAt w gb Rb bs) :
    Calls Tryd.prog 24 #[.pointer (some ⟨g, 0, none⟩), .pointer (some ⟨gb, 0, none⟩), .int .i64 1] w fun e w' => ∃ go Ro, e = .returned (.pointer (some ⟨go, 0, none⟩)) ∧ RefAt w' go Ro (List.zipWith fOr xs bs) ∧ w.heap.size ≤ Ro ∧ Below w.heap.size w w' := by
  have hasm := ha.small
  have hbsm := hb.small
  have hzl : (List.zipWith fOr xs bs).length = min xs.length bs.length := List.length_zipWith
  obtain ⟨zs, hzs⟩ : ∃ zs, zs = List.zipWith fOr xs bs := ⟨_, rfl⟩
  rw [← hzs] at hzl ⊢
  have HZ : Hid (∀ j (h : j < zs.length) (h1 : j < xs.length) (h2 : j < bs.length), zs[j] = fOr xs[j] bs[j]) := fun j h h1 h2 => by simp only [hzs, List.getElem_zipWith]
  clear hzs
  have HA := Lib.hid (fun (w' : World) (h : Below w.heap.size w w') => ha.below h)
  have HB := Lib.hid (fun (w' : World) (h : Below w.heap.size w w') => hb.below h)
  have HNw : Hid (∀ n : Int, n = (zs.length : Int) → ∀ w, Calls Tryd.prog 43 #[.int .i64 n] w fun e w' => ∃ g R, e = .returned (.pointer (some ⟨g, 0, none⟩)) ∧ RefAt w' g R (outs zs 0) ∧ w.heap.size ≤ R ∧ Below w.heap.size w w') := by
    show ∀ n : Int, _
    intro n hn w
    have := rnew_any n w
    rw [show clip n = zs.length by unfold clip; omega, ← outs_zero] at this
    exact this
  have k1 : w.drew.cell? ⟨g, 0, none⟩ = some (.slice (some ⟨R, 0, none⟩) xs.length xs.length) := ha.c0
  have k2 : w.drew.cell? ⟨gb, 0, none⟩ = some (.slice (some ⟨Rb, 0, none⟩) bs.length bs.length) := hb.c0
  have hbd : Below w.heap.size w w.drew := (Below.refl _ _).drew
  have hgs := ha.glt
  have hgbs := hb.glt
  have hRl := ha.lt
  have hRbl := hb.lt
  clear ha hb
  go_enter Tryd.func24, Tryd.ntmps24
  go_wp2_with fail
  by_cases hle : xs.length ≤ bs.length
  · have hle2 : (xs.length : Int) ≤ (bs.length : Int) := by omega
    go_region_law (first
      | (go_simp; go_at_call 43; refine (HNw.out _ (by omega) _).mono ?_; rintro e w1 ⟨go, Ro, rfl, hO, hRo, hb1⟩))
    all_goals
      have hb01 := hbd.trans (hb1.mono hbd.size)
      have hmx : zs.length ≤ xs.length := by omega
      have hmy : zs.length ≤ bs.length := by omega
      have hRo2 : w.heap.size ≤ Ro := Nat.le_trans hbd.size hRo
      clear HNw hle2 k1 k2 hb1 hRo
      have h1 := hO.c0
      rw [outs_len _ _ (Nat.zero_le _)] at h1
      go_wp2_with fail
      go_loopg [28] zs.length (fun r i wr => ∃ j : Nat, j + r = zs.length ∧ i = .int .i64 j ∧ RefAt wr go Ro (outs zs j) ∧ Below w.heap.size w wr)
      case atStart => exact ⟨0, by omega, rfl, hO, hb01⟩
      case round =>
        clear h1 hO hb01
        obtain ⟨j, hj, rfl, hO, hbw⟩ := hrel
        have hOl := hO.lt
        by_cases hjn : j < zs.length
        · have hja : j < xs.length := by omega
          have hjb : j < bs.length := by omega
          have hol : (outs zs j).length = zs.length := outs_len _ _ (by omega)
          have k1 := hO.c0
          rw [hol] at k1
          have k2 := (HA.out wr hbw).c0
          have k3 := (HB.out wr hbw).c0
          have k4 := (HA.out wr hbw).bit j hja
          have k5 := (HB.out wr hbw).bit j hjb
          have k6 := hO.bit j (by omega)
          have kf := hO.free j (by omega)
          have HP := Lib.hid (hO.put j (by omega) zs[j])
          rw [outs_set _ _ hjn, HZ.out j hjn hja hjb] at HP
          generalize xs[j] = x at k4 HP
          generalize bs[j] = y at k5 HP
          generalize (outs zs j)[j] = z6 at k6
          have hj1 : (j : Int) < (zs.length : Int) := by omega
          have hj2 : (j : Int) < (xs.length : Int) := by omega
          have hj3 : (j : Int) < (bs.length : Int) := by omega
          have hzs : zs.length ≤ 65536 := by omega
          clear hO
          cases x <;> cases y <;>
          · go_wp2
            have hO2 := HP.out
            go_roundg (zs.length - (j + 1))
            case measure => omega
            case rel => exact ⟨j + 1, by omega, by go_num, hO2, hbw.setCell (p := ⟨Ro, j, none⟩) hRo2 _⟩
        · obtain rfl : j = zs.length := by omega
          rw [outs_end] at hO
          go_wp2
          go_ret
          first | exact ⟨_, _, rfl, hO, hRo2, hbw⟩ | exact ⟨_, rfl, _, hO, hRo2, hbw⟩
  · have hle2 : (bs.length : Int) ≤ (xs.length : Int) := by omega
    go_region_law (first
      | (go_simp; go_at_call 43; refine (HNw.out _ (by omega) _).mono ?_; rintro e w1 ⟨go, Ro, rfl, hO, hRo, hb1⟩))
    all_goals
      have hb01 := hbd.trans (hb1.mono hbd.size)
      have hmx : zs.length ≤ xs.length := by omega
      have hmy : zs.length ≤ bs.length := by omega
      have hRo2 : w.heap.size ≤ Ro := Nat.le_trans hbd.size hRo
      clear HNw hle2 k1 k2 hb1 hRo
      have h1 := hO.c0
      rw [outs_len _ _ (Nat.zero_le _)] at h1
      go_wp2_with fail
      go_loopg [28] zs.length (fun r i wr => ∃ j : Nat, j + r = zs.length ∧ i = .int .i64 j ∧ RefAt wr go Ro (outs zs j) ∧ Below w.heap.size w wr)
      case atStart => exact ⟨0, by omega, rfl, hO, hb01⟩
      case round =>
        clear h1 hO hb01
        obtain ⟨j, hj, rfl, hO, hbw⟩ := hrel
        have hOl := hO.lt
        by_cases hjn : j < zs.length
        · have hja : j < xs.length := by omega
          have hjb : j < bs.length := by omega
          have hol : (outs zs j).length = zs.length := outs_len _ _ (by omega)
          have k1 := hO.c0
          rw [hol] at k1
          have k2 := (HA.out wr hbw).c0
          have k3 := (HB.out wr hbw).c0
          have k4 := (HA.out wr hbw).bit j hja
          have k5 := (HB.out wr hbw).bit j hjb
          have k6 := hO.bit j (by omega)
          have kf := hO.free j (by omega)
          have HP := Lib.hid (hO.put j (by omega) zs[j])
          rw [outs_set _ _ hjn, HZ.out j hjn hja hjb] at HP
          generalize xs[j] = x at k4 HP
          generalize bs[j] = y at k5 HP
          generalize (outs zs j)[j] = z6 at k6
          have hj1 : (j : Int) < (zs.length : Int) := by omega
          have hj2 : (j : Int) < (xs.length : Int) := by omega
          have hj3 : (j : Int) < (bs.length : Int) := by omega
          have hzs : zs.length ≤ 65536 := by omega
          clear hO
          cases x <;> cases y <;>
          · go_wp2
            have hO2 := HP.out
            go_roundg (zs.length - (j + 1))
            case measure => omega
            case rel => exact ⟨j + 1, by omega, by go_num, hO2, hbw.setCell (p := ⟨Ro, j, none⟩) hRo2 _⟩
        · obtain rfl : j = zs.length := by omega
          rw [outs_end] at hO
          go_wp2
          go_ret
          first | exact ⟨_, _, rfl, hO, hRo2, hbw⟩ | exact ⟨_, rfl, _, hO, hRo2, hbw⟩
set_option maxHeartbeats 3200000 in
theorem rboth2 (g R gb Rb : Nat) (xs bs : List Bool) (w : World) (ha : RefAt w g R xs) (hb : RefAt w gb Rb bs) :
    Calls Tryd.prog 24 #[.pointer (some ⟨g, 0, none⟩), .pointer (some ⟨gb, 0, none⟩), .int .i64 2] w fun e w' => ∃ go Ro, e = .returned (.pointer (some ⟨go, 0, none⟩)) ∧ RefAt w' go Ro (List.zipWith fLess xs bs) ∧ w.heap.size ≤ Ro ∧ Below w.heap.size w w' := by
  have hasm := ha.small
  have hbsm := hb.small
  have hzl : (List.zipWith fLess xs bs).length = min xs.length bs.length := List.length_zipWith
  obtain ⟨zs, hzs⟩ : ∃ zs, zs = List.zipWith fLess xs bs := ⟨_, rfl⟩
  rw [← hzs] at hzl ⊢
  have HZ : Hid (∀ j (h : j < zs.length) (h1 : j < xs.length) (h2 : j < bs.length), zs[j] = fLess xs[j] bs[j]) := fun j h h1 h2 => by simp only [hzs, List.getElem_zipWith]
  clear hzs
  have HA := Lib.hid (fun (w' : World) (h : Below w.heap.size w w') => ha.below h)
  have HB := Lib.hid (fun (w' : World) (h : Below w.heap.size w w') => hb.below h)
  have HNw : Hid (∀ n : Int, n = (zs.length : Int) → ∀ w, Calls Tryd.prog 43 #[.int .i64 n] w fun e w' => ∃ g R, e = .returned (.pointer (some ⟨g, 0, none⟩)) ∧ RefAt w' g R (outs zs 0) ∧ w.heap.size ≤ R ∧ Below w.heap.size w w') := by
    show ∀ n : Int, _
    intro n hn w
    have := rnew_any n w
    rw [show clip n = zs.length by unfold clip; omega, ← outs_zero] at this
    exact this
  have k1 : w.drew.cell? ⟨g, 0, none⟩ = some (.slice (some ⟨R, 0, none⟩) xs.length xs.length) := ha.c0
  have k2 : w.drew.cell? ⟨gb, 0, none⟩ = some (.slice (some ⟨Rb, 0, none⟩) bs.length bs.length) := hb.c0
  have hbd : Below w.heap.size w w.drew := (Below.refl _ _).drew
  have hgs := ha.glt
  have hgbs := hb.glt
  have hRl := ha.lt
  have hRbl := hb.lt
  clear ha hb
  go_enter Tryd.func24, Tryd.ntmps24
  go_wp2_with fail
  by_cases hle : xs.length ≤ bs.length
  · have hle2 : (xs.length : Int) ≤ (bs.length : Int) := by omega
    go_region_law (first
      | (go_simp; go_at_call 43; refine (HNw.out _ (by omega) _).mono ?_; rintro e w1 ⟨go, Ro, rfl, hO, hRo, hb1⟩))
    all_goals
      have hb01 := hbd.trans (hb1.mono hbd.size)
      have hmx : zs.length ≤ xs.length := by omega
      have hmy : zs.length ≤ bs.length := by omega
      have hRo2 : w.heap.size ≤ Ro := Nat.le_trans hbd.size hRo
      clear HNw hle2 k1 k2 hb1 hRo
      have h1 := hO.c0
      rw [outs_len _ _ (Nat.zero_le _)] at h1
      go_wp2_with fail
      go_loopg [28] zs.length (fun r i wr => ∃ j : Nat, j + r = zs.length ∧ i = .int .i64 j ∧ RefAt wr go Ro (outs zs j) ∧ Below w.heap.size w wr)
      case atStart => exact ⟨0, by omega, rfl, hO, hb01⟩
      case round =>
        clear h1 hO hb01
        obtain ⟨j, hj, rfl, hO, hbw⟩ := hrel
        have hOl := hO.lt
        by_cases hjn : j < zs.length
        · have hja : j < xs.length := by omega
          have hjb : j < bs.length := by omega
          have hol : (outs zs j).length = zs.length := outs_len _ _ (by omega)
          have k1 := hO.c0
          rw [hol] at k1
          have k2 := (HA.out wr hbw).c0
          have k3 := (HB.out wr hbw).c0
          have k4 := (HA.out wr hbw).bit j hja
          have k5 := (HB.out wr hbw).bit j hjb
          have k6 := hO.bit j (by omega)
          have kf := hO.free j (by omega)
          have HP := Lib.hid (hO.put j (by omega) zs[j])
          rw [outs_set _ _ hjn, HZ.out j hjn hja hjb] at HP
          generalize xs[j] = x at k4 HP
          generalize bs[j] = y at k5 HP
          generalize (outs zs j)[j] = z6 at k6
          have hj1 : (j : Int) < (zs.length : Int) := by omega
          have hj2 : (j : Int) < (xs.length : Int) := by omega
          have hj3 : (j : Int) < (bs.length : Int) := by omega
          have hzs : zs.length ≤ 65536 := by omega
          clear hO
          cases x <;> cases y <;>
          · go_wp2
            have hO2 := HP.out
            go_roundg (zs.length - (j + 1))
            case measure => omega
            case rel => exact ⟨j + 1, by omega, by go_num, hO2, hbw.setCell (p := ⟨Ro, j, none⟩) hRo2 _⟩
        · obtain rfl : j = zs.length := by omega
          rw [outs_end] at hO
          go_wp2
          go_ret
          first | exact ⟨_, _, rfl, hO, hRo2, hbw⟩ | exact ⟨_, rfl, _, hO, hRo2, hbw⟩
  · have hle2 : (bs.length : Int) ≤ (xs.length : Int) := by omega
    go_region_law (first
      | (go_simp; go_at_call 43; refine (HNw.out _ (by omega) _).mono ?_; rintro e w1 ⟨go, Ro, rfl, hO, hRo, hb1⟩))
    all_goals
      have hb01 := hbd.trans (hb1.mono hbd.size)
      have hmx : zs.length ≤ xs.length := by omega
      have hmy : zs.length ≤ bs.length := by omega
      have hRo2 : w.heap.size ≤ Ro := Nat.le_trans hbd.size hRo
      clear HNw hle2 k1 k2 hb1 hRo
      have h1 := hO.c0
      rw [outs_len _ _ (Nat.zero_le _)] at h1
      go_wp2_with fail
      go_loopg [28] zs.length (fun r i wr => ∃ j : Nat, j + r = zs.length ∧ i = .int .i64 j ∧ RefAt wr go Ro (outs zs j) ∧ Below w.heap.size w wr)
      case atStart => exact ⟨0, by omega, rfl, hO, hb01⟩
      case round =>
        clear h1 hO hb01
        obtain ⟨j, hj, rfl, hO, hbw⟩ := hrel
        have hOl := hO.lt
        by_cases hjn : j < zs.length
        · have hja : j < xs.length := by omega
          have hjb : j < bs.length := by omega
          have hol : (outs zs j).length = zs.length := outs_len _ _ (by omega)
          have k1 := hO.c0
          rw [hol] at k1
          have k2 := (HA.out wr hbw).c0
          have k3 := (HB.out wr hbw).c0
          have k4 := (HA.out wr hbw).bit j hja
          have k5 := (HB.out wr hbw).bit j hjb
          have k6 := hO.bit j (by omega)
          have kf := hO.free j (by omega)
          have HP := Lib.hid (hO.put j (by omega) zs[j])
          rw [outs_set _ _ hjn, HZ.out j hjn hja hjb] at HP
          generalize xs[j] = x at k4 HP
          generalize bs[j] = y at k5 HP
          generalize (outs zs j)[j] = z6 at k6
          have hj1 : (j : Int) < (zs.length : Int) := by omega
          have hj2 : (j : Int) < (xs.length : Int) := by omega
          have hj3 : (j : Int) < (bs.length : Int) := by omega
          have hzs : zs.length ≤ 65536 := by omega
          clear hO
          cases x <;> cases y <;>
          · go_wp2
            have hO2 := HP.out
            go_roundg (zs.length - (j + 1))
            case measure => omega
            case rel => exact ⟨j + 1, by omega, by go_num, hO2, hbw.setCell (p := ⟨Ro, j, none⟩) hRo2 _⟩
        · obtain rfl : j = zs.length := by omega
          rw [outs_end] at hO
          go_wp2
          go_ret
          first | exact ⟨_, _, rfl, hO, hRo2, hbw⟩ | exact ⟨_, rfl, _, hO, hRo2, hbw⟩
end Go.Proofs.YtopgikjmeebgbaaDoor
