/- The bytes of numbers stand in their order; the walk of the law. -/
import Derived.Test.YtcdggfojmfefkaaCoK
import Derived.Test.YtcdggfojmfefkaaCmp
namespace Go.Proofs.Ytcdggfojmfefkaa
open Go.RowKit
set_option linter.unusedVariables false
set_option linter.unusedSimpArgs false
theorem compareBytes_cons (x y : Nat) (xs ys : List UInt8) (hx : x < 256) (hy : y < 256) : Lib.compareBytes (UInt8.ofNat x :: xs) (UInt8.ofNat y :: ys) = if x < y then -1 else if y < x then 1 else Lib.compareBytes xs ys := by
  have h : ∀ a b : Nat, a < 256 → b < 256 → (UInt8.ofNat a < UInt8.ofNat b ↔ a < b) := by
    intro a b ha hb
    rw [UInt8.lt_iff_toNat_lt, UInt8.toNat_ofNat', UInt8.toNat_ofNat', Nat.mod_eq_of_lt ha, Nat.mod_eq_of_lt hb]
  simp only [Lib.compareBytes, h x y hx hy, h y x hy hx]
theorem tail_mod (x k : Nat) : ∀ j, k ≤ j → tailBytes (x % 256 ^ j) k = tailBytes x k := by
  induction k with
  | zero => intro j _; rfl
  | succ k ih =>
    intro j hj
    rw [tailBytes, tailBytes, ih j (by omega)]
    congr 1
    have : UInt8.ofNat (x % 256 ^ j / 256 ^ k) = UInt8.ofNat (x / 256 ^ k) := by
      apply UInt8.toNat_inj.1
      rw [UInt8.toNat_ofNat', UInt8.toNat_ofNat']
      obtain ⟨m, rfl⟩ : ∃ m, j = k + 1 + m := ⟨j - (k + 1), by omega⟩
      rw [Nat.pow_add, Nat.pow_succ, Nat.mul_assoc, Nat.mod_mul_right_div_self]
      rw [show (2 : Nat) ^ 8 = 256 from rfl, Nat.mod_mul_right_mod]
    exact this
theorem compare_tails (k : Nat) : ∀ x y, x < 256 ^ k → y < 256 ^ k → Lib.compareBytes (tailBytes x k) (tailBytes y k) = if x < y then -1 else if y < x then 1 else 0 := by
  induction k with
  | zero => intro x y hx hy; simp at hx hy; subst hx hy; rfl
  | succ k ih =>
    intro x y hx hy
    have hp := Nat.pow_pos (n := k) (show 0 < 256 by decide)
    rw [Nat.pow_succ] at hx hy
    have hxd : x / 256 ^ k < 256 := by rw [Nat.div_lt_iff_lt_mul hp, Nat.mul_comm]; exact hx
    have hyd : y / 256 ^ k < 256 := by rw [Nat.div_lt_iff_lt_mul hp, Nat.mul_comm]; exact hy
    have hi := ih (x % 256 ^ k) (y % 256 ^ k) (Nat.mod_lt _ hp) (Nat.mod_lt _ hp)
    rw [tail_mod x k k (Nat.le_refl _), tail_mod y k k (Nat.le_refl _)] at hi
    rw [tailBytes, tailBytes, compareBytes_cons _ _ _ _ hxd hyd, hi]
    have ex := Nat.div_add_mod x (256 ^ k)
    have ey := Nat.div_add_mod y (256 ^ k)
    have mx := Nat.mod_lt x hp
    have my := Nat.mod_lt y hp
    generalize x / 256 ^ k = a at ex hxd ⊢
    generalize y / 256 ^ k = b at ey hyd ⊢
    generalize x % 256 ^ k = r at ex mx ⊢
    generalize y % 256 ^ k = s at ey my ⊢
    generalize 256 ^ k = p at *
    subst ex ey
    have key : ∀ a b r s : Nat, r < p → s < p → a < b → p * a + r < p * b + s := by
      intro a b r s hr hs h
      have : p * (a + 1) ≤ p * b := Nat.mul_le_mul_left _ h
      rw [Nat.mul_add, Nat.mul_one] at this
      omega
    rcases Nat.lt_trichotomy a b with h | h | h
    · have := key a b r s mx my h
      rw [if_pos h, if_pos this]
    · subst h
      rw [if_neg (Nat.lt_irrefl _), if_neg (Nat.lt_irrefl _)]
      congr 1
      · exact propext ⟨fun h => by omega, fun h => by omega⟩
      · congr 1; exact propext ⟨fun h => by omega, fun h => by omega⟩
    · have := key b a s r my mx h
      rw [if_neg (by omega), if_pos h, if_neg (by omega), if_pos this]
theorem need_mono {x y : Nat} (hx : x < 18446744073709551616) (hy : y < 18446744073709551616) (h : x ≤ y) : need x ≤ need y := by
  rcases Nat.lt_or_ge (need y) (need x) with h1 | h1
  · have h2 := need_upper hy rfl (by have := need_le x; omega)
    have h3 := need_lower (x := x) rfl (by omega)
    have h4 : 2 ^ (7 + 7 * need y) ≤ 2 ^ (7 * need x) := Nat.pow_le_pow_right (by decide) (by omega)
    omega
  · exact h1
theorem head_below {x y : Nat} (hx : x < 18446744073709551616) (h : need x < need y) : headNum x < headNum y := by
  have hy8 := need_le y
  have h1 := high_lt hx (by omega)
  have h2 : 2 ^ (8 - need y) ≤ 2 ^ (7 - need x) := Nat.pow_le_pow_right (by decide) (by omega)
  have h3 : 2 ^ (8 - need x) = 2 * 2 ^ (7 - need x) := by rw [show 8 - need x = (7 - need x) + 1 by omega, Nat.pow_succ]; omega
  have h4 : 2 ^ (8 - need x) ≤ 256 := Nat.pow_le_pow_right (show 0 < 2 by decide) (show 8 - need x ≤ 8 by omega)
  unfold headNum
  rw [if_pos (show need x < 8 by omega)]
  omega
theorem compare_nums {x y : Nat} (hx : x < 18446744073709551616) (hy : y < 18446744073709551616) : Lib.compareBytes (numBytes x) (numBytes y) = if x < y then -1 else if y < x then 1 else 0 := by
  have hxl := headNum_lt hx
  have hyl := headNum_lt hy
  rw [numBytes, numBytes, compareBytes_cons _ _ _ _ hxl hyl]
  rcases Nat.lt_trichotomy (need x) (need y) with h | h | h
  · have h1 := head_below hx h
    have h2 : x < y := by rcases Nat.lt_or_ge x y with h2 | h2; exact h2; have := need_mono hy hx h2; omega
    rw [if_pos h1, if_pos h2]
  · unfold headNum
    rw [← h]
    by_cases h8 : need x < 8
    · rw [if_pos h8, if_pos h8]
      generalize hk : need x = k at h8 h
      have ht : Lib.compareBytes (tailBytes x k) (tailBytes y k) = if x % 256 ^ k < y % 256 ^ k then -1 else if y % 256 ^ k < x % 256 ^ k then 1 else 0 := by
        have hp := Nat.pow_pos (n := k) (show 0 < 256 by decide)
        have := compare_tails k (x % 256 ^ k) (y % 256 ^ k) (Nat.mod_lt _ hp) (Nat.mod_lt _ hp)
        rwa [tail_mod x k k (Nat.le_refl _), tail_mod y k k (Nat.le_refl _)] at this
      rw [ht]
      have hp := Nat.pow_pos (n := k) (show 0 < 256 by decide)
      have ex := Nat.div_add_mod x (256 ^ k)
      have ey := Nat.div_add_mod y (256 ^ k)
      have mx := Nat.mod_lt x hp
      have my := Nat.mod_lt y hp
      clear ht hk h hxl hyl hx hy
      generalize x / 256 ^ k = a at ex ⊢
      generalize y / 256 ^ k = b at ey ⊢
      generalize x % 256 ^ k = r at ex mx ⊢
      generalize y % 256 ^ k = s at ey my ⊢
      generalize 256 ^ k = p at *
      subst ex ey
      have key : ∀ a b r s : Nat, r < p → s < p → a < b → p * a + r < p * b + s := by
        intro a b r s hr hs h
        have : p * (a + 1) ≤ p * b := Nat.mul_le_mul_left _ h
        rw [Nat.mul_add, Nat.mul_one] at this
        omega
      rcases Nat.lt_trichotomy a b with h | h | h
      · have := key a b r s mx my h
        rw [if_pos (by omega), if_pos this]
      · subst h
        rw [if_neg (Nat.lt_irrefl _), if_neg (Nat.lt_irrefl _)]
        congr 1
        · exact propext ⟨fun h => by omega, fun h => by omega⟩
        · congr 1; exact propext ⟨fun h => by omega, fun h => by omega⟩
      · have := key b a s r my mx h
        rw [if_neg (by omega), if_pos (by omega), if_neg (by omega), if_pos this]
    · rw [if_neg h8, if_neg h8, if_neg (Nat.lt_irrefl _), if_neg (Nat.lt_irrefl _), show need x = 8 by have := need_le x; omega]
      exact compare_tails 8 x y hx hy
  · have h1 := head_below hy h
    have h2 : y < x := by rcases Nat.lt_or_ge y x with h2 | h2; exact h2; have := need_mono hx hy h2; omega
    rw [if_neg (by omega), if_pos h1, if_neg (by omega), if_pos h2]
theorem compare_numNat {n m : Int} (hn : n ≤ 9223372036854775807) (hm : m ≤ 9223372036854775807) : Lib.compareBytes (numBytes (numNat n)) (numBytes (numNat m)) = cmpInt (max n 0) (max m 0) := by
  have h1 := numNat_lt hn
  have h2 := numNat_lt hm
  rw [compare_nums (by omega) (by omega), cmpInt]
  have e1 : ((numNat n : Nat) : Int) = max n 0 := by unfold numNat; omega
  have e2 : ((numNat m : Nat) : Int) = max m 0 := by unfold numNat; omega
  rw [← e1, ← e2]
  congr 1
  · exact propext ⟨fun h => by omega, fun h => by omega⟩
  · congr 1; exact propext ⟨fun h => by omega, fun h => by omega⟩
theorem numNat_max (n : Int) : numNat (max n 0) = numNat n := by unfold numNat; omega
set_option maxHeartbeats 1600000 in
theorem coderOrder_walk (n m : Int) (w : World) (hw : (Lit.int .i64 n).wf = true) (hw2 : (Lit.int .i64 m).wf = true) :
    Calls Try.prog 5 #[.int .i64 n, .int .i64 m] w fun e w' => e = .returned (.bool true) ∧ Below w.heap.size w w' := by
  have hn := wf_i64 hw
  have hm := wf_i64 hw2
  have HC := Lib.hid (compare_numNat hn.2 hm.2)
  have hbn := numBytes_length (numNat n)
  have hbm := numBytes_length (numNat m)
  have HN1 := num_any none 0 [] (max n 0) w (by decide) (by omega) (by simp) (by decide) (Lies.nil _ _)
  have HN2 := fun w => num_any none 0 [] (max m 0) w (by decide) (by omega) (by simp) (by decide) (Lies.nil _ _)
  rw [numNat_max, List.nil_append] at HN1
  simp only [numNat_max, List.nil_append] at HN2
  clear hbn hbm
  generalize numBytes (numNat n) = xs at HC HN1
  generalize numBytes (numNat m) = ys at HC HN2
  have hmn : 0 ≤ max n 0 := by omega
  have hmm : 0 ≤ max m 0 := by omega
  have HN1 := Lib.hid HN1
  have HN2 := Lib.hid HN2
  go_enter Try.func5, Try.ntmps5
  go_wp2_with fail
  refine HN1.out.mono ?_
  rintro e w1 ⟨v1, rfl, ho1, hb1⟩
  obtain ⟨A1, c1, rfl, hl1, hA1⟩ := ho1.form
  go_wp2_with fail
  refine (HN2.out w1).mono ?_
  rintro e w2 ⟨v2, rfl, ho2, hb2⟩
  obtain ⟨A2, c2, rfl, hl2, hA2⟩ := ho2.form
  have r1 := (RB.of_own ho1).below hb2
  have r2 := RB.of_own ho2
  have hb12 := hb1.trans (hb2.mono hb1.size)
  clear ho1 ho2 hb1 hb2
  go_wp2_with fail
  refine (compare_any _ _ _ _ _ _ _ r1 r2).mono ?_
  rintro e w3 ⟨rfl, rfl⟩
  rw [HC.out]
  go_wp2_with fail
  refine (cmpc_any _ _ _).mono ?_
  rintro e w3 ⟨rfl, rfl⟩
  go_wp2_with fail
  refine (awake_any _).mono ?_
  rintro e w4 ⟨rfl, hb4⟩
  go_wp2
  go_ret
  exact ⟨rfl, hb12.trans (hb4.mono hb12.size)⟩
end Go.Proofs.Ytcdggfojmfefkaa
