/- Sets of small numbers as bits: of no program. -/
import Derived.Test.YtopgikjmeebgbaaDoorBa
import Derived.Laws.BitsAllLaws
namespace Go.Proofs.YtopgikjmeebgbaaDoor
open Go.RowKit
set_option linter.unusedVariables false
set_option linter.unusedSimpArgs false
/-- The word of the bits from 64 k on. -/
def wd (bs : List Bool) (k : Nat) : Nat := ofb ((bs.drop (64 * k)).take 64)
/-- How many words. -/
def nw (n : Nat) : Nat := (n + 63) / 64
theorem wd_lt (bs : List Bool) (k : Nat) : wd bs k < 18446744073709551616 := by
  have h := ofb_lt ((bs.drop (64 * k)).take 64)
  have h2 : ((bs.drop (64 * k)).take 64).length ≤ 64 := by rw [List.length_take]; omega
  exact Nat.lt_of_lt_of_le h (Nat.pow_le_pow_right (by decide) h2)
theorem wd_bit (bs : List Bool) (k i : Nat) : (wd bs k).testBit i = if i < 64 then bs[64 * k + i]?.getD false else false := by
  rw [wd, ofb_testBit, List.getElem?_take]
  split
  · rw [List.getElem?_drop]
  · rfl
theorem wd_none (bs : List Bool) (k : Nat) (h : bs.length ≤ 64 * k) : wd bs k = 0 := by
  rw [wd, List.drop_of_length_le h]; rfl
theorem wd_false (n k : Nat) : wd (List.replicate n false) k = 0 := by
  refine Nat.eq_of_testBit_eq fun i => ?_
  rw [wd_bit, Nat.zero_testBit]
  split
  · rw [List.getElem?_replicate]; split <;> rfl
  · rfl
theorem set_getD (bs : List Bool) (i j : Nat) (b : Bool) (hi : i < bs.length) : (bs.set i b)[j]?.getD false = if j = i then b else bs[j]?.getD false := by
  rw [List.getElem?_set]
  by_cases h : i = j
  · subst h; simp [hi]
  · rw [if_neg h, if_neg (fun e => h e.symm)]
theorem wd_put (bs : List Bool) (i : Nat) (hi : i < bs.length) : wd (bs.set i true) (i / 64) = wd bs (i / 64) ||| 2 ^ (i % 64) := by
  refine Nat.eq_of_testBit_eq fun t => ?_
  rw [Nat.testBit_or, wd_bit, wd_bit, Nat.testBit_two_pow]
  by_cases ht : t < 64
  · rw [if_pos ht, if_pos ht, set_getD _ _ _ _ hi]
    by_cases e : 64 * (i / 64) + t = i
    · rw [if_pos e]; simp; right; omega
    · rw [if_neg e]
      have : ¬ i % 64 = t := by omega
      simp [this]
  · rw [if_neg ht, if_neg ht]
    have : ¬ i % 64 = t := by omega
    simp [this]
theorem wd_cut (bs : List Bool) (i : Nat) (hi : i < bs.length) : wd (bs.set i false) (i / 64) = wd bs (i / 64) &&& (18446744073709551615 - 2 ^ (i % 64)) := by
  have hlt : 2 ^ (i % 64) < 2 ^ 64 := Nat.pow_lt_pow_right (by decide) (Nat.mod_lt _ (by decide))
  refine Nat.eq_of_testBit_eq fun t => ?_
  have e1 : (18446744073709551615 - 2 ^ (i % 64)) = 2 ^ 64 - (2 ^ (i % 64) + 1) := by omega
  rw [Nat.testBit_and, wd_bit, wd_bit, e1, Nat.testBit_two_pow_sub_succ hlt, Nat.testBit_two_pow]
  by_cases ht : t < 64
  · rw [if_pos ht, if_pos ht, set_getD _ _ _ _ hi]
    by_cases e : 64 * (i / 64) + t = i
    · rw [if_pos e]
      have : i % 64 = t := by omega
      simp [this]
    · rw [if_neg e]
      have : ¬ i % 64 = t := by omega
      simp [this, ht]
  · rw [if_neg ht, if_neg ht]; rfl
theorem wd_other (bs : List Bool) (i k : Nat) (b : Bool) (hi : i < bs.length) (hk : k ≠ i / 64) : wd (bs.set i b) k = wd bs k := by
  refine Nat.eq_of_testBit_eq fun t => ?_
  rw [wd_bit, wd_bit]
  split
  · rw [set_getD _ _ _ _ hi, if_neg (by omega)]
  · rfl
theorem wd_has (bs : List Bool) (i : Nat) (hi : i < bs.length) : wd bs (i / 64) / 2 ^ (i % 64) % 2 = bs[i].toNat := by
  have h := wd_bit bs (i / 64) (i % 64)
  rw [if_pos (Nat.mod_lt _ (by decide)), show 64 * (i / 64) + i % 64 = i by omega, List.getElem?_eq_getElem hi, Option.getD_some, Nat.testBit_eq_decide_div_mod_eq] at h
  cases hb : bs[i] <;> rw [hb] at h <;> simp at h <;> simp [Bool.toNat] <;> omega
/-- The first bit that is set, from a place on; the place is told. -/
def nx : List Bool → Nat → Int
  | [], _ => -1
  | b :: l, o => if b then o else nx l (o + 1)
def nxt (bs : List Bool) (i : Nat) : Int := nx (bs.drop i) i
theorem nx_hit : ∀ (l : List Bool) (o m : Nat), l[m]? = some true → (∀ j, j < m → l[j]?.getD false = false) → nx l o = (o + m : Nat)
  | [], _, _, h, _ => by simp at h
  | b :: l, o, 0, h, _ => by
    simp at h
    rw [nx, h]; simp
  | b :: l, o, m + 1, h, hz => by
    have h0 := hz 0 (by omega)
    simp at h0
    rw [nx, h0, if_neg (by decide), nx_hit l (o + 1) m (by simpa using h) (fun j hj => by have := hz (j + 1) (by omega); simpa using this)]
    omega
theorem nx_none : ∀ (l : List Bool) (o : Nat), (∀ j : Nat, l[j]?.getD false = false) → nx l o = -1
  | [], _, _ => rfl
  | b :: l, o, hz => by
    have h0 := hz 0
    simp at h0
    rw [nx, h0, if_neg (by decide), nx_none l (o + 1) (fun j => by have := hz (j + 1); simpa using this)]
theorem nxt_hit (bs : List Bool) (i k : Nat) (hik : i ≤ k) (h : bs[k]? = some true) (hz : ∀ j, i ≤ j → j < k → bs[j]?.getD false = false) : nxt bs i = k := by
  rw [nxt, nx_hit (bs.drop i) i (k - i) (by rw [List.getElem?_drop, show i + (k - i) = k by omega]; exact h) (fun j hj => by rw [List.getElem?_drop]; exact hz _ (by omega) (by omega))]
  omega
theorem nxt_none (bs : List Bool) (i : Nat) (hz : ∀ j, i ≤ j → bs[j]?.getD false = false) : nxt bs i = -1 :=
  nx_none _ _ fun j => by rw [List.getElem?_drop]; exact hz _ (by omega)
theorem nxt_step (bs : List Bool) (i : Nat) (hi : i < bs.length) : nxt bs i = if bs[i] then (i : Int) else nxt bs (i + 1) := by
  rw [nxt, List.drop_eq_getElem_cons hi, nx]; rfl
theorem nxt_end (bs : List Bool) (i : Nat) (hi : bs.length ≤ i) : nxt bs i = -1 := by
  rw [nxt, List.drop_of_length_le hi]; rfl
theorem nxt_ge : ∀ (d : Nat) (bs : List Bool) (i : Nat), bs.length ≤ i + d → nxt bs i = -1 ∨ ∃ k : Nat, nxt bs i = k ∧ i ≤ k ∧ k < bs.length ∧ bs[k]? = some true
  | 0, bs, i, h => .inl (nxt_end bs i (by omega))
  | d + 1, bs, i, h => by
    by_cases hi : i < bs.length
    · rw [nxt_step bs i hi]
      by_cases hb : bs[i] = true
      · rw [if_pos hb]; exact .inr ⟨i, rfl, Nat.le_refl _, hi, by rw [List.getElem?_eq_getElem hi, hb]⟩
      · rw [if_neg hb]
        rcases nxt_ge d bs (i + 1) (by omega) with h | ⟨k, h1, h2, h3⟩
        · exact .inl h
        · exact .inr ⟨k, h1, by omega, h3⟩
    · exact .inl (nxt_end bs i (by omega))
/-- The places that are set, from one on. -/
def ix : List Bool → Nat → List Int
  | [], _ => []
  | b :: l, o => if b then (o : Int) :: ix l (o + 1) else ix l (o + 1)
def idx (bs : List Bool) (i : Nat) : List Int := ix (bs.drop i) i
theorem idx_step (bs : List Bool) (i : Nat) (hi : i < bs.length) : idx bs i = if bs[i] then (i : Int) :: idx bs (i + 1) else idx bs (i + 1) := by
  rw [idx, List.drop_eq_getElem_cons hi, ix]; rfl
theorem idx_end (bs : List Bool) (i : Nat) (hi : bs.length ≤ i) : idx bs i = [] := by
  rw [idx, List.drop_of_length_le hi]; rfl
theorem idx_nxt : ∀ (d : Nat) (bs : List Bool) (i : Nat), bs.length ≤ i + d → (nxt bs i = -1 ∧ idx bs i = []) ∨ ∃ k : Nat, nxt bs i = k ∧ i ≤ k ∧ k < bs.length ∧ idx bs i = (k : Int) :: idx bs (k + 1)
  | 0, bs, i, h => .inl ⟨nxt_end bs i (by omega), idx_end bs i (by omega)⟩
  | d + 1, bs, i, h => by
    by_cases hi : i < bs.length
    · rw [nxt_step bs i hi, idx_step bs i hi]
      by_cases hb : bs[i] = true
      · rw [if_pos hb, if_pos hb]; exact .inr ⟨i, rfl, Nat.le_refl _, hi, rfl⟩
      · rw [if_neg hb, if_neg hb]
        rcases idx_nxt d bs (i + 1) (by omega) with h | ⟨k, h1, h2, h3⟩
        · exact .inl h
        · exact .inr ⟨k, h1, by omega, h3⟩
    · exact .inl ⟨nxt_end bs i (by omega), idx_end bs i (by omega)⟩
theorem ix_length : ∀ (l : List Bool) (o : Nat), (ix l o).length = l.count true
  | [], _ => rfl
  | b :: l, o => by
    rw [ix]
    cases b
    · rw [if_neg (by decide), ix_length l (o + 1)]; simp
    · rw [if_pos rfl, List.length_cons, ix_length l (o + 1)]; simp
theorem idx_length (bs : List Bool) : (idx bs 0).length = bs.count true := by rw [idx, List.drop_zero, ix_length]
theorem idx_len_le (bs : List Bool) (i : Nat) : (idx bs i).length ≤ bs.length := by
  rw [idx, ix_length]
  exact Nat.le_trans List.count_le_length (by rw [List.length_drop]; omega)
/-- The lowest bit of a number. -/
theorem ctz_bit (x : Nat) (h0 : x ≠ 0) (h : x < 18446744073709551616) : x.testBit (Lib.ctz 64 x) = true ∧ Lib.ctz 64 x < 64 ∧ ∀ j, j < Lib.ctz 64 x → x.testBit j = false := by
  obtain ⟨m, hm, hc⟩ := Lib.ctzFrom_spec 64 x (by omega) h
  have e : Lib.ctz 64 x = Lib.ctzFrom 64 x := by rw [Lib.ctz, if_neg h0]
  rw [e]
  generalize Lib.ctzFrom 64 x = c at hm hc
  subst hm
  refine ⟨?_, hc, fun j hj => ?_⟩
  · rw [Nat.mul_comm, Nat.testBit_mul_two_pow]; simp [Nat.testBit_zero]
  · rw [Nat.mul_comm, Nat.testBit_mul_two_pow]
    have : ¬ c ≤ j := by omega
    simp [this]
/-- A word's bits from one on: the lower ones are taken away. -/
theorem high_bit (x c t : Nat) : (x / 2 ^ c * 2 ^ c).testBit t = (decide (c ≤ t) && x.testBit t) := by
  rw [Nat.testBit_mul_two_pow, Nat.testBit_div_two_pow]
  by_cases h : c ≤ t
  · simp [h, show t - c + c = t by omega]
  · simp [h]
theorem zero_of_bits (x : Nat) (h : ∀ t, x.testBit t = false) : x = 0 := Nat.eq_of_testBit_eq fun t => by rw [h, Nat.zero_testBit]
/-- Of a word's bits the first so many are set so often. -/
theorem pop_low (bs : List Bool) (k c : Nat) (hc : c ≤ 64) : popW 8 (wd bs k &&& (2 ^ c - 1)) = ((bs.drop (64 * k)).take c).count true := by
  have e : wd bs k &&& (2 ^ c - 1) = ofb ((bs.drop (64 * k)).take c) := by
    refine Nat.eq_of_testBit_eq fun t => ?_
    rw [Nat.testBit_and, wd_bit, Nat.testBit_two_pow_sub_one, ofb_testBit, List.getElem?_take, List.getElem?_drop]
    by_cases h : t < c
    · have : t < 64 := by omega
      simp [h, this]
    · simp [h]
  rw [e, pop_ofb _ (by rw [List.length_take]; omega)]
theorem pop_all (bs : List Bool) (k : Nat) : popW 8 (wd bs k) = ((bs.drop (64 * k)).take 64).count true := by
  rw [wd, pop_ofb _ (by rw [List.length_take]; omega)]
theorem count_take_add (bs : List Bool) (a c : Nat) : (bs.take (a + c)).count true = (bs.take a).count true + ((bs.drop a).take c).count true := by
  rw [List.take_add, List.count_append]
end Go.Proofs.YtopgikjmeebgbaaDoor
