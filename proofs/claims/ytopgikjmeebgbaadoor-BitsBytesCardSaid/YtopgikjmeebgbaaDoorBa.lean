/- Bits of words: of no program. -/
import Derived.Test.YtopgikjmeebgbaaDoorBase
import Derived.Laws.Bits64b
import Derived.Lib.TrailingZeros
namespace Go.Proofs.YtopgikjmeebgbaaDoor
open Go.RowKit
set_option linter.unusedVariables false
set_option linter.unusedSimpArgs false
/-- Bits as a number, the lowest first. -/
def ofb : List Bool → Nat
  | [] => 0
  | b :: l => b.toNat + 2 * ofb l
theorem ofb_lt : ∀ (l : List Bool), ofb l < 2 ^ l.length
  | [] => by simp [ofb]
  | b :: l => by
    have := ofb_lt l
    have hb : b.toNat ≤ 1 := by cases b <;> decide
    rw [ofb, List.length_cons, Nat.pow_succ]
    omega
theorem ofb_testBit : ∀ (l : List Bool) (i : Nat), (ofb l).testBit i = l[i]?.getD false
  | [], i => by simp [ofb]
  | b :: l, 0 => by
    rw [ofb, Nat.testBit_zero]
    cases b <;> simp <;> omega
  | b :: l, i + 1 => by
    have hb : (b.toNat + 2 * ofb l) / 2 = ofb l := by cases b <;> simp <;> omega
    rw [ofb, Nat.testBit_succ, hb, ofb_testBit l i]
    simp
theorem ofb_append_false (l : List Bool) (k : Nat) : ofb (l ++ List.replicate k false) = ofb l := by
  refine Nat.eq_of_testBit_eq fun i => ?_
  rw [ofb_testBit, ofb_testBit]
  by_cases h : i < l.length
  · rw [List.getElem?_append_left h]
  · rw [List.getElem?_append_right (by omega), List.getElem?_eq_none (by omega : l.length ≤ i), List.getElem?_replicate]
    split <;> rfl
/-- Two numbers' lowest bytes, and the rest, and'ed. -/
theorem land_split (a b u v : Nat) (ha : a < 256) (hb : b < 256) : (a + 256 * u) &&& (b + 256 * v) = (a &&& b) + 256 * (u &&& v) := by
  have hab : a &&& b < 2 ^ 8 := Nat.lt_of_le_of_lt Nat.and_le_left ha
  refine Nat.eq_of_testBit_eq fun i => ?_
  have e : ∀ x y : Nat, x + 256 * y = 2 ^ 8 * y + x := fun x y => by omega
  rw [Nat.testBit_and, e a u, e b v, e (a &&& b) (u &&& v), Nat.testBit_two_pow_mul_add _ ha, Nat.testBit_two_pow_mul_add _ hb, Nat.testBit_two_pow_mul_add _ hab]
  split
  · rw [Nat.testBit_and]
  · rw [Nat.testBit_and]
def sA (a : Nat) : Nat := (a / 2 &&& 85) + (a &&& 85)
def sB (a : Nat) : Nat := (a / 4 &&& 51) + (a &&& 51)
def sC (a : Nat) : Nat := (a / 16 + a) &&& 15
/-- How many bits of a byte are set, as the library reckons it. -/
def popB (a : Nat) : Nat := sC (sB (sA a))
theorem fA : ∀ a : Fin 256, ∀ t : Fin 2, (a.val / 2 + 128 * t.val) &&& 85 = a.val / 2 &&& 85 := by decide +kernel
theorem fB : ∀ a : Fin 256, ∀ t : Fin 4, (a.val / 4 + 64 * t.val) &&& 51 = a.val / 4 &&& 51 := by decide +kernel
theorem fC : ∀ a : Fin 69, ∀ t : Fin 5, (a.val / 16 + 16 * t.val + a.val) &&& 15 = (a.val / 16 + a.val) &&& 15 := by decide +kernel
theorem bA : ∀ a : Fin 256, sA a.val < 256 := by decide +kernel
theorem bB : ∀ a : Fin 256, sB (sA a.val) ≤ 68 ∧ sB (sA a.val) % 16 ≤ 4 := by decide +kernel
theorem bC : ∀ a : Fin 256, popB a.val ≤ 8 := by decide +kernel
theorem popB_bits : ∀ a b c d e f g h : Bool, popB (ofb [a, b, c, d, e, f, g, h]) = [a, b, c, d, e, f, g, h].count true := by decide +kernel
theorem stepA (a y m : Nat) (ha : a < 256) : ((a + 256 * y) / 2 &&& (85 + 256 * m)) + ((a + 256 * y) &&& (85 + 256 * m)) = sA a + 256 * ((y / 2 &&& m) + (y &&& m)) := by
  have e : (a + 256 * y) / 2 = (a / 2 + 128 * (y % 2)) + 256 * (y / 2) := by omega
  have h1 : (a / 2 + 128 * (y % 2)) &&& 85 = a / 2 &&& 85 := fA ⟨a, ha⟩ ⟨y % 2, by omega⟩
  rw [e, land_split _ _ _ _ (by omega) (by decide), land_split _ _ _ _ ha (by decide), h1, sA]
  omega
theorem stepB (a y m : Nat) (ha : a < 256) : ((a + 256 * y) / 4 &&& (51 + 256 * m)) + ((a + 256 * y) &&& (51 + 256 * m)) = sB a + 256 * ((y / 4 &&& m) + (y &&& m)) := by
  have e : (a + 256 * y) / 4 = (a / 4 + 64 * (y % 4)) + 256 * (y / 4) := by omega
  have h1 : (a / 4 + 64 * (y % 4)) &&& 51 = a / 4 &&& 51 := fB ⟨a, ha⟩ ⟨y % 4, by omega⟩
  rw [e, land_split _ _ _ _ (by omega) (by decide), land_split _ _ _ _ ha (by decide), h1, sB]
  omega
theorem stepC (a y m : Nat) (ha : a ≤ 68) (hy : y % 16 ≤ 4) : (((a + 256 * y) / 16 + (a + 256 * y)) &&& (15 + 256 * m)) = sC a + 256 * ((y / 16 + y) &&& m) := by
  have e : (a + 256 * y) / 16 + (a + 256 * y) = (a / 16 + 16 * (y % 16) + a) + 256 * (y / 16 + y) := by omega
  have h1 : (a / 16 + 16 * (y % 16) + a) &&& 15 = (a / 16 + a) &&& 15 := fC ⟨a, by omega⟩ ⟨y % 16, by omega⟩
  rw [e, land_split _ _ _ _ (by omega) (by decide), h1, sC]
/-- A number out of eight bytes. -/
def horn (a b c d e f g h : Nat) : Nat := a + 256 * (b + 256 * (c + 256 * (d + 256 * (e + 256 * (f + 256 * (g + 256 * (h + 256 * 0)))))))
theorem horn_of (x : Nat) (hx : x < 18446744073709551616) : ∃ a b c d e f g h, a < 256 ∧ b < 256 ∧ c < 256 ∧ d < 256 ∧ e < 256 ∧ f < 256 ∧ g < 256 ∧ h < 256 ∧ x = horn a b c d e f g h := by
  refine ⟨x % 256, x / 256 % 256, x / 65536 % 256, x / 16777216 % 256, x / 4294967296 % 256, x / 1099511627776 % 256, x / 281474976710656 % 256, x / 72057594037927936 % 256, by omega, by omega, by omega, by omega, by omega, by omega, by omega, by omega, ?_⟩
  unfold horn
  omega
theorem hornA (a b c d e f g h : Nat) (ha : a < 256) (hb : b < 256) (hc : c < 256) (hd : d < 256) (he : e < 256) (hf : f < 256) (hg : g < 256) (hh : h < 256) :
    (horn a b c d e f g h / 2 &&& 6148914691236517205) + (horn a b c d e f g h &&& 6148914691236517205) = horn (sA a) (sA b) (sA c) (sA d) (sA e) (sA f) (sA g) (sA h) := by
  have m : 6148914691236517205 = 85 + 256 * (85 + 256 * (85 + 256 * (85 + 256 * (85 + 256 * (85 + 256 * (85 + 256 * (85 + 256 * 0))))))) := rfl
  rw [m]
  unfold horn
  rw [stepA _ _ _ ha, stepA _ _ _ hb, stepA _ _ _ hc, stepA _ _ _ hd, stepA _ _ _ he, stepA _ _ _ hf, stepA _ _ _ hg, stepA _ _ _ hh]
  rfl
theorem hornB (a b c d e f g h : Nat) (ha : a < 256) (hb : b < 256) (hc : c < 256) (hd : d < 256) (he : e < 256) (hf : f < 256) (hg : g < 256) (hh : h < 256) :
    (horn a b c d e f g h / 4 &&& 3689348814741910323) + (horn a b c d e f g h &&& 3689348814741910323) = horn (sB a) (sB b) (sB c) (sB d) (sB e) (sB f) (sB g) (sB h) := by
  have m : 3689348814741910323 = 51 + 256 * (51 + 256 * (51 + 256 * (51 + 256 * (51 + 256 * (51 + 256 * (51 + 256 * (51 + 256 * 0))))))) := rfl
  rw [m]
  unfold horn
  rw [stepB _ _ _ ha, stepB _ _ _ hb, stepB _ _ _ hc, stepB _ _ _ hd, stepB _ _ _ he, stepB _ _ _ hf, stepB _ _ _ hg, stepB _ _ _ hh]
  rfl
theorem hornC (a b c d e f g h : Nat) (ha : a ≤ 68 ∧ a % 16 ≤ 4) (hb : b ≤ 68 ∧ b % 16 ≤ 4) (hc : c ≤ 68 ∧ c % 16 ≤ 4) (hd : d ≤ 68 ∧ d % 16 ≤ 4) (he : e ≤ 68 ∧ e % 16 ≤ 4) (hf : f ≤ 68 ∧ f % 16 ≤ 4) (hg : g ≤ 68 ∧ g % 16 ≤ 4) (hh : h ≤ 68 ∧ h % 16 ≤ 4) :
    ((horn a b c d e f g h / 16 + horn a b c d e f g h) &&& 1085102592571150095) = horn (sC a) (sC b) (sC c) (sC d) (sC e) (sC f) (sC g) (sC h) := by
  have m : 1085102592571150095 = 15 + 256 * (15 + 256 * (15 + 256 * (15 + 256 * (15 + 256 * (15 + 256 * (15 + 256 * (15 + 256 * 0))))))) := rfl
  rw [m]
  unfold horn
  rw [stepC _ _ _ ha.1 (by omega), stepC _ _ _ hb.1 (by omega), stepC _ _ _ hc.1 (by omega), stepC _ _ _ hd.1 (by omega), stepC _ _ _ he.1 (by omega), stepC _ _ _ hf.1 (by omega), stepC _ _ _ hg.1 (by omega), stepC _ _ _ hh.1 (by omega)]
  rfl
/-- How many bits of a number of so many bytes are set. -/
def popW : Nat → Nat → Nat
  | 0, _ => 0
  | k + 1, x => popB (x % 256) + popW k (x / 256)
theorem horn_pop (a b c d e f g h : Nat) (ha : a < 256) (hb : b < 256) (hc : c < 256) (hd : d < 256) (he : e < 256) (hf : f < 256) (hg : g < 256) (hh : h < 256) :
    popW 8 (horn a b c d e f g h) = popB a + (popB b + (popB c + (popB d + (popB e + (popB f + (popB g + popB h)))))) := by
  have k1 : ∀ x y, x < 256 → (x + 256 * y) % 256 = x := fun x y h => by omega
  have k2 : ∀ x y, x < 256 → (x + 256 * y) / 256 = y := fun x y h => by omega
  unfold horn
  rw [popW, k1 _ _ ha, k2 _ _ ha, popW, k1 _ _ hb, k2 _ _ hb, popW, k1 _ _ hc, k2 _ _ hc, popW, k1 _ _ hd, k2 _ _ hd, popW, k1 _ _ he, k2 _ _ he, popW, k1 _ _ hf, k2 _ _ hf, popW, k1 _ _ hg, k2 _ _ hg, popW, k1 _ _ hh, popW]
  rfl
theorem popW_ofb : ∀ (k : Nat) (l : List Bool), l.length = 8 * k → popW k (ofb l) = l.count true
  | 0, l, h => by
    have : l = [] := List.eq_nil_of_length_eq_zero (by omega)
    subst this; rfl
  | k + 1, a :: b :: c :: d :: e :: f :: g :: h :: l, hl => by
    have e1 : ofb (a :: b :: c :: d :: e :: f :: g :: h :: l) = ofb [a, b, c, d, e, f, g, h] + 256 * ofb l := by simp only [ofb]; omega
    have e2 : ofb [a, b, c, d, e, f, g, h] < 256 := Nat.lt_of_lt_of_eq (ofb_lt [a, b, c, d, e, f, g, h]) (by simp only [List.length_cons, List.length_nil])
    have e3 : a :: b :: c :: d :: e :: f :: g :: h :: l = [a, b, c, d, e, f, g, h] ++ l := rfl
    rw [popW, e1, show (ofb [a, b, c, d, e, f, g, h] + 256 * ofb l) % 256 = ofb [a, b, c, d, e, f, g, h] by omega, show (ofb [a, b, c, d, e, f, g, h] + 256 * ofb l) / 256 = ofb l by omega, popB_bits, popW_ofb k l (by simp at hl; omega), e3, List.count_append]
  | k + 1, [], h => by simp at h
  | k + 1, [_], h => by simp at h; omega
  | k + 1, [_, _], h => by simp at h; omega
  | k + 1, [_, _, _], h => by simp at h; omega
  | k + 1, [_, _, _, _], h => by simp at h; omega
  | k + 1, [_, _, _, _, _], h => by simp at h; omega
  | k + 1, [_, _, _, _, _, _], h => by simp at h; omega
  | k + 1, [_, _, _, _, _, _, _], h => by simp at h; omega
theorem div_low (k u z : Nat) (h : u < k) : (u + k * z) / k = z := by
  rw [Nat.add_mul_div_left _ _ (by omega), Nat.div_eq_of_lt h, Nat.zero_add]
theorem up1 (a b c d e f g h : Nat) : (a + 256 * (b + 256 * (c + 256 * (d + 256 * (e + 256 * (f + 256 * (g + 256 * h))))))) + (b + 256 * (c + 256 * (d + 256 * (e + 256 * (f + 256 * (g + 256 * h)))))) =
    ((a + b) + 256 * (b + c)) + 65536 * ((c + d) + 256 * ((d + e) + 256 * ((e + f) + 256 * ((f + g) + 256 * ((g + h) + 256 * h))))) := by omega
theorem up2 (p q r s t u v h : Nat) : ((p + 256 * q) + 65536 * (r + 256 * (s + 256 * (t + 256 * (u + 256 * (v + 256 * h)))))) + (r + 256 * (s + 256 * (t + 256 * (u + 256 * (v + 256 * h))))) =
    ((p + r) + 256 * (q + s) + 65536 * (r + t) + 16777216 * (s + u)) + 4294967296 * ((t + v) + 256 * (u + h) + 65536 * v + 16777216 * h) := by omega
theorem up3 (p q r s t u v h : Nat) : (p + 256 * q + 65536 * r + 16777216 * s) + 4294967296 * (t + 256 * u + 65536 * v + 16777216 * h) + (t + 256 * u + 65536 * v + 16777216 * h) =
    (p + t) + 128 * (2 * (q + u) + 512 * (r + v) + 131072 * (s + h) + 33554432 * (t + 256 * u + 65536 * v + 16777216 * h)) := by omega
/-- The bytes of a number are added up in its lowest one. -/
theorem addUp (a b c d e f g h : Nat) (ha : a ≤ 8) (hb : b ≤ 8) (hc : c ≤ 8) (hd : d ≤ 8) (he : e ≤ 8) (hf : f ≤ 8) (hg : g ≤ 8) (hh : h ≤ 8) (x3 x4 x5 x6 : Nat) (h3 : x3 = horn a b c d e f g h)
    (h4 : x4 = x3 + x3 / 256) (h5 : x5 = x4 + x4 / 65536) (h6 : x6 = x5 + x5 / 4294967296) :
    x3 ≤ 578721382704613384 ∧ x6 % 128 = a + (b + (c + (d + (e + (f + (g + h)))))) := by
  unfold horn at h3
  rw [Nat.mul_zero, Nat.add_zero] at h3
  refine ⟨by clear h4 h5 h6; omega, ?_⟩
  rw [h3, div_low 256 a _ (by clear h3 h4 h5 h6; omega), up1] at h4
  rw [h4, div_low 65536 _ _ (by clear h3 h4 h5 h6; omega), up2] at h5
  rw [h5, div_low 4294967296 _ _ (by clear h3 h4 h5 h6; omega), up3] at h6
  clear h3 h4 h5
  rw [h6, Nat.add_mul_mod_self_left, Nat.mod_eq_of_lt (by clear h6; omega)]
  clear h6
  omega
/-- How many bits of a word are set: of a word of any bits, 64 at most. -/
theorem pop_ofb (l : List Bool) (h : l.length ≤ 64) : popW 8 (ofb l) = l.count true := by
  have := popW_ofb 8 (l ++ List.replicate (64 - l.length) false) (by simp; omega)
  rw [ofb_append_false] at this
  rw [this, List.count_append, List.count_replicate]
  simp
end Go.Proofs.YtopgikjmeebgbaaDoor
