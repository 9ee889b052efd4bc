/- The plain words of the sums: a step of the remainder, eight of them, the sum of bytes. -/
import Derived.WalkKit
import Derived.Laws.BitsAllLaws
namespace Go.Proofs.Ytjfpanamkkdebaa
set_option linter.unusedSimpArgs false
/-- One bit pushed out of a remainder. -/
def crcStep (s : Nat) : Nat := if s % 2 = 1 then (s / 2) ^^^ 3988292384 else s / 2
def crcSteps : Nat → Nat → Nat
  | 0, s => s
  | n + 1, s => crcSteps n (crcStep s)
theorem crcStep_lt {s : Nat} (h : s < 4294967296) : crcStep s < 4294967296 := by
  unfold crcStep
  split
  · exact Nat.xor_lt_two_pow (n := 32) (by omega) (by decide)
  · omega
theorem crcSteps_lt : ∀ (n : Nat) {s : Nat}, s < 4294967296 → crcSteps n s < 4294967296
  | 0, _, h => h
  | n + 1, _, h => crcSteps_lt n (crcStep_lt h)
theorem crcSteps_snoc (n s : Nat) : crcSteps (n + 1) s = crcStep (crcSteps n s) := by
  induction n generalizing s with
  | zero => rfl
  | succ n ih => rw [crcSteps, ih]; rfl
/-- A byte more. -/
def crcByte (s : Nat) (x : UInt8) : Nat := crcSteps 8 (s ^^^ x.toNat)
def crcFold (s : Nat) (bs : List UInt8) : Nat := bs.foldl crcByte s
/-- The sum of bytes. -/
def crc (bs : List UInt8) : Nat := crcFold 4294967295 bs ^^^ 4294967295
theorem xor_lt32 {a b : Nat} (ha : a < 4294967296) (hb : b < 4294967296) : a ^^^ b < 4294967296 := Nat.xor_lt_two_pow (n := 32) ha hb
theorem crcByte_lt {s : Nat} (x : UInt8) (h : s < 4294967296) : crcByte s x < 4294967296 :=
  crcSteps_lt 8 (xor_lt32 h (by have := x.toNat_lt; omega))
theorem crcFold_lt (bs : List UInt8) : ∀ {s : Nat}, s < 4294967296 → crcFold s bs < 4294967296 := by
  induction bs with
  | nil => exact fun h => h
  | cons x bs ih => exact fun h => ih (crcByte_lt x h)
theorem crc_lt (bs : List UInt8) : crc bs < 4294967296 := xor_lt32 (crcFold_lt bs (by decide)) (by decide)
theorem crcFold_snoc (s : Nat) (bs : List UInt8) (x : UInt8) : crcFold s (bs ++ [x]) = crcByte (crcFold s bs) x := by simp [crcFold]
theorem crcFold_append (s : Nat) (as bs : List UInt8) : crcFold s (as ++ bs) = crcFold (crcFold s as) bs := by simp [crcFold]
theorem crcStep_xor (a b : Nat) : crcStep (a ^^^ b) = crcStep a ^^^ crcStep b := by
  have hd : (a ^^^ b) / 2 = a / 2 ^^^ b / 2 := by
    have := Nat.shiftRight_xor_distrib (a := a) (b := b) (i := 1)
    simpa [Nat.shiftRight_eq_div_pow] using this
  have hm : (a ^^^ b) % 2 = (a % 2 + b % 2) % 2 := by
    have h : (a ^^^ b) % 2 = (a % 2) ^^^ (b % 2) := by
      have := Nat.xor_mod_two_pow (a := a) (b := b) (n := 1)
      simpa using this
    rw [h]
    rcases Nat.mod_two_eq_zero_or_one a with ha | ha <;> rcases Nat.mod_two_eq_zero_or_one b with hb | hb <;> simp [ha, hb]
  unfold crcStep
  rw [hd, hm]
  have hx : ∀ c : Nat, c ^^^ c = 0 := Nat.xor_self
  rcases Nat.mod_two_eq_zero_or_one a with ha | ha <;> rcases Nat.mod_two_eq_zero_or_one b with hb | hb <;> simp only [ha, hb]
  · simp
  · simp [Nat.xor_assoc]
  · simp only [Nat.reduceAdd, Nat.reduceMod, if_true, if_false, Nat.zero_ne_one]
    rw [Nat.xor_assoc, Nat.xor_comm (b / 2), ← Nat.xor_assoc]
  · simp only [Nat.reduceAdd, Nat.reduceMod, if_true, if_false, Nat.zero_ne_one]
    rw [show a / 2 ^^^ 3988292384 ^^^ (b / 2 ^^^ 3988292384) = (a / 2 ^^^ b / 2) ^^^ (3988292384 ^^^ 3988292384) from by
      rw [Nat.xor_assoc, Nat.xor_assoc, Nat.xor_comm 3988292384 (b / 2 ^^^ 3988292384), Nat.xor_assoc]]
    simp
theorem crcSteps_xor (n : Nat) : ∀ a b : Nat, crcSteps n (a ^^^ b) = crcSteps n a ^^^ crcSteps n b := by
  induction n with
  | zero => exact fun _ _ => rfl
  | succ n ih => intro a b; rw [crcSteps, crcStep_xor, ih]; rfl
/-- What stands above the lowest bits moves down alone. -/
theorem crcSteps_high (n : Nat) : ∀ h : Nat, crcSteps n (h * 2 ^ n) = h := by
  induction n with
  | zero => intro h; simp [crcSteps]
  | succ n ih =>
    intro h
    have e : h * 2 ^ (n + 1) = 2 * (h * 2 ^ n) := by rw [Nat.pow_succ]; simp only [Nat.mul_comm, Nat.mul_left_comm]
    rw [crcSteps, e, crcStep, if_neg (by omega), Nat.mul_div_cancel_left _ (by decide), ih]
theorem split_xor (s : Nat) (k : Nat) : s = (s / 2 ^ k * 2 ^ k) ^^^ (s % 2 ^ k) := by
  apply Nat.eq_of_testBit_eq
  intro i
  rw [Nat.testBit_xor, Nat.testBit_mod_two_pow, Nat.testBit_mul_two_pow, Nat.testBit_div_two_pow]
  by_cases h : k ≤ i
  · have : ¬ i < k := by omega
    simp [h, this]
  · have : i < k := by omega
    simp [h, this]
/-- A byte more, by the table. -/
theorem crcByte_table (s : Nat) (x : UInt8) : crcByte s x = (s / 256) ^^^ crcSteps 8 ((s % 256) ^^^ x.toNat) := by
  unfold crcByte
  have h := split_xor s 8
  conv => lhs; rw [h, Nat.xor_assoc, crcSteps_xor, crcSteps_high]
/-- One bit more of what the table is asked. -/
theorem crcSteps_bit (low k : Nat) : crcSteps 8 (low % 2 ^ (k + 1)) = if low / 2 ^ k % 2 = 1 then crcSteps 8 (low % 2 ^ k) ^^^ crcSteps 8 (2 ^ k) else crcSteps 8 (low % 2 ^ k) := by
  have h0 : crcSteps 8 0 = 0 := by decide
  have e := split_xor (low % 2 ^ (k + 1)) k
  have e1 : low % 2 ^ (k + 1) % 2 ^ k = low % 2 ^ k := Nat.mod_mod_of_dvd _ ⟨2, by rw [Nat.pow_succ]⟩
  have e2 : low % 2 ^ (k + 1) / 2 ^ k = low / 2 ^ k % 2 := by
    rw [Nat.pow_succ]
    exact Nat.mod_mul_right_div_self _ _ _
  rw [e1, e2] at e
  rw [e, crcSteps_xor]
  split
  · rename_i h
    rw [h, Nat.one_mul, Nat.xor_comm]
  · rename_i h
    have : low / 2 ^ k % 2 = 0 := by omega
    rw [this, Nat.zero_mul, h0, Nat.zero_xor]
/-- Bytes as a number, the highest first. -/
def num (l : List UInt8) : Nat := l.foldl (fun s x => s * 256 + x.toNat) 0
theorem num_snoc (l : List UInt8) (x : UInt8) : num (l ++ [x]) = num l * 256 + x.toNat := by simp [num]
theorem num_from (l : List UInt8) : ∀ s : Nat, l.foldl (fun s x => s * 256 + x.toNat) s < (s + 1) * 256 ^ l.length := by
  induction l with
  | nil => intro s; simp
  | cons x l ih =>
    intro s
    have := ih (s * 256 + x.toNat)
    have hx := x.toNat_lt
    rw [List.foldl_cons, List.length_cons, Nat.pow_succ]
    refine Nat.lt_of_lt_of_le this ?_
    rw [Nat.mul_comm (256 ^ l.length) 256, ← Nat.mul_assoc]
    exact Nat.mul_le_mul_right _ (by omega)
theorem num_lt (l : List UInt8) : num l < 256 ^ l.length := by simpa [num] using num_from l 0
theorem fr_or_byte (s x : Nat) (hx : x < 256) : s * 256 ||| x = s * 256 + x := by
  have := Nat.two_pow_add_eq_or_of_lt (i := 8) hx s
  rw [Nat.mul_comm] at this
  exact this.symm
/-- A sum's four bytes, the highest first. -/
def crcHead (s : Nat) : List UInt8 := [UInt8.ofNat (s / 2 ^ 24), UInt8.ofNat (s / 2 ^ 16), UInt8.ofNat (s / 2 ^ 8), UInt8.ofNat s]
def sealed (bs : List UInt8) : List UInt8 := crcHead (crc bs) ++ bs
/-- What is opened, and the error's number. -/
def opened (bs : List UInt8) : List UInt8 × Nat := if bs.length < 4 then ([], 4) else if bs.take 4 = crcHead (crc (bs.drop 4)) then (bs.drop 4, 0) else ([], 6)
theorem head_num (s : Nat) (hs : s < 4294967296) : num (crcHead s) = s := by
  simp only [num, crcHead, List.foldl, UInt8.toNat_ofNat']
  omega
theorem num_head (a b c d : UInt8) : crcHead (num [a, b, c, d]) = [a, b, c, d] := by
  have h : num [a, b, c, d] = ((a.toNat * 256 + b.toNat) * 256 + c.toNat) * 256 + d.toNat := by simp [num]
  have ha := a.toNat_lt
  have hb := b.toNat_lt
  have hc := c.toNat_lt
  have hd := d.toNat_lt
  have e : ∀ (n : Nat) (x : UInt8), n % 256 = x.toNat → UInt8.ofNat n = x := by
    intro n x h
    apply UInt8.toNat_inj.1
    rw [UInt8.toNat_ofNat']
    exact h
  simp only [crcHead, List.cons.injEq, and_true]
  rw [h]
  refine ⟨e _ _ ?_, e _ _ ?_, e _ _ ?_, e _ _ ?_⟩ <;> omega
theorem head_iff {l : List UInt8} (hl : l.length = 4) {s : Nat} (hs : s < 4294967296) : num l = s ↔ l = crcHead s := by
  match l, hl with
  | [a, b, c, d], _ =>
    constructor
    · intro h; rw [← h, num_head]
    · intro h; rw [h, head_num s hs]
end Go.Proofs.Ytjfpanamkkdebaa
