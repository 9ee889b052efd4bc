/- The plain words of the sums: a step of the remainder, eight of them, the sum of bytes.
   The plain law of the sums: what was sealed is opened; with a byte turned, or neighbouring bits, it is not. -/
import Derived.WalkKit
import Derived.Laws.BitsAllLaws
namespace Go.Proofs.Ytjfpanamkkdebaa
set_option linter.unusedSimpArgs false
/-- One bit pushed out of a remainder. -/
def crcStep (s : Nat) : Nat := if s % 2 = 1 then (s / 2) ^^^ 3988292384 else s / 2
def crcSteps : Nat → Nat → Nat
  | 0, s => s
  | n + 1, s => crcSteps n (crcStep s)
theorem crcStep_lt {s : Nat} (h : s < 4294967296) : crcStep s < 4294967296 := by
  unfold crcStep
  split
  · exact Nat.xor_lt_two_pow (n := 32) (by omega) (by decide)
  · omega
theorem crcSteps_lt : ∀ (n : Nat) {s : Nat}, s < 4294967296 → crcSteps n s < 4294967296
  | 0, _, h => h
  | n + 1, _, h => crcSteps_lt n (crcStep_lt h)
theorem crcSteps_snoc (n s : Nat) : crcSteps (n + 1) s = crcStep (crcSteps n s) := by
  induction n generalizing s with
  | zero => rfl
  | succ n ih => rw [crcSteps, ih]; rfl
/-- A byte more. -/
def crcByte (s : Nat) (x : UInt8) : Nat := crcSteps 8 (s ^^^ x.toNat)
def crcFold (s : Nat) (bs : List UInt8) : Nat := bs.foldl crcByte s
/-- The sum of bytes. -/
def crc (bs : List UInt8) : Nat := crcFold 4294967295 bs ^^^ 4294967295
theorem xor_lt32 {a b : Nat} (ha : a < 4294967296) (hb : b < 4294967296) : a ^^^ b < 4294967296 := Nat.xor_lt_two_pow (n := 32) ha hb
theorem crcByte_lt {s : Nat} (x : UInt8) (h : s < 4294967296) : crcByte s x < 4294967296 :=
  crcSteps_lt 8 (xor_lt32 h (by have := x.toNat_lt; omega))
theorem crcFold_lt (bs : List UInt8) : ∀ {s : Nat}, s < 4294967296 → crcFold s bs < 4294967296 := by
  induction bs with
  | nil => exact fun h => h
  | cons x bs ih => exact fun h => ih (crcByte_lt x h)
theorem crc_lt (bs : List UInt8) : crc bs < 4294967296 := xor_lt32 (crcFold_lt bs (by decide)) (by decide)
theorem crcFold_snoc (s : Nat) (bs : List UInt8) (x : UInt8) : crcFold s (bs ++ [x]) = crcByte (crcFold s bs) x := by simp [crcFold]
theorem crcFold_append (s : Nat) (as bs : List UInt8) : crcFold s (as ++ bs) = crcFold (crcFold s as) bs := by simp [crcFold]
theorem crcStep_xor (a b : Nat) : crcStep (a ^^^ b) = crcStep a ^^^ crcStep b := by
  have hd : (a ^^^ b) / 2 = a / 2 ^^^ b / 2 := by
    have := Nat.shiftRight_xor_distrib (a := a) (b := b) (i := 1)
    simpa [Nat.shiftRight_eq_div_pow] using this
  have hm : (a ^^^ b) % 2 = (a % 2 + b % 2) % 2 := by
    have h : (a ^^^ b) % 2 = (a % 2) ^^^ (b % 2) := by
      have := Nat.xor_mod_two_pow (a := a) (b := b) (n := 1)
      simpa using this
    rw [h]
    rcases Nat.mod_two_eq_zero_or_one a with ha | ha <;> rcases Nat.mod_two_eq_zero_or_one b with hb | hb <;> simp [ha, hb]
  unfold crcStep
  rw [hd, hm]
  have hx : ∀ c : Nat, c ^^^ c = 0 := Nat.xor_self
  rcases Nat.mod_two_eq_zero_or_one a with ha | ha <;> rcases Nat.mod_two_eq_zero_or_one b with hb | hb <;> simp only [ha, hb]
  · simp
  · simp [Nat.xor_assoc]
  · simp only [Nat.reduceAdd, Nat.reduceMod, if_true, if_false, Nat.zero_ne_one]
    rw [Nat.xor_assoc, Nat.xor_comm (b / 2), ← Nat.xor_assoc]
  · simp only [Nat.reduceAdd, Nat.reduceMod, if_true, if_false, Nat.zero_ne_one]
    rw [show a / 2 ^^^ 3988292384 ^^^ (b / 2 ^^^ 3988292384) = (a / 2 ^^^ b / 2) ^^^ (3988292384 ^^^ 3988292384) from by
      rw [Nat.xor_assoc, Nat.xor_assoc, Nat.xor_comm 3988292384 (b / 2 ^^^ 3988292384), Nat.xor_assoc]]
    simp
theorem crcSteps_xor (n : Nat) : ∀ a b : Nat, crcSteps n (a ^^^ b) = crcSteps n a ^^^ crcSteps n b := by
  induction n with
  | zero => exact fun _ _ => rfl
  | succ n ih => intro a b; rw [crcSteps, crcStep_xor, ih]; rfl
/-- What stands above the lowest bits moves down alone. -/
theorem crcSteps_high (n : Nat) : ∀ h : Nat, crcSteps n (h * 2 ^ n) = h := by
  induction n with
  | zero => intro h; simp [crcSteps]
  | succ n ih =>
    intro h
    have e : h * 2 ^ (n + 1) = 2 * (h * 2 ^ n) := by rw [Nat.pow_succ]; simp only [Nat.mul_comm, Nat.mul_left_comm]
    rw [crcSteps, e, crcStep, if_neg (by omega), Nat.mul_div_cancel_left _ (by decide), ih]
theorem split_xor (s : Nat) (k : Nat) : s = (s / 2 ^ k * 2 ^ k) ^^^ (s % 2 ^ k) := by
  apply Nat.eq_of_testBit_eq
  intro i
  rw [Nat.testBit_xor, Nat.testBit_mod_two_pow, Nat.testBit_mul_two_pow, Nat.testBit_div_two_pow]
  by_cases h : k ≤ i
  · have : ¬ i < k := by omega
    simp [h, this]
  · have : i < k := by omega
    simp [h, this]
/-- A byte more, by the table. -/
theorem crcByte_table (s : Nat) (x : UInt8) : crcByte s x = (s / 256) ^^^ crcSteps 8 ((s % 256) ^^^ x.toNat) := by
  unfold crcByte
  have h := split_xor s 8
  conv => lhs; rw [h, Nat.xor_assoc, crcSteps_xor, crcSteps_high]
/-- One bit more of what the table is asked. -/
theorem crcSteps_bit (low k : Nat) : crcSteps 8 (low % 2 ^ (k + 1)) = if low / 2 ^ k % 2 = 1 then crcSteps 8 (low % 2 ^ k) ^^^ crcSteps 8 (2 ^ k) else crcSteps 8 (low % 2 ^ k) := by
  have h0 : crcSteps 8 0 = 0 := by decide
  have e := split_xor (low % 2 ^ (k + 1)) k
  have e1 : low % 2 ^ (k + 1) % 2 ^ k = low % 2 ^ k := Nat.mod_mod_of_dvd _ ⟨2, by rw [Nat.pow_succ]⟩
  have e2 : low % 2 ^ (k + 1) / 2 ^ k = low / 2 ^ k % 2 := by
    rw [Nat.pow_succ]
    exact Nat.mod_mul_right_div_self _ _ _
  rw [e1, e2] at e
  rw [e, crcSteps_xor]
  split
  · rename_i h
    rw [h, Nat.one_mul, Nat.xor_comm]
  · rename_i h
    have : low / 2 ^ k % 2 = 0 := by omega
    rw [this, Nat.zero_mul, h0, Nat.zero_xor]
/-- Bytes as a number, the highest first. -/
def num (l : List UInt8) : Nat := l.foldl (fun s x => s * 256 + x.toNat) 0
theorem num_snoc (l : List UInt8) (x : UInt8) : num (l ++ [x]) = num l * 256 + x.toNat := by simp [num]
theorem num_from (l : List UInt8) : ∀ s : Nat, l.foldl (fun s x => s * 256 + x.toNat) s < (s + 1) * 256 ^ l.length := by
  induction l with
  | nil => intro s; simp
  | cons x l ih =>
    intro s
    have := ih (s * 256 + x.toNat)
    have hx := x.toNat_lt
    rw [List.foldl_cons, List.length_cons, Nat.pow_succ]
    refine Nat.lt_of_lt_of_le this ?_
    rw [Nat.mul_comm (256 ^ l.length) 256, ← Nat.mul_assoc]
    exact Nat.mul_le_mul_right _ (by omega)
theorem num_lt (l : List UInt8) : num l < 256 ^ l.length := by simpa [num] using num_from l 0
theorem fr_or_byte (s x : Nat) (hx : x < 256) : s * 256 ||| x = s * 256 + x := by
  have := Nat.two_pow_add_eq_or_of_lt (i := 8) hx s
  rw [Nat.mul_comm] at this
  exact this.symm
/-- A sum's four bytes, the highest first. -/
def crcHead (s : Nat) : List UInt8 := [UInt8.ofNat (s / 2 ^ 24), UInt8.ofNat (s / 2 ^ 16), UInt8.ofNat (s / 2 ^ 8), UInt8.ofNat s]
def sealed (bs : List UInt8) : List UInt8 := crcHead (crc bs) ++ bs
/-- What is opened, and the error's number. -/
def opened (bs : List UInt8) : List UInt8 × Nat := if bs.length < 4 then ([], 4) else if bs.take 4 = crcHead (crc (bs.drop 4)) then (bs.drop 4, 0) else ([], 6)
theorem head_num (s : Nat) (hs : s < 4294967296) : num (crcHead s) = s := by
  simp only [num, crcHead, List.foldl, UInt8.toNat_ofNat']
  omega
theorem num_head (a b c d : UInt8) : crcHead (num [a, b, c, d]) = [a, b, c, d] := by
  have h : num [a, b, c, d] = ((a.toNat * 256 + b.toNat) * 256 + c.toNat) * 256 + d.toNat := by simp [num]
  have ha := a.toNat_lt
  have hb := b.toNat_lt
  have hc := c.toNat_lt
  have hd := d.toNat_lt
  have e : ∀ (n : Nat) (x : UInt8), n % 256 = x.toNat → UInt8.ofNat n = x := by
    intro n x h
    apply UInt8.toNat_inj.1
    rw [UInt8.toNat_ofNat']
    exact h
  simp only [crcHead, List.cons.injEq, and_true]
  rw [h]
  refine ⟨e _ _ ?_, e _ _ ?_, e _ _ ?_, e _ _ ?_⟩ <;> omega
theorem head_iff {l : List UInt8} (hl : l.length = 4) {s : Nat} (hs : s < 4294967296) : num l = s ↔ l = crcHead s := by
  match l, hl with
  | [a, b, c, d], _ =>
    constructor
    · intro h; rw [← h, num_head]
    · intro h; rw [h, head_num s hs]
end Go.Proofs.Ytjfpanamkkdebaa
namespace Go.Proofs.Ytjfpanamkkdebaa
set_option linter.unusedSimpArgs false
theorem crcHead_length (s : Nat) : (crcHead s).length = 4 := rfl
theorem sealed_length (bs : List UInt8) : (sealed bs).length = 4 + bs.length := by simp [sealed, crcHead_length]
theorem sealed_take (bs : List UInt8) : (sealed bs).take 4 = crcHead (crc bs) := by
  rw [sealed, List.take_append_of_le_length (by rw [crcHead_length]; exact Nat.le_refl _)]
  exact List.take_of_length_le (by rw [crcHead_length]; exact Nat.le_refl _)
theorem sealed_drop (bs : List UInt8) : (sealed bs).drop 4 = bs := by
  rw [sealed, List.drop_append_of_le_length (by rw [crcHead_length]; exact Nat.le_refl _)]
  rw [List.drop_of_length_le (by rw [crcHead_length]; exact Nat.le_refl _), List.nil_append]
theorem opened_sealed (bs : List UInt8) : opened (sealed bs) = (bs, 0) := by
  rw [opened, if_neg (by rw [sealed_length]; omega), if_pos (by rw [sealed_take, sealed_drop]), sealed_drop]
theorem crcStep_inj {a b : Nat} (ha : a < 4294967296) (hb : b < 4294967296) (h : crcStep a = crcStep b) : a = b := by
  have x1 : ∀ c d : Nat, c ^^^ 3988292384 = d ^^^ 3988292384 → c = d := by
    intro c d h
    have := congrArg (· ^^^ 3988292384) h
    simpa [Nat.xor_assoc] using this
  have x2 : ∀ c d : Nat, c < 2147483648 → d < 2147483648 → c ^^^ 3988292384 ≠ d := by
    intro c d hc hd h
    have hc' : c.testBit 31 = false := Nat.testBit_lt_two_pow hc
    have hd' : d.testBit 31 = false := Nat.testBit_lt_two_pow hd
    have := congrArg (·.testBit 31) h
    simp only [Nat.testBit_xor, hc', hd'] at this
    exact absurd this (by decide)
  unfold crcStep at h
  split at h <;> split at h
  · have := x1 _ _ h; omega
  · exact absurd h (x2 _ _ (by omega) (by omega))
  · exact absurd h.symm (x2 _ _ (by omega) (by omega))
  · omega
theorem crcSteps_inj (n : Nat) : ∀ {a b : Nat}, a < 4294967296 → b < 4294967296 → crcSteps n a = crcSteps n b → a = b := by
  induction n with
  | zero => exact fun _ _ h => h
  | succ n ih => exact fun ha hb h => crcStep_inj ha hb (ih (crcStep_lt ha) (crcStep_lt hb) h)
theorem xor_right_inj {a b c : Nat} (h : a ^^^ c = b ^^^ c) : a = b := by
  have := congrArg (· ^^^ c) h
  simpa [Nat.xor_assoc] using this
theorem crcByte_inj (x : UInt8) {a b : Nat} (ha : a < 4294967296) (hb : b < 4294967296) (h : crcByte a x = crcByte b x) : a = b :=
  xor_right_inj (crcSteps_inj 8 (xor_lt32 ha (by have := x.toNat_lt; omega)) (xor_lt32 hb (by have := x.toNat_lt; omega)) h)
theorem crcFold_inj (bs : List UInt8) : ∀ {a b : Nat}, a < 4294967296 → b < 4294967296 → crcFold a bs = crcFold b bs → a = b := by
  induction bs with
  | nil => exact fun _ _ h => h
  | cons x bs ih => exact fun ha hb h => crcByte_inj x ha hb (ih (crcByte_lt x ha) (crcByte_lt x hb) h)
theorem crc_ne_of {as bs : List UInt8} (h : crcFold 4294967295 as ≠ crcFold 4294967295 bs) : crc as ≠ crc bs := fun e => h (xor_right_inj e)
/-- One byte of another one. -/
theorem crc_byte (as bs : List UInt8) {x y : UInt8} (h : x ≠ y) : crc (as ++ x :: bs) ≠ crc (as ++ y :: bs) := by
  refine crc_ne_of fun e => ?_
  rw [crcFold_append, crcFold_append] at e
  have hs := crcFold_lt as (s := 4294967295) (by decide)
  have e2 := crcFold_inj bs (crcByte_lt x hs) (crcByte_lt y hs) e
  have e3 := crcSteps_inj 8 (xor_lt32 hs (by have := x.toNat_lt; omega)) (xor_lt32 hs (by have := y.toNat_lt; omega)) e2
  rw [Nat.xor_comm _ x.toNat, Nat.xor_comm _ y.toNat] at e3
  exact h (UInt8.toNat_inj.1 (xor_right_inj e3))
theorem crcSteps_add (m n : Nat) : ∀ s, crcSteps (m + n) s = crcSteps n (crcSteps m s) := by
  induction m with
  | zero => intro s; simp [crcSteps]
  | succ m ih => intro s; rw [Nat.succ_add, crcSteps, ih]; rfl
/-- Two bytes: what becomes of a remainder. -/
theorem crcByte_two (s : Nat) (x y : UInt8) : crcByte (crcByte s x) y = crcSteps 16 s ^^^ crcSteps 16 (x.toNat ^^^ (y.toNat * 256)) := by
  have hy : crcSteps 8 (y.toNat * 256) = y.toNat := crcSteps_high 8 y.toNat
  unfold crcByte
  rw [crcSteps_xor 8 (crcSteps 8 (s ^^^ x.toNat)), show (16 : Nat) = 8 + 8 from rfl, crcSteps_add 8 8, crcSteps_add 8 8, crcSteps_xor 8 s, crcSteps_xor 8 x.toNat, hy, crcSteps_xor 8 (crcSteps 8 s), crcSteps_xor 8 (crcSteps 8 x.toNat), Nat.xor_assoc]
theorem pair_inj {a b c d : Nat} (ha : a < 256) (hc : c < 256) (h : a ^^^ (b * 256) = c ^^^ (d * 256)) : a = c ∧ b = d := by
  have e : ∀ m n : Nat, m < 256 → m ^^^ (n * 256) = n * 256 + m := by
    intro m n hm
    rw [← fr_or_byte n m hm, Nat.xor_comm]
    apply Nat.eq_of_testBit_eq
    intro i
    rw [Nat.testBit_xor, Nat.testBit_or, show (256 : Nat) = 2 ^ 8 from rfl, Nat.testBit_mul_two_pow]
    by_cases h8 : 8 ≤ i
    · have : m.testBit i = false := Nat.testBit_lt_two_pow (Nat.lt_of_lt_of_le hm (by rw [show (256 : Nat) = 2 ^ 8 from rfl]; exact Nat.pow_le_pow_right (by decide) h8))
      simp [this]
    · simp [h8]
  rw [e a b ha, e c d hc] at h
  omega
/-- Two neighbouring bytes of other ones. -/
theorem crc_pair (as bs : List UInt8) {x y z t : UInt8} (h : ¬ (x = z ∧ y = t)) : crc (as ++ x :: y :: bs) ≠ crc (as ++ z :: t :: bs) := by
  refine crc_ne_of fun e => ?_
  rw [crcFold_append, crcFold_append] at e
  have hs := crcFold_lt as (s := 4294967295) (by decide)
  have e2 := crcFold_inj bs (crcByte_lt y (crcByte_lt x hs)) (crcByte_lt t (crcByte_lt z hs)) e
  rw [crcByte_two, crcByte_two, Nat.xor_comm _ (crcSteps 16 (x.toNat ^^^ _)), Nat.xor_comm _ (crcSteps 16 (z.toNat ^^^ _))] at e2
  have hx := x.toNat_lt
  have hy := y.toNat_lt
  have hz := z.toNat_lt
  have ht := t.toNat_lt
  have e3 := crcSteps_inj 16 (xor_lt32 (by omega) (by omega)) (xor_lt32 (by omega) (by omega)) (xor_right_inj e2)
  have e4 := pair_inj (by omega) (by omega) e3
  exact h ⟨UInt8.toNat_inj.1 e4.1, UInt8.toNat_inj.1 e4.2⟩
theorem crcHead_inj {a b : Nat} (ha : a < 4294967296) (hb : b < 4294967296) (h : crcHead a = crcHead b) : a = b := by
  rw [← head_num a ha, ← head_num b hb, h]
theorem opened_bad {l : List UInt8} (hl : 4 ≤ l.length) (h : l.take 4 ≠ crcHead (crc (l.drop 4))) : opened l = ([], 6) := by
  rw [opened, if_neg (by omega), if_neg h]
/-- Of other bytes behind the sum's place, whose sum is another one. -/
theorem opened_body {bs cs : List UInt8} (h : crc cs ≠ crc bs) : opened (crcHead (crc bs) ++ cs) = ([], 6) := by
  refine opened_bad (by simp [crcHead_length]) ?_
  rw [List.take_append_of_le_length (by rw [crcHead_length]; exact Nat.le_refl _), List.take_of_length_le (by rw [crcHead_length]; exact Nat.le_refl _), List.drop_append_of_le_length (by rw [crcHead_length]; exact Nat.le_refl _), List.drop_of_length_le (by rw [crcHead_length]; exact Nat.le_refl _), List.nil_append]
  exact fun e => h (crcHead_inj (crc_lt _) (crc_lt _) e).symm
/-- Of another sum. -/
theorem opened_head {bs hd : List UInt8} (hl : hd.length = 4) (h : hd ≠ crcHead (crc bs)) : opened (hd ++ bs) = ([], 6) := by
  refine opened_bad (by simp [hl]) ?_
  rw [List.take_append_of_le_length (by omega), List.take_of_length_le (by omega), List.drop_append_of_le_length (by omega), List.drop_of_length_le (by omega), List.nil_append]
  exact h
theorem xor_ne {b x : UInt8} (h : x ≠ 0) : b ^^^ x ≠ b := by
  intro e
  have : b ^^^ (b ^^^ x) = b ^^^ b := by rw [e]
  rw [← UInt8.xor_assoc, UInt8.xor_self, UInt8.zero_xor] at this
  exact h this
/-- One byte turned. -/
theorem opened_turned (bs : List UInt8) (i : Nat) (hi : i < (sealed bs).length) (x : UInt8) (hx : x ≠ 0) : opened ((sealed bs).set i ((sealed bs)[i] ^^^ x)) = ([], 6) := by
  by_cases h4 : i < 4
  · have e : (sealed bs).set i ((sealed bs)[i] ^^^ x) = (crcHead (crc bs)).set i ((crcHead (crc bs))[i] ^^^ x) ++ bs := by
      simp only [sealed]
      rw [List.set_append_left _ _ (by rw [crcHead_length]; omega), List.getElem_append_left (show i < (crcHead (crc bs)).length from h4)]
      rfl
    rw [e]
    refine opened_head (by rw [List.length_set]; rfl) fun h => ?_
    have := congrArg (·[i]?) h
    simp only [List.getElem?_set_self (show i < (crcHead (crc bs)).length from h4), List.getElem?_eq_getElem (show i < (crcHead (crc bs)).length from h4), Option.some.injEq] at this
    exact xor_ne hx this
  · obtain ⟨j, rfl⟩ : ∃ j, i = 4 + j := ⟨i - 4, by omega⟩
    have hj : j < bs.length := by rw [sealed_length] at hi; omega
    have hg : (sealed bs)[4 + j] = bs[j] := by
      simp only [sealed]
      rw [List.getElem_append_right (by rw [crcHead_length]; omega)]
      congr 1
      rw [crcHead_length]; omega
    rw [hg]
    have e : (sealed bs).set (4 + j) (bs[j] ^^^ x) = crcHead (crc bs) ++ bs.set j (bs[j] ^^^ x) := by
      simp only [sealed]
      rw [List.set_append_right _ _ (by rw [crcHead_length]; omega), crcHead_length, Nat.add_sub_cancel_left]
    rw [e]
    refine opened_body ?_
    have h1 : bs = bs.take j ++ bs[j] :: bs.drop (j + 1) := by rw [List.getElem_cons_drop, List.take_append_drop]
    have h2 : bs.set j (bs[j] ^^^ x) = bs.take j ++ (bs[j] ^^^ x) :: bs.drop (j + 1) := List.set_eq_take_append_cons_drop ▸ (by rw [if_pos hj])
    rw [h2]
    conv => rhs; rw [h1]
    exact crc_byte _ _ (xor_ne hx)
theorem xor_zero_iff {b x : UInt8} (h : b ^^^ x = b) : x = 0 := by
  by_cases hx : x = 0
  · exact hx
  · exact absurd h (xor_ne hx)
/-- Two neighbouring bytes turned, both of the sum or both behind it. -/
theorem opened_smear (bs : List UInt8) (i : Nat) (hi : i + 1 < (sealed bs).length) (h3 : i ≠ 3) (x y : UInt8) (hx : ¬ (x = 0 ∧ y = 0)) :
    opened (((sealed bs).set i ((sealed bs)[i] ^^^ x)).set (i + 1) ((sealed bs)[i + 1] ^^^ y)) = ([], 6) := by
  by_cases h4 : i < 4
  · have h5 : i + 1 < 4 := by omega
    have e : ((sealed bs).set i ((sealed bs)[i] ^^^ x)).set (i + 1) ((sealed bs)[i + 1] ^^^ y) = ((crcHead (crc bs)).set i ((crcHead (crc bs))[i] ^^^ x)).set (i + 1) ((crcHead (crc bs))[i + 1] ^^^ y) ++ bs := by
      simp only [sealed]
      rw [List.set_append_left _ _ (by rw [crcHead_length]; omega), List.getElem_append_left (show i < (crcHead (crc bs)).length from h4), List.set_append_left _ _ (by rw [List.length_set, crcHead_length]; omega), List.getElem_append_left (show i + 1 < (crcHead (crc bs)).length from h5)]
      rfl
    rw [e]
    refine opened_head (by rw [List.length_set, List.length_set]; rfl) fun h => hx ?_
    have h6 := congrArg (·[i]?) h
    have h7 := congrArg (·[i + 1]?) h
    simp only [List.getElem?_set_ne (show i + 1 ≠ i by omega), List.getElem?_set_self (show i < (crcHead (crc bs)).length from h4), List.getElem?_eq_getElem (show i < (crcHead (crc bs)).length from h4), Option.some.injEq] at h6
    simp only [List.getElem?_set_self (show i + 1 < ((crcHead (crc bs)).set i ((crcHead (crc bs))[i] ^^^ x)).length by rw [List.length_set]; exact h5), List.getElem?_eq_getElem (show i + 1 < (crcHead (crc bs)).length from h5), Option.some.injEq] at h7
    exact ⟨xor_zero_iff h6, xor_zero_iff h7⟩
  · obtain ⟨j, rfl⟩ : ∃ j, i = 4 + j := ⟨i - 4, by omega⟩
    have hj : j + 1 < bs.length := by rw [sealed_length] at hi; omega
    have hg : ∀ (k : Nat) (hk : k < bs.length) (hk' : 4 + k < (sealed bs).length), (sealed bs)[4 + k] = bs[k] := by
      intro k hk hk'
      simp only [sealed]
      rw [List.getElem_append_right (by rw [crcHead_length]; omega)]
      congr 1
      rw [crcHead_length]; omega
    rw [hg j (by omega), show (sealed bs)[4 + j + 1] = bs[j + 1] from hg (j + 1) hj hi]
    have e : ((sealed bs).set (4 + j) (bs[j] ^^^ x)).set (4 + j + 1) (bs[j + 1] ^^^ y) = crcHead (crc bs) ++ (bs.set j (bs[j] ^^^ x)).set (j + 1) (bs[j + 1] ^^^ y) := by
      simp only [sealed]
      rw [List.set_append_right _ _ (by rw [crcHead_length]; omega), List.set_append_right _ _ (by rw [crcHead_length]; omega), crcHead_length, Nat.add_sub_cancel_left, show 4 + j + 1 - 4 = j + 1 by omega]
    rw [e]
    refine opened_body ?_
    have h1 : bs = bs.take j ++ bs[j] :: bs[j + 1] :: bs.drop (j + 1 + 1) := by rw [List.getElem_cons_drop, List.getElem_cons_drop, List.take_append_drop]
    have hl : (bs.take j).length = j := by rw [List.length_take]; omega
    have h2 : ∀ u v : UInt8, (bs.set j u).set (j + 1) v = bs.take j ++ u :: v :: bs.drop (j + 1 + 1) := by
      intro u v
      conv => lhs; rw [h1]
      rw [List.set_append_right _ _ (by omega), List.set_append_right _ _ (by omega), hl, Nat.sub_self, show j + 1 - j = 1 by omega]
      rfl
    rw [h2]
    conv => rhs; rw [h1]
    exact crc_pair _ _ (fun h => hx ⟨xor_zero_iff h.1, xor_zero_iff h.2⟩)
end Go.Proofs.Ytjfpanamkkdebaa
