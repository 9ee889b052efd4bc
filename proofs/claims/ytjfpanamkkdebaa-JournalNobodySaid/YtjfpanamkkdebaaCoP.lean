/- What a reader finds in any bytes: plain. -/
import Derived.Test.YtjfpanamkkdebaaChecked
import Derived.Test.YtjfpanamkkdebaaCo6
namespace Go.Proofs.Ytjfpanamkkdebaa
open Go.RowKit
set_option linter.unusedVariables false
set_option linter.unusedSimpArgs false
/-- How many ones a byte begins with. -/
def ones (b : Nat) : Nat := 8 - Lib.bitLen (255 - b)
theorem ones_le (b : Nat) : ones b ≤ 8 := by unfold ones; omega
/-- The first byte's part of a number. -/
def hd (b : Nat) : Nat := if ones b < 8 then b % 2 ^ (7 - ones b) else 0
def acc (x : Nat) (l : List UInt8) : Nat := l.foldl (fun x b => x * 256 + b.toNat) x
theorem acc_snoc (x : Nat) (l : List UInt8) (b : UInt8) : acc x (l ++ [b]) = acc x l * 256 + b.toNat := by simp [acc]
theorem acc_lt (l : List UInt8) : ∀ x, acc x l < (x + 1) * 256 ^ l.length := by
  induction l with
  | nil => intro x; simp [acc]
  | cons b l ih =>
    intro x
    have h1 := ih (x * 256 + b.toNat)
    have h2 : b.toNat < 256 := b.toNat_lt
    show acc (x * 256 + b.toNat) l < _
    have h3 : (x * 256 + b.toNat + 1) * 256 ^ l.length ≤ ((x + 1) * 256) * 256 ^ l.length := Nat.mul_le_mul_right _ (by omega)
    rw [List.length_cons, Nat.pow_succ, Nat.mul_comm (256 ^ l.length) 256, ← Nat.mul_assoc]
    omega
theorem hd_lt (b : Nat) : hd b + 1 ≤ 2 ^ (7 - ones b) := by
  unfold hd
  split
  · have : b % 2 ^ (7 - ones b) < 2 ^ (7 - ones b) := Nat.mod_lt _ (Nat.two_pow_pos _)
    omega
  · have := Nat.two_pow_pos (7 - ones b); omega
theorem acc_small (b : Nat) (l : List UInt8) (h : l.length ≤ ones b) : acc (hd b) l < 18446744073709551616 := by
  have h1 := acc_lt l (hd b)
  have h2 := ones_le b
  have h4 : (hd b + 1) * 256 ^ l.length ≤ 2 ^ (7 - ones b) * 256 ^ ones b := Nat.mul_le_mul (hd_lt b) (Nat.pow_le_pow_right (by decide) h)
  have h5 : ∀ k : Fin 9, 2 ^ (7 - k.val) * 256 ^ k.val ≤ 18446744073709551616 := by decide
  have := h5 ⟨ones b, by omega⟩
  simp only at this
  omega
theorem and_any : ∀ b : Fin 256, ones b.val < 8 → b.val &&& (255 / 2 ^ ones b.val) = hd b.val := by decide +kernel
theorem hd_any : ∀ b : Fin 256, ones b.val < 8 → b.val % (128 / 2 ^ ones b.val) = hd b.val := by decide +kernel
/-- The document's count of ones, so far. -/
def onesUp (b : Nat) : Nat → Nat
  | 0 => 0
  | i + 1 => if onesUp b i = i ∧ b &&& (128 / 2 ^ i) ≠ 0 then i + 1 else onesUp b i
theorem onesUp_eight : ∀ b : Fin 256, onesUp b.val 8 = ones b.val := by decide +kernel
theorem onesUp_le (b : Nat) : ∀ i, onesUp b i ≤ i := by
  intro i
  induction i with
  | zero => exact Nat.le_refl _
  | succ i ih => unfold onesUp; split <;> omega
/-- A reader's answer: a value, and what is left; or an error. -/
inductive Out (α : Type) where
  | ok (x : α) (r : List UInt8)
  | no (e : Nat)
def rawP : List UInt8 → Out Nat
  | [] => .no 4
  | b :: bs => if bs.length < ones b.toNat then .no 4 else if need (acc (hd b.toNat) (bs.take (ones b.toNat))) = ones b.toNat then .ok (acc (hd b.toNat) (bs.take (ones b.toNat))) (bs.drop (ones b.toNat)) else .no 3
theorem rawP_nil : rawP [] = .no 4 := rfl
theorem rawP_cons (b : UInt8) (bs : List UInt8) : rawP (b :: bs) = if bs.length < ones b.toNat then .no 4 else if need (acc (hd b.toNat) (bs.take (ones b.toNat))) = ones b.toNat then .ok (acc (hd b.toNat) (bs.take (ones b.toNat))) (bs.drop (ones b.toNat)) else .no 3 := rfl
theorem rawP_lt {bs r : List UInt8} {x : Nat} (h : rawP bs = .ok x r) : x < 18446744073709551616 ∧ r.length ≤ bs.length := by
  cases bs with
  | nil => cases h
  | cons b bs =>
    rw [rawP_cons] at h
    split at h
    · cases h
    · split at h
      · cases h
        refine ⟨acc_small _ _ (by rw [List.length_take]; omega), by simp; omega⟩
      · cases h
theorem rawP_err {bs : List UInt8} {e : Nat} (h : rawP bs = .no e) : e = 3 ∨ e = 4 := by
  cases bs with
  | nil => cases h; exact .inr rfl
  | cons b bs =>
    rw [rawP_cons] at h
    split at h
    · cases h; exact .inr rfl
    · split at h
      · cases h
      · cases h; exact .inl rfl
def numP (most : Int) (bs : List UInt8) : Out Nat :=
  match rawP bs with
  | .ok x r => if 9223372036854775808 ≤ x ∨ most < (x : Int) then .no 5 else .ok x r
  | .no e => .no e
theorem numP_ok {most : Int} {bs r : List UInt8} {x : Nat} (h : numP most bs = .ok x r) : x < 9223372036854775808 ∧ (x : Int) ≤ most ∧ r.length ≤ bs.length := by
  unfold numP at h
  split at h
  · rename_i y s hy
    split at h
    · cases h
    · cases h
      exact ⟨by omega, by omega, (rawP_lt hy).2⟩
  · cases h
theorem numP_err {most : Int} {bs : List UInt8} {e : Nat} (h : numP most bs = .no e) : e = 3 ∨ e = 4 ∨ e = 5 := by
  unfold numP at h
  split at h
  · rename_i y s hy
    split at h
    · cases h; exact .inr (.inr rfl)
    · cases h
  · rename_i e' hy
    cases h
    have := rawP_err hy
    omega
def Out.pre (l : List Int) : Out (List Int) → Out (List Int)
  | .ok m r => .ok (l ++ m) r
  | .no e => .no e
def riseP (top last : Int) : Nat → List UInt8 → Out (List Int)
  | 0, bs => .ok [] bs
  | n + 1, bs => match numP (top - last - 1) bs with
    | .no e => .no e
    | .ok x r => (riseP top (last + 1 + x) n r).pre [last + 1 + x]
theorem riseP_zero (top last : Int) (bs : List UInt8) : riseP top last 0 bs = .ok [] bs := rfl
theorem riseP_no {top last : Int} {n : Nat} {bs : List UInt8} {e : Nat} (h : numP (top - last - 1) bs = .no e) : riseP top last (n + 1) bs = .no e := by
  rw [riseP, h]
theorem riseP_ok {top last : Int} {n x : Nat} {bs r : List UInt8} (h : numP (top - last - 1) bs = .ok x r) : riseP top last (n + 1) bs = (riseP top (last + 1 + x) n r).pre [last + 1 + x] := by
  rw [riseP, h]
theorem Out.pre_pre (l m : List Int) (o : Out (List Int)) : (o.pre m).pre l = o.pre (l ++ m) := by
  cases o with
  | ok a r => simp [Out.pre]
  | no e => rfl
def risingP (many top : Int) (bs : List UInt8) : Out (List Int) :=
  match numP many bs with
  | .no e => .no e
  | .ok n r => riseP top (-1) n r
theorem riseP_all (top : Int) : ∀ (n : Nat) (last : Int) (bs : List UInt8) (l : List Int) (r : List UInt8), riseP top last n bs = .ok l r → l.length = n ∧ (∀ z ∈ l, last < z ∧ z ≤ top) ∧ r.length ≤ bs.length
  | 0, last, bs, l, r, h => by cases h; exact ⟨rfl, by simp, Nat.le_refl _⟩
  | n + 1, last, bs, l, r, h => by
    cases hn : numP (top - last - 1) bs with
    | no e => rw [riseP_no hn] at h; cases h
    | ok x s =>
      rw [riseP_ok hn] at h
      cases hr : riseP top (last + 1 + x) n s with
      | no e => rw [hr] at h; cases h
      | ok m t =>
        rw [hr] at h
        obtain ⟨h1, h2, h3⟩ := riseP_all top n _ _ _ _ hr
        obtain ⟨h4, h5, h6⟩ := numP_ok hn
        cases h
        refine ⟨by simp [h1], fun z hz => ?_, by omega⟩
        rcases List.mem_cons.1 hz with rfl | hz
        · omega
        · have := h2 z hz
          omega
theorem riseP_err (top : Int) : ∀ (n : Nat) (last : Int) (bs : List UInt8) (e : Nat), riseP top last n bs = .no e → e = 3 ∨ e = 4 ∨ e = 5
  | 0, last, bs, e, h => by cases h
  | n + 1, last, bs, e, h => by
    cases hn : numP (top - last - 1) bs with
    | no e' => rw [riseP_no hn] at h; cases h; exact numP_err hn
    | ok x s =>
      rw [riseP_ok hn] at h
      cases hr : riseP top (last + 1 + x) n s with
      | no e' => rw [hr] at h; cases h; exact riseP_err top n _ _ _ hr
      | ok m t => rw [hr] at h; cases h
theorem risingP_ok {many top : Int} {bs r : List UInt8} {l : List Int} (h : risingP many top bs = .ok l r) : (l.length : Int) ≤ many ∧ (∀ z ∈ l, 0 ≤ z ∧ z ≤ top) ∧ r.length ≤ bs.length := by
  unfold risingP at h
  split at h
  · cases h
  · rename_i n s hn
    obtain ⟨h1, h2, h3⟩ := riseP_all top _ _ _ _ _ h
    obtain ⟨h4, h5, h6⟩ := numP_ok hn
    refine ⟨by omega, fun z hz => ?_, by omega⟩
    have := h2 z hz
    omega
theorem risingP_err {many top : Int} {bs : List UInt8} {e : Nat} (h : risingP many top bs = .no e) : e = 3 ∨ e = 4 ∨ e = 5 := by
  unfold risingP at h
  split at h
  · rename_i e' hn; cases h; exact numP_err hn
  · exact riseP_err _ _ _ _ _ h
theorem or_byte (x b : Nat) (hb : b < 256) (h : x * 256 + b < 18446744073709551616) : Go.bits .or .u64 (IntKind.u64.wrap ((x : Int) * 256)) (b : Int) = ((x * 256 + b : Nat) : Int) := by
  have h1 : x * 256 < 18446744073709551616 := Nat.lt_of_le_of_lt (Nat.le_add_right _ _) h
  have h2 : b < 18446744073709551616 := Nat.lt_of_le_of_lt (Nat.le_add_left _ _) h
  have h3 : (x : Int) * 256 % 18446744073709551616 = ((x * 256 : Nat) : Int) := by omega
  rw [IntKind.wrap_u64, h3, u64_or_nat _ _ h1 h2]
  have := Nat.two_pow_add_eq_or_of_lt (i := 8) (b := b) (by omega) x
  rw [Nat.mul_comm] at this
  exact (congrArg (fun n : Nat => (n : Int)) this).symm
end Go.Proofs.Ytjfpanamkkdebaa
