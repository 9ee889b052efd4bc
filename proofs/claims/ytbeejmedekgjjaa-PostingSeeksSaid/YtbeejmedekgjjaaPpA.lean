/- What was written is read, and what is read was written: plain, numbers and numbers that rise. -/
import Derived.Test.YtbeejmedekgjjaaCoP
import Derived.Test.YtbeejmedekgjjaaPoF
namespace Go.Proofs.Ytbeejmedekgjjaa
set_option linter.unusedVariables false
set_option linter.unusedSimpArgs false
theorem head_ones : ∀ b : Fin 256, b.val = (256 - 2 ^ (8 - ones b.val)) + (if ones b.val < 8 then hd b.val else 0) := by decide +kernel
theorem acc_tail (x : Nat) : ∀ (k y : Nat), y = x / 256 ^ k → acc y (tailBytes x k) = x
  | 0, y, h => by simpa [tailBytes, acc] using h
  | k + 1, y, h => by
    have e : acc y (tailBytes x (k + 1)) = acc (y * 256 + (UInt8.ofNat (x / 256 ^ k)).toNat) (tailBytes x k) := rfl
    rw [e]
    refine acc_tail x k _ ?_
    have h1 : (UInt8.ofNat (x / 256 ^ k)).toNat = x / 256 ^ k % 256 := by simp
    have h2 : x / 256 ^ (k + 1) = x / 256 ^ k / 256 := by rw [Nat.pow_succ, Nat.div_div_eq_div_mul]
    rw [h1, h, h2]
    omega
theorem acc_div : ∀ (l : List UInt8) (y : Nat), acc y l / 256 ^ l.length = y
  | [], y => by simp [acc]
  | b :: l, y => by
    have e : acc y (b :: l) = acc (y * 256 + b.toNat) l := rfl
    have h := acc_div l (y * 256 + b.toNat)
    have hb : b.toNat < 256 := b.toNat_lt
    rw [e, List.length_cons, Nat.pow_succ, ← Nat.div_div_eq_div_mul, h]
    omega
theorem tail_acc : ∀ (l : List UInt8) (y : Nat), tailBytes (acc y l) l.length = l
  | [], y => rfl
  | b :: l, y => by
    have e : acc y (b :: l) = acc (y * 256 + b.toNat) l := rfl
    have hb : b.toNat < 256 := b.toNat_lt
    rw [e, List.length_cons, tailBytes, acc_div, tail_acc l]
    congr 1
    apply UInt8.toNat_inj.1
    simp
theorem ones_head {x : Nat} (hx : x < 18446744073709551616) : ones (headNum x) = need x := by
  unfold ones
  rw [lead_num hx]
  have := need_le x
  omega
theorem hd_head {x : Nat} (hx : x < 18446744073709551616) : hd (headNum x) = x / 256 ^ need x := by
  have hh := headNum_lt hx
  have h1 := head_ones ⟨headNum x, hh⟩
  simp only at h1
  rw [ones_head hx] at h1
  have h2 : headNum x = (256 - 2 ^ (8 - need x)) + if need x < 8 then x / 256 ^ need x else 0 := rfl
  by_cases h8 : need x < 8
  · rw [if_pos h8] at h1 h2
    omega
  · have e8 : need x = 8 := by have := need_le x; omega
    have : ones (headNum x) = 8 := by rw [ones_head hx, e8]
    unfold hd
    rw [if_neg (by omega), e8]
    exact (Nat.div_eq_of_lt hx).symm
theorem rawP_num {x : Nat} (hx : x < 18446744073709551616) (r : List UInt8) : rawP (numBytes x ++ r) = .ok x r := by
  have hh := headNum_lt hx
  have e : (UInt8.ofNat (headNum x)).toNat = headNum x := by simp; omega
  have hl := tailBytes_length x (need x)
  rw [numBytes, List.cons_append, rawP_cons, e, ones_head hx, hd_head hx]
  have ht : (tailBytes x (need x) ++ r).take (need x) = tailBytes x (need x) := by rw [List.take_append_of_le_length (by omega), List.take_of_length_le (by omega)]
  have hd : (tailBytes x (need x) ++ r).drop (need x) = r := by rw [List.drop_append_of_le_length (by omega), List.drop_of_length_le (by omega)]; rfl
  rw [ht, hd, acc_tail x _ _ rfl, if_neg (by rw [List.length_append]; omega), if_pos rfl]
theorem rawP_back {bs r : List UInt8} {x : Nat} (h : rawP bs = .ok x r) : bs = numBytes x ++ r := by
  cases bs with
  | nil => cases h
  | cons b bs =>
    rw [rawP_cons] at h
    split at h
    · cases h
    · rename_i hl
      split at h
      · rename_i hn
        have hx : acc (hd b.toNat) (bs.take (ones b.toNat)) < 18446744073709551616 := acc_small _ _ (by rw [List.length_take]; omega)
        have hlen : (bs.take (ones b.toNat)).length = ones b.toNat := by rw [List.length_take]; omega
        have hd1 := acc_div (bs.take (ones b.toNat)) (hd b.toNat)
        have ht := tail_acc (bs.take (ones b.toNat)) (hd b.toNat)
        rw [hlen] at hd1 ht
        generalize acc (hd b.toNat) (bs.take (ones b.toNat)) = X at hn hx hd1 ht h
        cases h
        have hb : headNum x = b.toNat := by
          have h1 := head_ones ⟨b.toNat, b.toNat_lt⟩
          simp only at h1
          unfold headNum
          rw [hn, hd1]
          exact h1.symm
        rw [numBytes, hn, ht, hb, List.cons_append, List.take_append_drop]
        simp
      · cases h
theorem numP_num {most : Int} {x : Nat} (hx : x < 9223372036854775808) (hm : (x : Int) ≤ most) (r : List UInt8) : numP most (numBytes x ++ r) = .ok x r := by
  unfold numP
  rw [rawP_num (by omega)]
  simp only
  rw [if_neg (by omega)]
theorem numP_back {most : Int} {bs r : List UInt8} {x : Nat} (h : numP most bs = .ok x r) : bs = numBytes x ++ r := by
  unfold numP at h
  split at h
  · rename_i y s hy
    split at h
    · cases h
    · cases h
      exact rawP_back hy
  · cases h
theorem riseP_gap (top : Int) (htop : top < 9223372036854775807) : ∀ (l : List Int) (last : Int) (r : List UInt8), -1 ≤ last → upFrom last top l = true → riseP top last l.length (gapBytes last l ++ r) = .ok l r
  | [], last, r, _, _ => rfl
  | z :: l, last, r, h0, h => by
    rw [upFrom, Bool.and_eq_true, Bool.and_eq_true, decide_eq_true_eq, decide_eq_true_eq] at h
    obtain ⟨⟨h1, h2⟩, h3⟩ := h
    have hn : numP (top - last - 1) (numBytes (z - last - 1).toNat ++ (gapBytes z l ++ r)) = .ok (z - last - 1).toNat (gapBytes z l ++ r) := numP_num (by omega) (by omega) _
    have hz : last + 1 + ((z - last - 1).toNat : Int) = z := by omega
    rw [List.length_cons, gapBytes, List.append_assoc, riseP_ok hn, hz, riseP_gap top htop l z r (by omega) h3]
    rfl
theorem riseP_back (top : Int) : ∀ (n : Nat) (last : Int) (bs : List UInt8) (l : List Int) (r : List UInt8), riseP top last n bs = .ok l r → bs = gapBytes last l ++ r ∧ l.length = n ∧ upFrom last top l = true
  | 0, last, bs, l, r, h => by cases h; exact ⟨rfl, rfl, rfl⟩
  | n + 1, last, bs, l, r, h => by
    cases hn : numP (top - last - 1) bs with
    | no e => rw [riseP_no hn] at h; cases h
    | ok x s =>
      rw [riseP_ok hn] at h
      cases hr : riseP top (last + 1 + x) n s with
      | no e => rw [hr] at h; cases h
      | ok m t =>
        rw [hr] at h
        obtain ⟨h1, h2, h3⟩ := riseP_back top n _ _ _ _ hr
        obtain ⟨_, h5, _⟩ := numP_ok hn
        have h4 := numP_back hn
        cases h
        have e : (last + 1 + (x : Int) - last - 1).toNat = x := by omega
        refine ⟨?_, by simp [h2], ?_⟩
        · rw [h4, h1]
          show _ = gapBytes last ((last + 1 + (x : Int)) :: m) ++ r
          rw [gapBytes, e, List.append_assoc]
        · show upFrom last top ((last + 1 + (x : Int)) :: m) = true
          rw [upFrom, h3, decide_eq_true (by omega), decide_eq_true (by omega)]
          rfl
theorem rise_up {high : Int} : ∀ (l : List Int) (last : Int), upFrom last high l = true → riseOver last l = l
  | [], _, _ => rfl
  | z :: l, last, h => by
    rw [upFrom, Bool.and_eq_true, Bool.and_eq_true, decide_eq_true_eq, decide_eq_true_eq] at h
    rw [riseOver_cons, if_pos h.1.1, rise_up l z h.2]
theorem risingBytes_up {high : Int} {l : List Int} (h : upFrom (-1) high l = true) : risingBytes l = numBytes l.length ++ gapBytes (-1) l := by
  unfold risingBytes rise
  rw [rise_up l _ h]
theorem risingP_rising {many top : Int} (htop : top < 9223372036854775807) {l : List Int} (h : upFrom (-1) top l = true) (hl : (l.length : Int) ≤ many) (hl2 : l.length < 9223372036854775808) (r : List UInt8) : risingP many top (risingBytes l ++ r) = .ok l r := by
  unfold risingP
  rw [risingBytes_up h, List.append_assoc, numP_num hl2 hl]
  exact riseP_gap top htop l _ r (by omega) h
theorem risingP_back {many top : Int} {bs r : List UInt8} {l : List Int} (h : risingP many top bs = .ok l r) : bs = risingBytes l ++ r ∧ (l.length : Int) ≤ many ∧ upFrom (-1) top l = true := by
  unfold risingP at h
  cases hn : numP many bs with
  | no e => rw [hn] at h; cases h
  | ok n s =>
    rw [hn] at h
    simp only at h
    obtain ⟨h1, h2, h3⟩ := riseP_back top n _ _ _ _ h
    have h4 := numP_back hn
    obtain ⟨_, h5, _⟩ := numP_ok hn
    refine ⟨?_, by omega, h3⟩
    rw [risingBytes_up h3, h4, h1, h2, List.append_assoc]
end Go.Proofs.Ytbeejmedekgjjaa
