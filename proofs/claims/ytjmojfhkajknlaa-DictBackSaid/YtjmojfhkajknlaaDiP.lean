/- Where a word stands among words that rise, and those that begin so, plain. -/
import Derived.Test.YtjmojfhkajknlaaDiA
namespace Go.Proofs.Ytjmojfhkajknlaa
open Go.RowKit
set_option linter.unusedVariables false
set_option linter.unusedSimpArgs false
/-- A test's boundary in a list: it holds ahead of m, and not from m on. -/
structure Bnd {α : Type} (l : List α) (p : α → Bool) (m : Nat) : Prop where
  le : m ≤ l.length
  yes : ∀ t (h : t < l.length), t < m → p l[t] = true
  no : ∀ t (h : t < l.length), m ≤ t → p l[t] = false
theorem Bnd.count {α : Type} {l : List α} {p : α → Bool} {m : Nat} (h : Bnd l p m) : l.countP p = m := by
  have e := List.take_append_drop m l
  rw [← e, List.countP_append]
  have h1 : (l.take m).countP p = m := by
    rw [List.countP_eq_length.2, List.length_take]
    · have := h.le; omega
    · intro x hx
      obtain ⟨i, hi, rfl⟩ := List.getElem_of_mem hx
      rw [List.length_take] at hi
      rw [List.getElem_take]
      exact h.yes i (by omega) (by omega)
  have h2 : (l.drop m).countP p = 0 := by
    rw [List.countP_eq_zero]
    intro x hx
    obtain ⟨i, hi, rfl⟩ := List.getElem_of_mem hx
    rw [List.length_drop] at hi
    rw [List.getElem_drop, h.no (m + i) (by omega) (by omega)]
    simp
  omega
/-- A test that holds of a word, and of all ahead of it, has a boundary. -/
theorem bnd_of {α : Type} (l : List α) (p : α → Bool) (hd : ∀ i j (hi : i < j) (hj : j < l.length), p l[j] = true → p (l[i]'(by omega)) = true) : ∃ m, Bnd l p m := by
  induction l with
  | nil => exact ⟨0, Nat.le_refl _, fun t h => absurd h (Nat.not_lt_zero t), fun t h => absurd h (Nat.not_lt_zero t)⟩
  | cons x l ih =>
    obtain ⟨m, hm⟩ := ih (fun i j hi hj h => hd (i + 1) (j + 1) (by omega) (by simpa using hj) (by simpa using h))
    cases hp : p x with
    | true =>
      refine ⟨m + 1, by have := hm.le; simp; omega, fun t h ht => ?_, fun t h ht => ?_⟩
      · cases t with
        | zero => exact hp
        | succ t => exact hm.yes t (by simpa using h) (by omega)
      · cases t with
        | zero => omega
        | succ t => exact hm.no t (by simpa using h) (by omega)
    | false =>
      refine ⟨0, Nat.zero_le _, fun t h ht => by omega, fun t h _ => ?_⟩
      cases t with
      | zero => exact hp
      | succ t =>
        cases e : p (x :: l)[t + 1] with
        | false => rfl
        | true => have := hd 0 (t + 1) (by omega) h e; rw [List.getElem_cons_zero, hp] at this; cases this
/-- How many words are below one. -/
def lessP (w : List UInt8) (x : List UInt8) : Bool := Op.bytesLess x w
def atMost (w : List UInt8) (x : List UInt8) : Bool := le8 x w
theorem bnd_less {d : List UInt8} {l : List (List UInt8)} (h : chk d l = true) (w : List UInt8) : ∃ m, Bnd l (lessP w) m :=
  bnd_of l _ fun i j hi hj hp => bl_trans _ _ _ (chk_pair h hi hj) hp
theorem bnd_most {d : List UInt8} {l : List (List UInt8)} (h : chk d l = true) (w : List UInt8) : ∃ m, Bnd l (atMost w) m :=
  bnd_of l _ fun i j hi hj hp => by
    have := lt_of_lt_of_le8 (chk_pair h hi hj) hp
    unfold atMost le8
    rw [this]; rfl
/-- Below, at most: they part by the word itself, if it is there. -/
theorem bnd_part {d : List UInt8} {l : List (List UInt8)} (h : chk d l = true) {w : List UInt8} {m k : Nat} (hm : Bnd l (lessP w) m) (hk : Bnd l (atMost w) k) :
    (l.contains w = false → k = m) ∧ (l.contains w = true → k = m + 1 ∧ ∃ hl : m < l.length, l[m] = w) := by
  have e : ∀ x, atMost w x = (lessP w x || x == w) := fun x => rfl
  constructor
  · intro hc
    have hmk : m ≤ k := by
      rcases Nat.lt_or_ge k m with hlt | hge
      · have h1 := hm.yes k (by have := hm.le; omega) hlt
        have h2 := hk.no k (by have := hm.le; omega) (Nat.le_refl _)
        rw [e, h1] at h2; cases h2
      · exact hge
    rcases Nat.lt_or_ge m k with hlt | hge
    · have hl : m < l.length := by have := hk.le; omega
      have h1 := hm.no m hl (Nat.le_refl _)
      have h2 := hk.yes m hl hlt
      rw [e, h1, Bool.false_or, beq_iff_eq] at h2
      have : l.contains w = true := List.contains_iff_mem.2 (by rw [← h2]; exact List.getElem_mem hl)
      rw [hc] at this; cases this
    · omega
  · intro hc
    obtain ⟨i, hi, hx⟩ := List.getElem_of_mem (List.contains_iff_mem.1 hc)
    have him : i = m := by
      rcases Nat.lt_trichotomy i m with hlt | heq | hgt
      · have := hm.yes i hi hlt
        unfold lessP at this
        rw [hx, bl_irrefl] at this; cases this
      · exact heq
      · have h1 := chk_pair h hgt hi
        have h2 := hm.no m (by omega) (Nat.le_refl _)
        unfold lessP at h2
        rw [hx] at h1
        rw [h1] at h2; cases h2
    subst him
    refine ⟨?_, hi, hx⟩
    rcases Nat.lt_trichotomy k (i + 1) with hlt | heq | hgt
    · have := hk.no i hi (by omega)
      rw [e, hx, beq_self_eq_true, Bool.or_true] at this; cases this
    · exact heq
    · have hl : i + 1 < l.length := by have := hk.le; omega
      have h1 := hk.yes (i + 1) hl hgt
      have h2 := chk_pair h (Nat.lt_succ_self i) hl
      rw [hx] at h2
      have h3 := lt_of_lt_of_le8 h2 h1
      rw [bl_irrefl] at h3; cases h3
/-! Words that begin so. -/
def begins (p x : List UInt8) : Bool := decide (p.length ≤ x.length) && (x.take p.length == p)
theorem begins_cons (a : UInt8) (p : List UInt8) (b : UInt8) (x : List UInt8) : begins (a :: p) (b :: x) = ((b == a) && begins p x) := by
  unfold begins
  simp only [List.length_cons, List.take_succ_cons, Nat.add_le_add_iff_right]
  rw [Bool.eq_iff_iff]
  simp only [Bool.and_eq_true, decide_eq_true_eq, beq_iff_eq, List.cons.injEq]
  constructor
  · rintro ⟨h1, h2, h3⟩; exact ⟨h2, h1, h3⟩
  · rintro ⟨h2, h1, h3⟩; exact ⟨h1, h2, h3⟩
theorem begins_nil (x : List UInt8) : begins [] x = true := by simp [begins]
theorem begins_cons_nil (a : UInt8) (p : List UInt8) : begins (a :: p) [] = false := by simp [begins]
theorem begins_ge : ∀ p x : List UInt8, begins p x = true → Op.bytesLess x p = false
  | [], x, _ => bl_nil x
  | a :: p, [], h => by rw [begins_cons_nil] at h; cases h
  | a :: p, b :: x, h => by
    rw [begins_cons, Bool.and_eq_true, beq_iff_eq] at h
    obtain ⟨rfl, h⟩ := h
    simp [Op.bytesLess, begins_ge p x h, UInt8.lt_irrefl]
theorem begins_mid : ∀ p x y : List UInt8, Op.bytesLess x p = false → Op.bytesLess y x = false → begins p y = true → begins p x = true
  | [], x, _, _, _, _ => begins_nil x
  | a :: p, [], _, h, _, _ => by cases h
  | a :: p, b :: x, [], _, _, h => by rw [begins_cons_nil] at h; cases h
  | a :: p, b :: x, c :: y, h1, h2, h3 => by
    rw [begins_cons, Bool.and_eq_true, beq_iff_eq] at h3
    obtain ⟨rfl, h3⟩ := h3
    simp only [Op.bytesLess, Bool.or_eq_false_iff, Bool.and_eq_false_iff, decide_eq_false_iff_not, beq_eq_false_iff_ne] at h1 h2
    have e : b = c := UInt8.le_antisymm (UInt8.not_lt.1 h2.1) (UInt8.not_lt.1 h1.1)
    subst e
    rw [begins_cons, beq_self_eq_true, Bool.true_and]
    exact begins_mid p x y (h1.2.resolve_left (fun f => f rfl)) (h2.2.resolve_left (fun f => f rfl)) h3
/-- Among the words from the first one on that is not below: those that begin so stand ahead. -/
theorem bnd_begins {d : List UInt8} {l : List (List UInt8)} (h : chk d l = true) {w : List UInt8} {m : Nat} (hm : Bnd l (lessP w) m) : ∃ r, Bnd (l.drop m) (begins w) r := by
  refine bnd_of _ _ fun i j hi hj hp => ?_
  rw [List.length_drop] at hj
  rw [List.getElem_drop] at hp ⊢
  exact begins_mid w _ _ (hm.no _ (by omega) (by omega)) (bl_asymm (chk_pair h (by omega) (by omega))) hp
theorem count_begins {l : List (List UInt8)} {w : List UInt8} {m r : Nat} (hm : Bnd l (lessP w) m) (hr : Bnd (l.drop m) (begins w) r) : l.countP (begins w) = r := by
  have e := List.take_append_drop m l
  rw [← e, List.countP_append, hr.count]
  have : (l.take m).countP (begins w) = 0 := by
    rw [List.countP_eq_zero]
    intro x hx
    obtain ⟨i, hi, rfl⟩ := List.getElem_of_mem hx
    rw [List.length_take] at hi
    rw [List.getElem_take]
    intro hb
    have h1 := hm.yes i (by omega) (by omega)
    have h2 := begins_ge _ _ hb
    unfold lessP at h1
    rw [h1] at h2; cases h2
  omega
/-- How many heads are at most a word: as many as blocks that the words at most it reach. -/
theorem bnd_heads {l : List (List UInt8)} {w : List UInt8} {k : Nat} (hk : Bnd l (atMost w) k) : Bnd (headsL l) (atMost w) (nblk k) := by
  refine ⟨by rw [headsL_length]; have := hk.le; unfold nblk; omega, fun t h ht => ?_, fun t h ht => ?_⟩
  · rw [headsL_at]
    exact hk.yes _ (by rw [headsL_length] at h; unfold nblk at h; omega) (by unfold nblk at ht; omega)
  · rw [headsL_at]
    exact hk.no _ (by rw [headsL_length] at h; unfold nblk at h; omega) (by unfold nblk at ht; omega)
/-- In the block of the last head that is at most a word: how many are below it. -/
theorem bnd_grp {l : List (List UInt8)} {w : List UInt8} {m b : Nat} (hm : Bnd l (lessP w) m) (h1 : 4 * b ≤ m) (h2 : m ≤ 4 * b + 4) (hb : 4 * b < l.length) : Bnd (grp l b) (lessP w) (m - 4 * b) := by
  have hl := grp_length l b
  refine ⟨by rw [hl]; have := hm.le; omega, fun t h ht => ?_, fun t h ht => ?_⟩
  · rw [grp_at l (by omega) (by omega)]
    exact hm.yes _ (by omega) (by omega)
  · rw [grp_at l (by omega) (by omega)]
    exact hm.no _ (by omega) (by omega)
end Go.Proofs.Ytjmojfhkajknlaa
