/- Words in order, plain: how two words stand, how they begin alike, a dictionary's blocks, its bytes. -/
import Derived.Test.YtjmojfhkajknlaaLaws
import Derived.Test.YtjmojfhkajknlaaCoA
namespace Go.Proofs.Ytjmojfhkajknlaa
open Go.RowKit
set_option linter.unusedVariables false
set_option linter.unusedSimpArgs false
/-! How two words stand. -/
theorem bl_irrefl : ∀ a : List UInt8, Op.bytesLess a a = false
  | [] => rfl
  | a :: x => by simp [Op.bytesLess, bl_irrefl x, UInt8.lt_irrefl]
theorem bl_nil (a : List UInt8) : Op.bytesLess a [] = false := by cases a <;> rfl
theorem bl_trans : ∀ a b c : List UInt8, Op.bytesLess a b = true → Op.bytesLess b c = true → Op.bytesLess a c = true
  | _, _, [], _, h => by rw [bl_nil] at h; cases h
  | _, [], _ :: _, h, _ => by rw [bl_nil] at h; cases h
  | [], _ :: _, _ :: _, _, _ => rfl
  | a :: x, b :: y, c :: z, h, k => by
    simp only [Op.bytesLess, Bool.or_eq_true, Bool.and_eq_true, decide_eq_true_eq, beq_iff_eq] at h k ⊢
    rcases h with h | ⟨rfl, h⟩
    · rcases k with k | ⟨rfl, k⟩
      · exact .inl (UInt8.lt_trans h k)
      · exact .inl h
    · rcases k with k | ⟨rfl, k⟩
      · exact .inl k
      · exact .inr ⟨rfl, bl_trans x y z h k⟩
theorem bl_tri : ∀ a b : List UInt8, Op.bytesLess a b = false → Op.bytesLess b a = false → a = b
  | [], [], _, _ => rfl
  | [], _ :: _, h, _ => by cases h
  | _ :: _, [], _, h => by cases h
  | a :: x, b :: y, h, k => by
    simp only [Op.bytesLess, Bool.or_eq_false_iff, Bool.and_eq_false_iff, decide_eq_false_iff_not, beq_eq_false_iff_ne] at h k
    have e : a = b := UInt8.le_antisymm (UInt8.not_lt.1 k.1) (UInt8.not_lt.1 h.1)
    subst e
    rw [bl_tri x y (h.2.resolve_left (fun f => f rfl)) (k.2.resolve_left (fun f => f rfl))]
theorem bl_asymm {a b : List UInt8} (h : Op.bytesLess a b = true) : Op.bytesLess b a = false := by
  cases k : Op.bytesLess b a with
  | false => rfl
  | true => have := bl_trans a b a h k; rw [bl_irrefl] at this; cases this
/-- At most. -/
def le8 (a b : List UInt8) : Bool := Op.bytesLess a b || a == b
theorem le8_iff {a b : List UInt8} : le8 a b = !Op.bytesLess b a := by
  unfold le8
  cases h : Op.bytesLess a b with
  | true => rw [bl_asymm h]; rfl
  | false =>
    cases k : Op.bytesLess b a with
    | true => simp only [Bool.false_or, Bool.not_true, beq_eq_false_iff_ne]; rintro rfl; rw [bl_irrefl] at k; cases k
    | false => rw [bl_tri a b h k]; simp
theorem lt_of_lt_of_le8 {a b c : List UInt8} (h : Op.bytesLess a b = true) (k : le8 b c = true) : Op.bytesLess a c = true := by
  unfold le8 at k
  rw [Bool.or_eq_true, beq_iff_eq] at k
  rcases k with k | rfl
  · exact bl_trans _ _ _ h k
  · exact h
theorem lt_of_le8_of_lt {a b c : List UInt8} (h : le8 a b = true) (k : Op.bytesLess b c = true) : Op.bytesLess a c = true := by
  unfold le8 at h
  rw [Bool.or_eq_true, beq_iff_eq] at h
  rcases h with h | rfl
  · exact bl_trans _ _ _ h k
  · exact k
/-! Words that rise. -/
/-- The bytes of a text. -/
def by8 (s : ByteArray) : List UInt8 := s.data.toList
theorem by8_size (s : ByteArray) : (by8 s).length = s.size := rfl
theorem by8_inj {a b : ByteArray} (h : by8 a = by8 b) : a = b := by
  cases a with | mk a => cases b with | mk b => exact congrArg ByteArray.mk (by cases a; cases b; exact congrArg Array.mk h)
theorem by8_str (l : List UInt8) : by8 (str l) = l := rfl
theorem str_by8 (s : ByteArray) : str (by8 s) = s := by8_inj rfl
theorem by8_append (a b : ByteArray) : by8 (a ++ b) = by8 a ++ by8 b := by simp [by8]
theorem by8_extract (s : ByteArray) (i j : Nat) : by8 (s.extract i j) = ((by8 s).drop i).take (j - i) := by
  simp [by8, ByteArray.data_extract, Array.toList_extract, List.extract_eq_take_drop]
theorem by8_to (s : ByteArray) : s.toList = by8 s := ByteArray.toList_eq s
/-- A word may stand behind another one. -/
def fitsB (last w : List UInt8) : Bool := Op.bytesLess last w && decide (w.length ≤ 64)
/-- Do words rise, each at most 64 bytes long, the first one above one? -/
def chk (last : List UInt8) : List (List UInt8) → Bool
  | [] => true
  | w :: ws => fitsB last w && chk w ws
theorem chk_cons (last w : List UInt8) (ws : List (List UInt8)) : chk last (w :: ws) = (fitsB last w && chk w ws) := rfl
/-- The last word, or one. -/
def lastW (d : List UInt8) (l : List (List UInt8)) : List UInt8 := l.getLast?.getD d
theorem lastW_snoc (d : List UInt8) (l : List (List UInt8)) (x : List UInt8) : lastW d (l ++ [x]) = x := by simp [lastW]
theorem lastW_cons (d : List UInt8) (l : List (List UInt8)) (x : List UInt8) : lastW d (x :: l) = lastW x l := by
  cases l with
  | nil => rfl
  | cons y l => simp [lastW, List.getLast?_cons_cons, List.getLast?_cons]
theorem chk_append : ∀ (l m : List (List UInt8)) (d : List UInt8), chk d (l ++ m) = (chk d l && chk (lastW d l) m)
  | [], m, d => by simp [chk, lastW]
  | x :: l, m, d => by simp only [List.cons_append, chk, chk_append l m x, lastW_cons, Bool.and_assoc]
theorem chk_take {d : List UInt8} {l : List (List UInt8)} (h : chk d l = true) (k : Nat) : chk d (l.take k) = true := by
  have := chk_append (l.take k) (l.drop k) d
  rw [List.take_append_drop, h] at this
  exact (Bool.and_eq_true_iff.1 this.symm).1
theorem chk_drop {d : List UInt8} {l : List (List UInt8)} (h : chk d l = true) (k : Nat) : chk (lastW d (l.take k)) (l.drop k) = true := by
  have := chk_append (l.take k) (l.drop k) d
  rw [List.take_append_drop, h] at this
  exact (Bool.and_eq_true_iff.1 this.symm).2
theorem chk_len {d : List UInt8} {l : List (List UInt8)} (h : chk d l = true) : ∀ x ∈ l, x.length ≤ 64 := by
  induction l generalizing d with
  | nil => intro x hx; cases hx
  | cons w l ih =>
    rw [chk, Bool.and_eq_true, fitsB, Bool.and_eq_true, decide_eq_true_eq] at h
    intro x hx
    rcases List.mem_cons.1 hx with rfl | hx
    · exact h.1.2
    · exact ih h.2 x hx
theorem chk_above {d : List UInt8} {l : List (List UInt8)} (h : chk d l = true) : ∀ x ∈ l, Op.bytesLess d x = true := by
  induction l generalizing d with
  | nil => intro x hx; cases hx
  | cons w l ih =>
    rw [chk, Bool.and_eq_true, fitsB, Bool.and_eq_true] at h
    intro x hx
    rcases List.mem_cons.1 hx with rfl | hx
    · exact h.1.1
    · exact bl_trans _ _ _ h.1.1 (ih h.2 x hx)
theorem chk_pair {d : List UInt8} {l : List (List UInt8)} (h : chk d l = true) {i j : Nat} (hij : i < j) (hj : j < l.length) : Op.bytesLess (l[i]'(by omega)) l[j] = true := by
  induction l generalizing d i j with
  | nil => simp at hj
  | cons w l ih =>
    rw [chk, Bool.and_eq_true, fitsB, Bool.and_eq_true] at h
    cases j with
    | zero => omega
    | succ j =>
      cases i with
      | zero => exact chk_above h.2 _ (List.getElem_mem _)
      | succ i => exact ih h.2 (by omega) (by simpa using hj)
theorem chk_pos {d : List UInt8} {l : List (List UInt8)} (h : chk d l = true) : ∀ x ∈ l, x ≠ [] := by
  intro x hx e
  have := chk_above h x hx
  rw [e, bl_nil] at this
  cases this
/-! How two words begin alike. -/
def likeL : List UInt8 → List UInt8 → Nat
  | a :: x, b :: y => if a = b then likeL x y + 1 else 0
  | _, _ => 0
theorem likeL_nil (a : List UInt8) : likeL a [] = 0 := by cases a <;> rfl
theorem likeL_le : ∀ a b : List UInt8, likeL a b ≤ a.length ∧ likeL a b ≤ b.length
  | [], _ => by simp [likeL]
  | _ :: _, [] => by simp [likeL]
  | a :: x, b :: y => by
    simp only [likeL]
    split
    · have := likeL_le x y; simp; omega
    · simp
theorem likeL_take : ∀ a b : List UInt8, b.take (likeL a b) = a.take (likeL a b)
  | [], _ => by simp [likeL]
  | _ :: _, [] => by simp [likeL]
  | a :: x, b :: y => by
    simp only [likeL]
    split
    · rename_i h; subst h; simp [likeL_take x y]
    · simp
theorem likeL_next {a b : List UInt8} {n : Nat} (ha : n < a.length) (hb : n < b.length) (h : likeL a b = n + likeL (a.drop n) (b.drop n)) (e : a[n] = b[n]) : likeL a b = n + 1 + likeL (a.drop (n + 1)) (b.drop (n + 1)) := by
  rw [List.drop_eq_getElem_cons ha, List.drop_eq_getElem_cons hb] at h
  simp only [likeL, if_pos e] at h
  omega
theorem likeL_stop {a b : List UInt8} {n : Nat} (h : likeL a b = n + likeL (a.drop n) (b.drop n)) (e : ∀ (ha : n < a.length) (hb : n < b.length), a[n] ≠ b[n]) : likeL a b = n := by
  rw [h]
  by_cases ha : n < a.length
  · by_cases hb : n < b.length
    · rw [List.drop_eq_getElem_cons ha, List.drop_eq_getElem_cons hb]
      simp [likeL, e ha hb]
    · rw [List.drop_of_length_le (l := b) (by omega), likeL_nil]; rfl
  · rw [List.drop_of_length_le (l := a) (by omega)]; rfl
/-! A word's bytes behind another one, a block's, a dictionary's. -/
def codeW (last w : List UInt8) : List UInt8 := numBytes (likeL w last) ++ textBytes (w.drop (likeL w last))
def encGo (last : List UInt8) : List (List UInt8) → List UInt8
  | [] => []
  | w :: ws => codeW last w ++ encGo w ws
theorem encGo_cons (last w : List UInt8) (ws : List (List UInt8)) : encGo last (w :: ws) = codeW last w ++ encGo w ws := rfl
theorem encGo_append : ∀ (l m : List (List UInt8)) (d : List UInt8), encGo d (l ++ m) = encGo d l ++ encGo (lastW d l) m
  | [], m, d => by simp [encGo, lastW]
  | x :: l, m, d => by simp only [List.cons_append, encGo, encGo_append l m x, lastW_cons, List.append_assoc]
theorem codeW_pos (last w : List UInt8) : 0 < (codeW last w).length := by
  unfold codeW
  rw [List.length_append, numBytes_length]; omega
theorem codeW_le (last w : List UInt8) : (codeW last w).length ≤ w.length + 18 := by
  have h1 := need_le (likeL w last)
  have h2 := need_le (w.drop (likeL w last)).length
  unfold codeW textBytes
  simp only [List.length_append, numBytes_length, List.length_drop] at h2 ⊢
  omega
theorem encGo_pos {d : List UInt8} {l : List (List UInt8)} (h : l ≠ []) : 0 < (encGo d l).length := by
  cases l with
  | nil => exact absurd rfl h
  | cons w l => rw [encGo, List.length_append]; have := codeW_pos d w; omega
theorem encGo_le {d : List UInt8} {l : List (List UInt8)} (h : ∀ x ∈ l, x.length ≤ 64) : (encGo d l).length ≤ 82 * l.length := by
  induction l generalizing d with
  | nil => simp [encGo]
  | cons w l ih =>
    have h1 := codeW_le d w
    have h2 := ih (d := w) (fun x hx => h x (List.mem_cons_of_mem _ hx))
    have h3 := h w (List.mem_cons_self)
    rw [encGo, List.length_append, List.length_cons]; omega
/-- The words of block b. -/
def grp (l : List (List UInt8)) (b : Nat) : List (List UInt8) := (l.drop (4 * b)).take 4
/-- How many blocks there are. -/
def nblk (n : Nat) : Nat := (n + 3) / 4
/-- What stands behind a block's first word. -/
def encTail : List (List UInt8) → List UInt8
  | [] => []
  | w :: ws => encGo w ws
def headsL (l : List (List UInt8)) : List (List UInt8) := (List.range (nblk l.length)).map fun b => (grp l b).headD []
def blocksL (l : List (List UInt8)) : List (List UInt8) := (List.range (nblk l.length)).map fun b => encTail (grp l b)
theorem headsL_length (l : List (List UInt8)) : (headsL l).length = nblk l.length := by simp [headsL]
theorem blocksL_length (l : List (List UInt8)) : (blocksL l).length = nblk l.length := by simp [blocksL]
theorem grp_length (l : List (List UInt8)) (b : Nat) : (grp l b).length = min 4 (l.length - 4 * b) := by simp [grp]
theorem grp_at (l : List (List UInt8)) {b k : Nat} (hk : k < 4) (h : 4 * b + k < l.length) : (grp l b)[k]'(by rw [grp_length]; omega) = l[4 * b + k] := by
  simp [grp]
theorem grp_cons (l : List (List UInt8)) {b : Nat} (h : 4 * b < l.length) : grp l b = l[4 * b] :: (grp l b).drop 1 := by
  have h1 : 0 < (grp l b).length := by rw [grp_length]; omega
  have h2 := List.drop_eq_getElem_cons h1
  rw [List.drop_zero] at h2
  have h3 := grp_at l (b := b) (k := 0) (by decide) (by omega)
  simp only [Nat.add_zero] at h3
  rw [h3] at h2
  exact h2
theorem headsL_at (l : List (List UInt8)) {b : Nat} (h : b < (headsL l).length) : (headsL l)[b] = l[4 * b]'(by rw [headsL_length, nblk] at h; omega) := by
  have hb : 4 * b < l.length := by rw [headsL_length, nblk] at h; omega
  simp only [headsL, List.getElem_map, List.getElem_range]
  rw [grp_cons l hb]; rfl
theorem blocksL_at (l : List (List UInt8)) {b : Nat} (h : b < (blocksL l).length) : (blocksL l)[b] = encTail (grp l b) := by
  simp [blocksL]
theorem grp_snoc_old (l : List (List UInt8)) (w : List UInt8) {b : Nat} (h : 4 * b + 4 ≤ l.length) : grp (l ++ [w]) b = grp l b := by
  unfold grp
  rw [List.drop_append_of_le_length (by omega), List.take_append_of_le_length (by simp; omega)]
theorem grp_snoc_last (l : List (List UInt8)) (w : List UInt8) {b : Nat} (h : 4 * b ≤ l.length) (h2 : l.length < 4 * b + 4) : grp (l ++ [w]) b = grp l b ++ [w] := by
  unfold grp
  rw [List.drop_append_of_le_length h, List.take_of_length_le (by simp; omega), List.take_of_length_le (by simp; omega)]
/-- A word that opens a block. -/
theorem heads_new (l : List (List UInt8)) (w : List UInt8) (h : l.length % 4 = 0) : headsL (l ++ [w]) = headsL l ++ [w] := by
  refine List.ext_getElem ?_ fun i h1 h2 => ?_
  · simp only [headsL_length, List.length_append, List.length_cons, List.length_nil, nblk]; omega
  · rw [headsL_at]
    by_cases h3 : i < nblk l.length
    · rw [List.getElem_append_left (show 4 * i < l.length by unfold nblk at h3; omega), List.getElem_append_left (by rw [headsL_length]; exact h3), headsL_at]
    · simp only [headsL_length, nblk, List.length_append, List.length_cons, List.length_nil] at h1 h2 h3
      have h4 : 4 * i = l.length := by omega
      rw [List.getElem_append_right (by omega), List.getElem_append_right (by rw [headsL_length]; unfold nblk; omega)]
      simp
theorem blocks_new (l : List (List UInt8)) (w : List UInt8) (h : l.length % 4 = 0) : blocksL (l ++ [w]) = blocksL l ++ [[]] := by
  refine List.ext_getElem ?_ fun i h1 h2 => ?_
  · simp only [blocksL_length, List.length_append, List.length_cons, List.length_nil, nblk]; omega
  · rw [blocksL_at]
    rw [List.getElem_append]
    split
    · rename_i h3
      rw [blocksL_at]
      rw [blocksL_length, nblk] at h3
      rw [grp_snoc_old l w (by omega)]
    · rename_i h3
      simp only [blocksL_length, nblk, List.length_append, List.length_cons, List.length_nil] at h1 h2 h3
      have h4 : 4 * i = l.length := by omega
      rw [grp_snoc_last l w (by omega) (by omega)]
      have : grp l i = [] := List.eq_nil_of_length_eq_zero (by rw [grp_length]; omega)
      rw [this]
      simp [encTail, encGo]
/-- A word that goes into the last block. -/
theorem heads_old (l : List (List UInt8)) (w : List UInt8) (h : l.length % 4 ≠ 0) : headsL (l ++ [w]) = headsL l := by
  refine List.ext_getElem ?_ fun i h1 h2 => ?_
  · simp only [headsL_length, List.length_append, List.length_cons, List.length_nil, nblk]; omega
  · rw [headsL_at, headsL_at]
    rw [headsL_length, nblk] at h2
    rw [List.getElem_append_left (by omega)]
theorem encTail_snoc {g : List (List UInt8)} (hg : g ≠ []) (w : List UInt8) : encTail (g ++ [w]) = encTail g ++ codeW (lastW [] g) w := by
  cases g with
  | nil => exact absurd rfl hg
  | cons x g =>
    rw [List.cons_append, encTail, encTail, encGo_append, lastW_cons]
    simp [encGo]
theorem lastW_grp (l : List (List UInt8)) {b : Nat} (h : 4 * b < l.length) (h2 : l.length ≤ 4 * b + 4) : lastW [] (grp l b) = lastW [] l := by
  unfold grp
  rw [List.take_of_length_le (by simp; omega)]
  unfold lastW
  rw [List.getLast?_drop, if_neg (by omega)]
theorem blocks_old (l : List (List UInt8)) (w : List UInt8) (h : l.length % 4 ≠ 0) : blocksL (l ++ [w]) = (blocksL l).set (nblk l.length - 1) ((blocksL l)[nblk l.length - 1]'(by rw [blocksL_length]; unfold nblk; omega) ++ codeW (lastW [] l) w) := by
  refine List.ext_getElem ?_ fun i h1 h2 => ?_
  · simp only [blocksL_length, List.length_append, List.length_set, List.length_cons, List.length_nil, nblk]; omega
  · rw [blocksL_at]
    simp only [List.length_set, blocksL_length, nblk] at h2
    by_cases e : i = nblk l.length - 1
    · subst e
      rw [List.getElem_set_self, blocksL_at]
      have hb : 4 * (nblk l.length - 1) < l.length := by unfold nblk; omega
      have hb2 : l.length < 4 * (nblk l.length - 1) + 4 := by unfold nblk; omega
      rw [grp_snoc_last l w (by omega) hb2, encTail_snoc (by rw [grp_cons l hb]; simp), lastW_grp l hb (by omega)]
    · rw [List.getElem_set_ne (Ne.symm e), blocksL_at]
      rw [grp_snoc_old l w (by unfold nblk at e; omega)]
/-- A dictionary's bytes. -/
def dictBytes (l : List (List UInt8)) : List UInt8 := numBytes l.length ++ encGo [] l
theorem flat_grp (l : List (List UInt8)) : ∀ b, b ≤ nblk l.length → ((List.range b).map (grp l)).flatten = l.take (4 * b)
  | 0, _ => by simp
  | b + 1, h => by
    rw [List.range_succ, List.map_append, List.flatten_append, flat_grp l b (by omega)]
    simp only [List.map_cons, List.map_nil, List.flatten_cons, List.flatten_nil, List.append_nil]
    unfold grp
    rw [show 4 * (b + 1) = 4 * b + 4 by omega, List.take_add]
end Go.Proofs.Ytjmojfhkajknlaa
