/- The plain law: what all are known to have never falls. -/
import Derived.Test.YtokcohepkajloaaMv
namespace Go.Proofs.Ytokcohepkajloaa
set_option linter.unusedVariables false
set_option linter.unusedSimpArgs false
def vat (l : List Int) (i : Nat) : Int := l.getD i 0
theorem vat_get {l : List Int} {i : Nat} (h : i < l.length) : l[i] = vat l i := by rw [vat, List.getD_eq_getElem?_getD, List.getElem?_eq_getElem h]; rfl
theorem within_of {a b : List Int} (h : ∀ i, vat a i ≤ vat b i) : withinv a b := fun i h1 h2 => by rw [vat_get h1, vat_get h2]; exact h i
theorem vat_zip {f : Int → Int → Int} (h0 : f 0 0 = 0) {a b : List Int} (hl : a.length = b.length) (i : Nat) : vat (List.zipWith f a b) i = f (vat a i) (vat b i) := by
  simp only [vat, List.getD_eq_getElem?_getD, List.getElem?_zipWith]
  rcases Nat.lt_or_ge i a.length with h | h
  · rw [List.getElem?_eq_getElem h, List.getElem?_eq_getElem (hl ▸ h)]; rfl
  · rw [List.getElem?_eq_none h, List.getElem?_eq_none (hl ▸ h)]; simp [h0]
theorem vat_meet {a b : List Int} (hl : a.length = b.length) (i : Nat) : vat (meetv a b) i = min (vat a i) (vat b i) := vat_zip (by decide) hl i
theorem vat_join {a b : List Int} (hl : a.length = b.length) (i : Nat) : vat (joinv a b) i = max (vat a i) (vat b i) := vat_zip (by decide) hl i
theorem fold_le (i : Nat) : ∀ (l : List (List Int)) (r : List Int), r.length = 64 → (∀ x ∈ l, x.length = 64) → vat (l.foldl meetv r) i ≤ vat r i ∧ ∀ x ∈ l, vat (l.foldl meetv r) i ≤ vat x i := by
  intro l
  induction l with
  | nil => intro r _ _; exact ⟨Int.le_refl _, fun x hx => by cases hx⟩
  | cons y l ih =>
    intro r hr hl
    have hy := hl y List.mem_cons_self
    obtain ⟨h1, h2⟩ := ih (meetv r y) (meetv_length hr hy) (fun x hx => hl x (List.mem_cons_of_mem _ hx))
    have hm := vat_meet (a := r) (b := y) (by rw [hr, hy]) i
    rw [List.foldl_cons]
    refine ⟨by omega, fun x hx => ?_⟩
    rcases List.mem_cons.1 hx with rfl | hx
    · omega
    · exact h2 x hx
theorem fold_ge (i : Nat) (z : Int) : ∀ (l : List (List Int)) (r : List Int), r.length = 64 → (∀ x ∈ l, x.length = 64) → z ≤ vat r i → (∀ x ∈ l, z ≤ vat x i) → z ≤ vat (l.foldl meetv r) i := by
  intro l
  induction l with
  | nil => intro r _ _ h _; exact h
  | cons y l ih =>
    intro r hr hl h1 h2
    have hy := hl y List.mem_cons_self
    have hm := vat_meet (a := r) (b := y) (by rw [hr, hy]) i
    have h3 := h2 y List.mem_cons_self
    rw [List.foldl_cons]
    exact ih (meetv r y) (meetv_length hr hy) (fun x hx => hl x (List.mem_cons_of_mem _ hx)) (by omega) (fun x hx => h2 x (List.mem_cons_of_mem _ hx))
theorem stab_row (rows : List (List Int)) (hw : ∀ r ∈ rows, r.length = 64) (k : Nat) (hk : k < rows.length) (i : Nat) : vat (stab rows) i ≤ vat rows[k] i := by
  cases rows with
  | nil => cases hk
  | cons r l =>
    obtain ⟨h1, h2⟩ := fold_le i l r (hw r List.mem_cons_self) (fun x hx => hw x (List.mem_cons_of_mem _ hx))
    cases k with
    | zero => exact h1
    | succ k => exact h2 _ (List.getElem_mem _)
theorem stab_ge (rows : List (List Int)) (hw : ∀ r ∈ rows, r.length = 64) (hn : 0 < rows.length) (i : Nat) (z : Int) (h : ∀ k (hk : k < rows.length), z ≤ vat rows[k] i) : z ≤ vat (stab rows) i := by
  cases rows with
  | nil => cases hn
  | cons r l =>
    refine fold_ge i z l r (hw r List.mem_cons_self) (fun x hx => hw x (List.mem_cons_of_mem _ hx)) (h 0 hn) (fun x hx => ?_)
    obtain ⟨k, hk, rfl⟩ := List.mem_iff_getElem.1 hx
    exact h (k + 1) (by simp; omega)
/-- Heard once more: nothing falls. -/
theorem stab_up (rows : List (List Int)) (hw : ∀ r ∈ rows, r.length = 64) (i : Nat) (hi : i < rows.length) (v : List Int) (hv : v.length = 64) : withinv (stab rows) (stab (rows.set i (joinv rows[i] v))) := by
  have hri := hw _ (List.getElem_mem hi)
  refine within_of fun j => stab_ge _ (fun r hr => ?_) (by rw [List.length_set]; omega) j _ (fun k hk => ?_)
  · rcases List.mem_or_eq_of_mem_set hr with hr | hr
    · exact hw r hr
    · rw [hr]; exact joinv_length hri hv
  · rw [List.length_set] at hk
    have hs := stab_row rows hw k hk j
    by_cases e : i = k
    · subst e
      rw [List.getElem_set_self, vat_join (by rw [hri, hv])]
      omega
    · rw [List.getElem_set_ne e]
      exact hs
theorem stab_within (rows : List (List Int)) (hw : ∀ r ∈ rows, r.length = 64) (k : Nat) (hk : k < rows.length) : withinv (stab rows) rows[k] := within_of fun i => stab_row rows hw k hk i
theorem within_refl (a : List Int) : withinv a a := fun i h1 h2 => Int.le_refl _
end Go.Proofs.Ytokcohepkajloaa
