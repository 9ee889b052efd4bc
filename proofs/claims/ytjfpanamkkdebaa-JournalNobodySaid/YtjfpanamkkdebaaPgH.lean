/- Contains; what a crash makes of the pages, one by one. -/
import Derived.Test.YtjfpanamkkdebaaPgG
namespace Go.Proofs.Ytjfpanamkkdebaa
open Go.RowKit
set_option linter.unusedVariables false
set_option maxRecDepth 100000
set_option linter.unusedSimpArgs false
/-- Where a number is first; -1: nowhere. -/
def findI (l : List Int) (x : Int) : Int := match l.findIdx? (· == x) with | some i => (i : Int) | none => -1
theorem findI_ge (l : List Int) (x : Int) : decide (findI l x ≥ 0) = decide (x ∈ l) := by
  unfold findI
  cases h : l.findIdx? (· == x) with
  | none =>
    rw [List.findIdx?_eq_none_iff] at h
    have hn : x ∉ l := fun hm => by have := h x hm; simp at this
    simp [hn]
  | some i =>
    obtain ⟨h1, h2, _⟩ := List.findIdx?_eq_some_iff_getElem.1 h
    have hm : x ∈ l := by
      have := beq_iff_eq.1 h2
      rw [← this]; exact List.getElem_mem h1
    simp [hm]
theorem findI_at {l : List Int} {x : Int} {j : Nat} (hj : j < l.length) (hx : l[j] = x) (hn : ∀ t, (h : t < j) → l[t]'(by omega) ≠ x) : findI l x = j := by
  have : l.findIdx? (· == x) = some j := List.findIdx?_eq_some_iff_getElem.2 ⟨hj, by simp [hx], fun t ht => by simpa using hn t ht⟩
  rw [findI, this]
theorem findI_no {l : List Int} {x : Int} (hn : ∀ t, (h : t < l.length) → l[t] ≠ x) : findI l x = -1 := by
  have : l.findIdx? (· == x) = none := List.findIdx?_eq_none_iff.2 fun y hy => by
    obtain ⟨t, ht, rfl⟩ := List.getElem_of_mem hy
    simpa using hn t ht
  rw [findI, this]
theorem index_any (A : Option Addr) (c : Nat) (l : List Int) (x : Int) (w : World) (hr : Lies w A (l.map (Value.int .i64))) (hm : l.length ≤ 9223372036854775807) :
    Calls Try.prog 66 #[.slice A l.length c, .int .i64 x] w fun e w' => e = .returned (.int .i64 (findI l x)) ∧ w = w' := by
  go_enter Try.func66, Try.ntmps66
  go_wp2
  go_loopg [8] l.length (fun r i wr => ∃ j : Nat, j + r = l.length ∧ i = .int .i64 j ∧ (∀ t, (h : t < j) → (h2 : t < l.length) → l[t] ≠ x) ∧ w = wr)
  case atStart => exact ⟨0, by omega, rfl, fun t h => absurd h (Nat.not_lt_zero _), rfl⟩
  case round =>
    obtain ⟨j, hj, rfl, hn, rfl⟩ := hrel
    by_cases hjk : j < l.length
    · obtain ⟨a, rfl, hc⟩ := hr.at (k := j) (by simpa using hjk)
      rw [List.getElem_map] at hc
      have hj0 : (0 : Int) ≤ (j : Int) := by omega
      have hj1 : ((j : Nat) : Int) < l.length := by omega
      by_cases hx : l[j] = x
      · have hf := findI_at hjk hx (fun t ht => hn t ht (by omega))
        rw [hx] at hc
        go_wp2
        go_returns
        exact ⟨by rw [hf]; rfl, rfl⟩
      · have hq : (x == l[j]) = false := by rw [beq_eq_false_iff_ne]; exact fun e => hx e.symm
        have hn2 : ∀ t, (h : t < j + 1) → (h2 : t < l.length) → l[t] ≠ x := by
          intro t ht h2
          by_cases e : t = j
          · subst e; exact hx
          · exact hn t (by omega) h2
        have hn2 := Lib.hid hn2
        clear hn hx
        generalize l[j] = y at hc hq
        go_wp2
        go_roundg (l.length - (j + 1))
        case measure => omega
        case rel => exact ⟨j + 1, by omega, by go_num, hn2.out, rfl⟩
    · obtain rfl : j = l.length := by omega
      have hf := findI_no (fun t ht => hn t ht ht)
      go_wp2
      go_returns
      exact ⟨by rw [hf]; rfl, rfl⟩
theorem contains_any (A : Option Addr) (c : Nat) (l : List Int) (x : Int) (w : World) (hr : Lies w A (l.map (Value.int .i64))) (hm : l.length ≤ 9223372036854775807) :
    Calls Try.prog 46 #[.slice A l.length c, .int .i64 x] w fun e w' => e = .returned (.bool (decide (x ∈ l))) ∧ w = w' := by
  have HI := Lib.hid (index_any A c l x w hr hm)
  rw [← findI_ge]
  go_enter Try.func46, Try.ntmps46
  go_wp2_with (go_at_call 66; refine HI.out.mono ?_; rintro e w' ⟨rfl, rfl⟩)
  go_returns
  exact ⟨rfl, rfl⟩
theorem looseN_nodup (L : Nat → Option (List UInt8)) (k : Nat) : (looseN L k).Nodup := by
  unfold looseN
  refine List.pairwise_map.2 ((List.nodup_range.filter _).imp fun {a b} h e => h ?_)
  omega
/-- The pages while a crash goes through those that were written. -/
def partly (d : Dsk) (keep : List Int) (torn : Int) (cut : Nat) (done : List Int) : List (List UInt8) :=
  (List.range d.kept.length).map fun i : Nat => if (i : Int) ∈ done then d.after keep torn cut i else d.kept.getD i []
theorem partly_length (d : Dsk) (keep : List Int) (torn : Int) (cut : Nat) (done : List Int) : (partly d keep torn cut done).length = d.kept.length := by simp [partly]
theorem partly_start (d : Dsk) (keep : List Int) (torn : Int) (cut : Nat) : partly d keep torn cut [] = d.kept := by
  refine List.ext_getElem (partly_length _ _ _ _ _) fun i h1 h2 => ?_
  simp only [partly, List.getElem_map, List.getElem_range, List.not_mem_nil, if_false]
  rw [List.getD_eq_getElem?_getD, List.getElem?_eq_getElem h2]; rfl
theorem partly_end (d : Dsk) (keep : List Int) (torn : Int) (cut : Nat) : partly d keep torn cut d.looseL = (List.range d.kept.length).map (d.after keep torn cut) := by
  refine List.ext_getElem (by simp [partly]) fun i h1 h2 => ?_
  have hi : i < d.kept.length := by simpa [partly] using h1
  simp only [partly, List.getElem_map, List.getElem_range]
  split
  · rfl
  · rename_i hn
    have : d.loose i = none := by
      cases e : d.loose i with
      | none => rfl
      | some s => exact absurd (List.mem_map.2 ⟨i, List.mem_filter.2 ⟨List.mem_range.2 hi, by simp [e]⟩, rfl⟩) hn
    simp [Dsk.after, this]
theorem partly_step (d : Dsk) (keep : List Int) (torn : Int) (cut : Nat) (done : List Int) (i : Nat) : partly d keep torn cut (done ++ [(i : Int)]) = (partly d keep torn cut done).set i (d.after keep torn cut i) := by
  refine List.ext_getElem (by simp [partly]) fun j h1 h2 => ?_
  by_cases e : i = j
  · subst e
    rw [List.getElem_set_self]
    simp [partly]
  · rw [List.getElem_set_ne e]
    have : ¬ (j : Int) = (i : Int) := fun e2 => e (by omega)
    simp [partly, List.mem_append, this]
theorem partly_at (d : Dsk) (keep : List Int) (torn : Int) (cut : Nat) (done : List Int) (i : Nat) (hi : i < d.kept.length) (hn : (i : Int) ∉ done) : (partly d keep torn cut done)[i]'(by rw [partly_length]; exact hi) = d.kept.getD i [] := by
  simp [partly, hn]
theorem partly_same (d : Dsk) (keep : List Int) (torn : Int) (cut : Nat) (done : List Int) (i : Nat) (hi : i < d.kept.length) (hn : (i : Int) ∉ done) (ha : d.after keep torn cut i = d.kept.getD i []) : partly d keep torn cut (done ++ [(i : Int)]) = partly d keep torn cut done := by
  rw [partly_step, ha, ← partly_at d keep torn cut done i hi hn, List.set_getElem_self]
theorem looseL_at {d : Dsk} {x : Int} (h : x ∈ d.looseL) : ∃ i : Nat, x = (i : Int) ∧ i < d.kept.length ∧ ∃ s, d.loose i = some s := by
  obtain ⟨i, hi, rfl⟩ := List.mem_map.1 h
  obtain ⟨h1, h2⟩ := List.mem_filter.1 hi
  exact ⟨i, rfl, List.mem_range.1 h1, Option.isSome_iff_exists.1 h2⟩
theorem not_taken {l : List Int} (h : l.Nodup) {j : Nat} (hj : j < l.length) : l[j] ∉ l.take j := by
  intro hm
  obtain ⟨t, ht, e⟩ := List.mem_take_iff_getElem.1 hm
  have := (List.pairwise_iff_getElem.1 h) t j (by omega) hj (by omega)
  exact this e
end Go.Proofs.Ytjfpanamkkdebaa
