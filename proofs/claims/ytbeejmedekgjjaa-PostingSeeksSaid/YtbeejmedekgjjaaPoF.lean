/- Postings' bytes: plain. -/
import Derived.Test.YtbeejmedekgjjaaPoE
namespace Go.Proofs.Ytbeejmedekgjjaa
open Go.RowKit
set_option linter.unusedVariables false
set_option linter.unusedSimpArgs false
/-- A run's bytes. -/
def runBytes : Int → List Post → List UInt8
  | _, [] => []
  | last, p :: t => postBytes last p ++ runBytes p.doc t
theorem runBytes_append : ∀ (l m : List Post) (last : Int), runBytes last (l ++ m) = runBytes last l ++ runBytes (lastD last l) m
  | [], m, last => rfl
  | p :: l, m, last => by rw [List.cons_append, runBytes, runBytes, runBytes_append l m, lastD_cons, List.append_assoc]
theorem runBytes_snoc (l : List Post) (p : Post) (last : Int) : runBytes last (l ++ [p]) = runBytes last l ++ postBytes (lastD last l) p := by
  rw [runBytes_append, runBytes, runBytes, List.append_nil]
theorem runBytes_le : ∀ (l : List Post) (last : Int), (∀ p ∈ l, fitsB p = true) → (runBytes last l).length ≤ 2250 * l.length
  | [], last, _ => by simp [runBytes]
  | p :: l, last, h => by
    rw [runBytes, List.length_append, List.length_cons]
    have h1 := postBytes_le (fitsB_fits (h p List.mem_cons_self)) last
    have h2 := runBytes_le l p.doc (fun q hq => h q (List.mem_cons_of_mem _ hq))
    omega
theorem lastD_bounds {last : Int} {l : List Post} (h : ∀ p ∈ l, fitsB p = true) (h0 : -1 ≤ last) (h1 : last ≤ 65535) : -1 ≤ lastD last l ∧ lastD last l ≤ 65535 := by
  unfold lastD
  cases hl : l.getLast? with
  | none => exact ⟨h0, h1⟩
  | some p =>
    have := fitsB_doc (h p (List.mem_of_getLast? hl))
    simp only [Option.map_some, Option.getD_some]
    omega
theorem chkFrom_fits : ∀ (l : List Post) (last : Int), chkFrom last l = true → (∀ p ∈ l, fitsB p = true) ∧ ((l.length : Int) ≤ max (65535 - last) 0)
  | [], last, _ => ⟨by simp, by simp; omega⟩
  | p :: l, last, h => by
    unfold chkFrom at h
    simp only [Bool.and_eq_true, decide_eq_true_eq] at h
    obtain ⟨h1, h2⟩ := chkFrom_fits l p.doc h.2
    have hd := fitsB_doc h.1.1
    refine ⟨fun q hq => ?_, ?_⟩
    · rcases List.mem_cons.1 hq with rfl | hq
      · exact h.1.1
      · exact h1 q hq
    · rw [List.length_cons]
      omega
theorem chkB_len {l : List Post} (h : chkB l = true) : l.length ≤ 65536 := by
  have := (chkFrom_fits l (-1) h).2
  omega
/-- What a run adds. -/
def chunkBytes (last : Int) (c : List Post) : List UInt8 := numBytes (numNat (lastD last c - last - 1)) ++ textBytes (runBytes last c)
def stepB (l : List Post) (s : Int × List UInt8) (i : Nat) : Int × List UInt8 := (lastD s.1 ((l.drop i).take 4), s.2 ++ chunkBytes s.1 ((l.drop i).take 4))
def foldB (l : List Post) (is : List Nat) : Int × List UInt8 := is.foldl (stepB l) (-1, numBytes l.length)
theorem foldB_snoc (l : List Post) (is : List Nat) (i : Nat) : foldB l (is ++ [i]) = stepB l (foldB l is) i := by simp [foldB]
theorem take_fits {l : List Post} (h : ∀ p ∈ l, fitsB p = true) (i : Nat) : ∀ p ∈ (l.drop i).take 4, fitsB p = true := fun p hp => h p (List.mem_of_mem_drop (List.mem_of_mem_take hp))
theorem chunkBytes_le {c : List Post} (h : ∀ p ∈ c, fitsB p = true) (hl : c.length ≤ 4) (last : Int) : (chunkBytes last c).length ≤ 9018 := by
  unfold chunkBytes textBytes
  rw [List.length_append, List.length_append]
  have h1 := numBytes_le (numNat (lastD last c - last - 1))
  have h2 := numBytes_le (runBytes last c).length
  have h3 := runBytes_le c last h
  omega
theorem foldB_bounds {l : List Post} (h : ∀ p ∈ l, fitsB p = true) (is : List Nat) : -1 ≤ (foldB l is).1 ∧ (foldB l is).1 ≤ 65535 ∧ (foldB l is).2.length ≤ 9 + 9018 * is.length := by
  suffices H : ∀ (is : List Nat) (s : Int × List UInt8) (n : Nat), -1 ≤ s.1 → s.1 ≤ 65535 → s.2.length ≤ n → -1 ≤ (is.foldl (stepB l) s).1 ∧ (is.foldl (stepB l) s).1 ≤ 65535 ∧ (is.foldl (stepB l) s).2.length ≤ n + 9018 * is.length by
    exact H is (-1, numBytes l.length) 9 (by simp) (by simp) (numBytes_le _)
  intro is
  induction is with
  | nil => intro s n h0 h1 h2; exact ⟨h0, h1, by simpa using h2⟩
  | cons i is ih =>
    intro s n h0 h1 h2
    obtain ⟨b1, b2⟩ := lastD_bounds (take_fits h i) h0 h1
    have b3 := chunkBytes_le (take_fits h i) (by rw [List.length_take]; omega) s.1
    have := ih (stepB l s i) (n + 9018) b1 b2 (by show (s.2 ++ _).length ≤ _; rw [List.length_append]; omega)
    rw [List.foldl_cons, List.length_cons]
    omega
/-- Where the first k chunks begin. -/
def starts (k : Nat) : List Nat := (List.range k).map (4 * ·)
theorem firstChunks_starts (n : Nat) : ∀ k h, (firstChunks n k h).map (·.1) = starts k
  | 0, _ => rfl
  | k + 1, h => by rw [firstChunks, List.map_append, firstChunks_starts n k]; simp [starts, List.range_succ]
/-- Postings as bytes. -/
def encB (l : List Post) : List UInt8 := (foldB l (starts ((l.length + 3) / 4))).2
theorem encB_of {l : List Post} {k : Nat} (h1 : 4 * k < l.length + 4) (h2 : l.length ≤ 4 * k) : (foldB l (starts k)).2 = encB l := by
  unfold encB
  rw [show (l.length + 3) / 4 = k by omega]
end Go.Proofs.Ytbeejmedekgjjaa
