/- One that goes through postings: plain, and in memory. -/
import Derived.Test.YtbeejmedekgjjaaPoH
import Derived.Test.YtbeejmedekgjjaaPoC
namespace Go.Proofs.Ytbeejmedekgjjaa
open Go.RowKit
set_option linter.unusedVariables false
set_option linter.unusedSimpArgs false
structure It where
  runs : Option (List UInt8)
  run : Option (List UInt8)
  left : Nat
  inn : Nat
  last : Int
  top : Int
  bad : Bool
def It.turn (t : It) : It :=
  { runs := (textS 65536 (numS (65534 - t.top) t.runs).2).2, run := some (textS 65536 (numS (65534 - t.top) t.runs).2).1, left := t.left, inn := min t.left 4, last := t.top, top := t.top + (1 + (numS (65534 - t.top) t.runs).1), bad := !(textS 65536 (numS (65534 - t.top) t.runs).2).2.isSome }
def It.skip (t : It) : It := { t with left := t.left - t.inn, inn := 0, last := t.top, run := some [] }
def spotsS : Nat → Option (List UInt8) → List Spt × Option (List UInt8)
  | 0, o => ([], o)
  | n + 1, o => if o.isSome then (((numS 4 o).1, (risingS 60 59 (numS 4 o).2).1) :: (spotsS n (risingS 60 59 (numS 4 o).2).2).1, (spotsS n (risingS 60 59 (numS 4 o).2).2).2) else ([], o)
/-- What is read of a posting: it, and the reader behind it. -/
def postS (last : Int) (o : Option (List UInt8)) : Post × Option (List UInt8) :=
  (⟨last + 1 + (numS (65534 - last) o).1, (spotsS (numS 4 (numS (65534 - last) o).2).1 (numS 4 (numS (65534 - last) o).2).2).1⟩, (spotsS (numS 4 (numS (65534 - last) o).2).1 (numS 4 (numS (65534 - last) o).2).2).2)
def It.fails (t : It) : Bool :=
  !(postS t.last t.run).2.isSome || (decide (t.inn = 1) && (!overS (postS t.last t.run).2 || decide ((postS t.last t.run).1.doc ≠ t.top))) || !fitsB (postS t.last t.run).1 || decide ((postS t.last t.run).1.doc > t.top)
def It.after (t : It) : It := { t with run := (postS t.last t.run).2, left := t.left - 1, inn := t.inn - 1, last := (postS t.last t.run).1.doc, bad := t.bad || t.fails }
def It.alive (t : It) : Bool := !t.bad && t.runs.isSome && decide (0 < t.left)
def It.isBad (t : It) : Bool := t.bad || !t.runs.isSome || (decide (t.left = 0) && !overS t.runs)
/-- The state in which a posting is read. -/
def It.ready (t : It) : It := if t.inn = 0 then t.turn else t
def It.nextIt (t : It) : It := if t.alive then (if t.ready.bad then t.ready else t.ready.after) else t
def It.nextP (t : It) : Option Post := if t.alive then (if t.ready.bad then none else if t.ready.fails then none else some (postS t.ready.last t.ready.run).1) else none
structure It.Ok (t : It) : Prop where
  i4 : t.inn ≤ 4
  il : t.inn ≤ t.left
  l : t.left ≤ 65536
  a0 : -1 ≤ t.last
  a1 : t.last ≤ 65536
  t0 : -1 ≤ t.top
  t1 : t.top ≤ 65536
  b : t.bad = false → t.top ≤ 65535 ∧ t.last ≤ 65535
  g : OLen t.runs
  r : OLen t.run
theorem numS_le (most : Int) (o : Option (List UInt8)) : ((numS most o).1 : Int) ≤ max most 0 := by
  cases o with
  | none => simp [numS]; omega
  | some bs =>
    cases hn : numP most bs with
    | ok x r => rw [numS_ok hn]; have := (numP_ok hn).2.1; simp only; omega
    | no e => rw [numS_no hn]; simp; omega
theorem textS_small (o : Option (List UInt8)) : (textS 65536 o).1.length ≤ 65536 := by
  have h := numS_le 65536 o
  unfold textS
  cases hn : numS 65536 o with
  | mk n o1 =>
    rw [hn] at h
    cases o1 with
    | none => simp
    | some r =>
      simp only
      split
      · simp
      · simp only [List.length_take]
        have h' : (n : Int) ≤ max 65536 0 := h
        omega
theorem numS_some {most : Int} {o : Option (List UInt8)} (h : (numS most o).2.isSome = true) : ((numS most o).1 : Int) ≤ most := by
  cases o with
  | none => simp [numS] at h
  | some bs =>
    cases hn : numP most bs with
    | ok x r => rw [numS_ok hn]; exact (numP_ok hn).2.1
    | no e => rw [numS_no hn] at h; simp at h
theorem textS_some {o : Option (List UInt8)} (h : (textS 65536 o).2.isSome = true) : o.isSome = true := by
  cases o with
  | none => simp [textS, numS] at h
  | some bs => rfl
theorem risingS_some {m t : Int} {o : Option (List UInt8)} (h : (risingS m t o).2.isSome = true) : o.isSome = true := by
  cases o with
  | none => simp [risingS] at h
  | some bs => rfl
theorem numS_isSome {m : Int} {o : Option (List UInt8)} (h : (numS m o).2.isSome = true) : o.isSome = true := by
  cases o with
  | none => simp [numS] at h
  | some bs => rfl
theorem It.Ok.turn {t : It} (h : t.Ok) (hb : t.bad = false) : t.turn.Ok := by
  have h1 := numS_le (65534 - t.top) t.runs
  have h2 := h.t0
  have h3 := (h.b hb).1
  refine ⟨?_, ?_, h.l, h.t0, h.t1, ?_, ?_, fun hb' => ⟨?_, h3⟩, textS_len (numS_len h.g), ?_⟩
  · show min t.left 4 ≤ 4; omega
  · show min t.left 4 ≤ t.left; omega
  · show -1 ≤ t.top + (1 + ((numS (65534 - t.top) t.runs).1 : Int)); omega
  · show t.top + (1 + ((numS (65534 - t.top) t.runs).1 : Int)) ≤ 65536; omega
  · have hs : (textS 65536 (numS (65534 - t.top) t.runs).2).2.isSome = true := by
      have : (!(textS 65536 (numS (65534 - t.top) t.runs).2).2.isSome) = false := hb'
      simpa using this
    have := numS_some (textS_some hs)
    show t.top + (1 + ((numS (65534 - t.top) t.runs).1 : Int)) ≤ 65535
    omega
  · intro bs hb
    cases hb
    have := textS_small (numS (65534 - t.top) t.runs).2
    omega
theorem It.Ok.skip {t : It} (h : t.Ok) : t.skip.Ok := by
  refine ⟨by show (0:Nat) ≤ 4; omega, by show (0:Nat) ≤ _; omega, ?_, h.t0, h.t1, h.t0, h.t1, fun hb => ⟨(h.b hb).1, (h.b hb).1⟩, h.g, fun bs hb => by cases hb; simp⟩
  have := h.l
  show t.left - t.inn ≤ 65536
  omega
theorem spotsS_len : ∀ (n : Nat) (o : Option (List UInt8)), OLen o → OLen (spotsS n o).2
  | 0, o, h => h
  | n + 1, o, h => by
    unfold spotsS
    split
    · exact spotsS_len n _ (risingS_len (numS_len h))
    · exact h
theorem postS_len {last : Int} {o : Option (List UInt8)} (h : OLen o) : OLen (postS last o).2 := spotsS_len _ _ (numS_len (numS_len h))
theorem postS_doc {last : Int} {o : Option (List UInt8)} (h0 : -1 ≤ last) (h1 : last ≤ 65535) : -1 ≤ (postS last o).1.doc ∧ (postS last o).1.doc ≤ 65536 := by
  have := numS_le (65534 - last) o
  show -1 ≤ last + 1 + ((numS (65534 - last) o).1 : Int) ∧ last + 1 + ((numS (65534 - last) o).1 : Int) ≤ 65536
  omega
theorem It.fails_not {t : It} (h : t.fails = false) : (postS t.last t.run).2.isSome = true ∧ fitsB (postS t.last t.run).1 = true ∧ (postS t.last t.run).1.doc ≤ t.top := by
  unfold It.fails at h
  simp only [Bool.or_eq_false_iff, Bool.not_eq_false', decide_eq_false_iff_not] at h
  exact ⟨h.1.1.1, h.1.2, by omega⟩
theorem It.Ok.after {t : It} (h : t.Ok) (hb : t.bad = false) (hi : 0 < t.inn) : t.after.Ok := by
  have h1 := postS_doc (o := t.run) h.a0 (h.b hb).2
  have h2 := h.i4
  have h3 := h.il
  have h4 := h.l
  refine ⟨?_, ?_, ?_, h1.1, h1.2, h.t0, h.t1, fun hb' => ⟨(h.b hb).1, ?_⟩, h.g, postS_len h.r⟩
  · show t.inn - 1 ≤ 4; omega
  · show t.inn - 1 ≤ t.left - 1; omega
  · show t.left - 1 ≤ 65536; omega
  · have hf : (t.bad || t.fails) = false := hb'
    rw [hb, Bool.false_or] at hf
    have := fitsB_doc (It.fails_not hf).2.1
    show (postS t.last t.run).1.doc ≤ 65535
    omega
end Go.Proofs.Ytbeejmedekgjjaa
