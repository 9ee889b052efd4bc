/- A dictionary that is being built. -/
import Derived.Test.YtjmojfhkajknlaaDiB
import Derived.Test.YtjmojfhkajknlaaOne
import Derived.Deep.RegionLaw
namespace Go.Proofs.Ytjmojfhkajknlaa
open Go.RowKit
set_option linter.unusedVariables false
set_option linter.unusedSimpArgs false
theorem info_str : (Try.prog.info? 9).map (fun i => (i.zero, i.size, i.bytes)) = some (some (.string ByteArray.empty), 1, 16) := by kernel_rfl
/-- A word as the cell that holds it. -/
def vs (x : List UInt8) : Value := .string (str x)
theorem vs_by8 (s : ByteArray) : vs (by8 s) = .string s := by unfold vs; rw [str_by8]
/-- A slice value that owns a row of these texts. -/
def OS (w : World) (base : Nat) (v : Value) (l : List (List UInt8)) : Prop := w.ownsRow base 9 1 v l.length (l.map vs)
/-- A dictionary of these words in block g. -/
structure DAt (w : World) (g : Nat) (vH vB : Value) (l : List (List UInt8)) : Prop where
  blk : w.heap[g]? = some (.cells #[.int .i64 l.length, vH, vB] 51 (0, 0))
  heads : OS w (g + 1) vH (headsL l)
  blocks : OS w (g + 1) vB (blocksL l)
  apart : ∀ k, vH.ownBlock = some k → vB.ownBlock = some k → False
theorem far_of {v u : Option Nat} {g S : Nat} (h : v = some g ∨ S ≤ g) (hne : v = none ∨ v ≠ u) (ht : ∀ k, S ≤ k → some k ≠ u) : some g ≠ u := by
  rcases h with e | e
  · rw [← e]; exact hne.elim (fun e2 => by rw [e] at e2; cases e2) id
  · exact ht _ e
theorem gs_ne {a b : Option Nat} {gH gB L S T : Nat} (h1 : a = some gH ∨ S ≤ gH) (h2 : b = some gB ∨ T ≤ gB) (hl : gH < T) (hb : ∀ k, b = some k → L ≤ k ∧ k < S) (hap : ∀ k, a = some k → b = some k → False) : gH ≠ gB := by
  rintro rfl
  rcases h2 with e2 | e2
  · have := hb _ e2
    rcases h1 with e1 | e1
    · exact hap _ e1 e2
    · omega
  · omega
theorem dat_new {w wB : World} {g gH gB cH cB : Nat} {l : List (List UInt8)} {s : ByteArray} {vH vB : Value} (hl : l.length % 4 = 0)
    (blk : wB.heap[g]? = some (.cells #[.int .i64 ((l.length : Int) + 1), vH, vB] 51 (0, 0)))
    (oH : wB.ownsRow (g + 1) 9 1 (.slice (some ⟨gH, 0, none⟩) ((headsL l).length + 1) cH) ((headsL l).length + 1) ((headsL l).map vs ++ [.string s]))
    (oB : wB.ownsRow (g + 1) 9 1 (.slice (some ⟨gB, 0, none⟩) ((blocksL l).length + 1) cB) ((blocksL l).length + 1) ((blocksL l).map vs ++ [.string ⟨#[]⟩])) (hne : gH ≠ gB) (hb : Below g w wB) :
    DAt ((wB.setCell ⟨g, 1, none⟩ (.slice (some ⟨gH, 0, none⟩) ((headsL l).length + 1) cH)).setCell ⟨g, 2, none⟩ (.slice (some ⟨gB, 0, none⟩) ((blocksL l).length + 1) cB)) g (.slice (some ⟨gH, 0, none⟩) ((headsL l).length + 1) cH) (.slice (some ⟨gB, 0, none⟩) ((blocksL l).length + 1) cB) (l ++ [by8 s]) ∧
      Below g w ((wB.setCell ⟨g, 1, none⟩ (.slice (some ⟨gH, 0, none⟩) ((headsL l).length + 1) cH)).setCell ⟨g, 2, none⟩ (.slice (some ⟨gB, 0, none⟩) ((blocksL l).length + 1) cB)) := by
  have hgg := Lib.grownBy_trans (Lib.grownBy_setCell wB g 1 (.slice (some ⟨gH, 0, none⟩) ((headsL l).length + 1) cH)) (Lib.grownBy_setCell _ g 2 (.slice (some ⟨gB, 0, none⟩) ((blocksL l).length + 1) cB))
  have lH := (World.ownsRow.lt oH gH rfl).1
  have lB := (World.ownsRow.lt oB gB rfl).1
  refine ⟨⟨?_, ?_, ?_, ?_⟩, (hb.setCell (p := ⟨g, 1, none⟩) (Nat.le_refl _) _).setCell (p := ⟨g, 2, none⟩) (Nat.le_refl _) _⟩
  · rw [heap_setCell_same _ g 2 _ _ _ (heap_setCell_same wB g 1 _ _ _ blk)]
    simp
  · have := World.ownsRow.kept oH hgg (.inr (fun e => by injection e with e; simp only at e; omega))
    unfold OS
    rw [heads_new l _ hl, List.map_append, List.length_append]
    simpa [vs_by8] using this
  · have := World.ownsRow.kept oB hgg (.inr (fun e => by injection e with e; simp only at e; omega))
    unfold OS
    rw [blocks_new l _ hl, List.map_append, List.length_append]
    simpa [vs, str] using this
  · intro k e1 e2
    injection e1 with e1
    injection e2 with e2
    simp only at e1 e2
    omega
end Go.Proofs.Ytjmojfhkajknlaa
