/- The walk of add where a block begins. -/
import Derived.Test.YtjmojfhkajknlaaDiC
namespace Go.Proofs.Ytjmojfhkajknlaa
open Go.RowKit
set_option linter.unusedVariables false
set_option linter.unusedSimpArgs false
set_option maxHeartbeats 16000000 in
set_option maxRecDepth 100000 in
theorem add_new (g : Nat) (vH vB : Value) (l : List (List UInt8)) (s last : ByteArray) (w : World) (h : DAt w g vH vB l) (hl : l.length % 4 = 0) (hm : l.length < 16384) :
    Calls Try.prog 25 #[.pointer (some ⟨g, 0, none⟩), .string s, .string last, .int .i64 l.length] w fun e w' => e = .returned (.tuple #[]) ∧ ∃ vH' vB', DAt w' g vH' vB' (l ++ [by8 s]) ∧ Below g w w' := by
  have HML : Hid (maxLen = 9223372036854775807) := rfl
  obtain ⟨hb, hH, hB, hap⟩ := h
  have k0 : w.cell? ⟨g, 0, none⟩ = some (.int .i64 l.length) := blk_cell hb
  have f0 : w.frozen? ⟨g, 0, none⟩ = false := blk_free hb
  have hwr : IntKind.i64.wrap ((l.length : Int) + 1) = (l.length : Int) + 1 := by rw [IntKind.wrap_i64]; omega
  have hq : (((l.length : Int) % 4) == 0) = true := by rw [beq_iff_eq]; omega
  go_enter Try.func25, Try.ntmps25
  go_wp2_with fail
  have blk0 : (w.setCell ⟨g, 0, none⟩ (.int .i64 ((l.length : Int) + 1))).drew.heap[g]? = some (.cells #[.int .i64 ((l.length : Int) + 1), vH, vB] 51 (0, 0)) := by
    show (w.setCell _ _).heap[g]? = _
    rw [heap_setCell_same w g 0 _ _ _ hb]; rfl
  have hg0 := Lib.grownBy_setCell w g 0 (.int .i64 ((l.length : Int) + 1))
  have oH : OS (w.setCell ⟨g, 0, none⟩ (.int .i64 ((l.length : Int) + 1))) (g + 1) vH (headsL l) := World.ownsRow.kept hH hg0 (by
    cases hv : vH.ownBlock with
    | none => exact .inl rfl
    | some k => exact .inr (fun e => by have := (World.ownsRow.lt hH k hv).1; injection e; omega))
  have oB : OS (w.setCell ⟨g, 0, none⟩ (.int .i64 ((l.length : Int) + 1))) (g + 1) vB (blocksL l) := World.ownsRow.kept hB hg0 (by
    cases hv : vB.ownBlock with
    | none => exact .inl rfl
    | some k => exact .inr (fun e => by have := (World.ownsRow.lt hB k hv).1; injection e; omega))
  have bel : Below g w (w.setCell ⟨g, 0, none⟩ (.int .i64 ((l.length : Int) + 1))).drew := ((Below.refl _ _).setCell (p := ⟨g, 0, none⟩) (Nat.le_refl _) _).drew
  clear hb hH hB hg0 k0 f0
  generalize w.setCell ⟨g, 0, none⟩ (.int .i64 ((l.length : Int) + 1)) = W at blk0 oH oB bel ⊢
  have k1 : W.cell? ⟨g, 1, none⟩ = some vH := blk_cell (w := W) blk0
  have k2 : W.cell? ⟨g, 2, none⟩ = some vB := blk_cell (w := W) blk0
  have f1 : W.frozen? ⟨g, 1, none⟩ = false := blk_free (w := W) blk0
  have f2 : W.frozen? ⟨g, 2, none⟩ = false := blk_free (w := W) blk0
  have hHl : (headsL l).length ≤ 16384 := by rw [headsL_length]; unfold nblk; omega
  have hBl : (blocksL l).length ≤ 16384 := by rw [blocksL_length]; unfold nblk; omega
  have hgW : g < W.heap.size := blk_lt blk0
  have hgs : g + 1 ≤ W.heap.size := hgW
  have HbH : Hid (∀ k, vH.ownBlock = some k → g + 1 ≤ k ∧ k < W.heap.size) := World.ownsRow.lt oH
  have HbB : Hid (∀ k, vB.ownBlock = some k → g + 1 ≤ k ∧ k < W.heap.size) := World.ownsRow.lt oB
  have neH : some g ≠ vH.ownBlock := fun e => by have := (HbH.out g e.symm).1; omega
  have neB : some g ≠ vB.ownBlock := fun e => by have := (HbB.out g e.symm).1; omega
  have toH : ∀ k, W.heap.size ≤ k → some k ≠ vH.ownBlock := fun k hk e => by have := (HbH.out k e.symm).2; omega
  have toB : ∀ k, W.heap.size ≤ k → some k ≠ vB.ownBlock := fun k hk e => by have := (HbB.out k e.symm).2; omega
  have ToH := Lib.hid toH
  have ToB := Lib.hid toB
  have HneH : Hid (vH.ownBlock = none ∨ vH.ownBlock ≠ vB.ownBlock) := by
    show _ ∨ _
    cases e : vH.ownBlock with
    | none => exact .inl rfl
    | some k => exact .inr (fun e2 => hap k e e2.symm)
  have HneB : Hid (vB.ownBlock = none ∨ vB.ownBlock ≠ vH.ownBlock) := by
    show _ ∨ _
    cases e : vB.ownBlock with
    | none => exact .inl rfl
    | some k => exact .inr (fun e2 => hap k e2.symm e)
  have Hap := Lib.hid hap
  have oH := Lib.hid (show OS W.drew (g + 1) vH (headsL l) from oH)
  have oB := Lib.hid (show OS W.drew (g + 1) vB (blocksL l) from oB)
  have blk := Lib.hid blk0
  have Bel := Lib.hid bel
  clear blk0 bel hap toH toB
  have h63H : (headsL l).length + 1 ≤ maxLen := by rw [HML.out]; omega
  have h63B : (blocksL l).length + 1 ≤ maxLen := by rw [HML.out]; omega
  have hbyH : ((headsL l).length + 1) * 16 ≤ 140737488355328 := by omega
  have hbyB : ((blocksL l).length + 1) * 16 ≤ 140737488355328 := by omega
  go_region_law (first
    | (refine step_one rfl (.tmp 25) (.tmp 27) 22 rfl (g + 1) 9 _ 16 Try.underlying22 info_str rfl vH (headsL l).length ((headsL l).map vs) (by rfl) (by first | exact oH.out | exact World.ownsRow.alloc oH.out _ | exact World.ownsRow.alloc (World.ownsRow.alloc oH.out _) _) _ (.string s) (by rfl) (by first | exact tmp_here _ _ _ | exact tmp_under _ _ _ _ | exact tmp_next _ _ _ _ | assumption) rfl h63H hbyH (blk_lt (by first | exact blk.out | exact blk_alloc blk.out | exact blk_alloc (blk_alloc blk.out))) ?_
       intro gH cH wH hownH hgrH hatH hltH
       have Bel := Lib.hid (Below.grown (by first | exact Bel.out | exact Bel.out.alloc (Nat.le_of_lt (blk_lt blk.out)) _ | exact (Bel.out.alloc (Nat.le_of_lt (blk_lt blk.out)) _).alloc (Nat.le_of_lt (blk_lt (blk_alloc blk.out))) _) hgrH (Nat.le_of_lt (blk_lt (by first | exact blk.out | exact blk_alloc blk.out | exact blk_alloc (blk_alloc blk.out)))) (fun k hk => Nat.le_of_succ_le (HbH.out k hk).1))
       have oB := Lib.hid (World.ownsRow.kept (by first | exact oB.out | exact World.ownsRow.alloc oB.out _ | exact World.ownsRow.alloc (World.ownsRow.alloc oB.out _) _) hgrH HneB.out)
       have HgH : Hid (vH.ownBlock = some gH ∨ W.heap.size ≤ gH) := hatH.imp id (fun e => by rw [e]; first | exact size_alloc_le _ _ | exact size_alloc_le2 _ _ _)
       first
         | refine (fun (tB1 : wH.cell? ⟨W.heap.size, 0, none⟩ = some (.string ⟨#[]⟩)) => ?_) (hgrH.cell (tmp_under _ _ _ _) (ToH.out _ (Nat.le_refl _)))
         | refine (fun (tB2 : wH.cell? ⟨W.heap.size + 1, 0, none⟩ = some (.string ⟨#[]⟩)) => ?_) (hgrH.cell (tmp_next _ _ _ _) (ToH.out _ (Nat.le_succ _)))
         | skip
       have oHn := Lib.hid hownH
       have blk := Lib.hid ((hgrH.block g (blk_lt (by first | exact blk.out | exact blk_alloc blk.out | exact blk_alloc (blk_alloc blk.out))) neH).trans (by first | exact blk.out | exact blk_alloc blk.out | exact blk_alloc (blk_alloc blk.out)))
       have hlH : g < wH.heap.size := blk_lt blk.out
       have k1 : wH.cell? ⟨g, 1, none⟩ = some vH := blk_cell blk.out
       have k2 : wH.cell? ⟨g, 2, none⟩ = some vB := blk_cell blk.out
       have f1 : wH.frozen? ⟨g, 1, none⟩ = false := blk_free blk.out
       have f2 : wH.frozen? ⟨g, 2, none⟩ = false := blk_free blk.out
       clear hgrH hatH hownH)
    | (refine step_one rfl (.tmp 32) (.tmp 33) 22 rfl (g + 1) 9 _ 16 Try.underlying22 info_str rfl vB (blocksL l).length ((blocksL l).map vs) (by rfl) (by first | exact oB.out | exact World.ownsRow.alloc oB.out _ | exact World.ownsRow.alloc (World.ownsRow.alloc oB.out _) _) _ (.string ⟨#[]⟩) (by rfl) (by first | exact tmp_here _ _ _ | exact tmp_under _ _ _ _ | exact tmp_next _ _ _ _ | assumption) rfl h63B hbyB (blk_lt (by first | exact blk.out | exact blk_alloc blk.out | exact blk_alloc (blk_alloc blk.out))) ?_
       intro gB cB wB hownB hgrB hatB hltB
       have Bel := Lib.hid (Below.grown (by first | exact Bel.out | exact Bel.out.alloc (Nat.le_of_lt (blk_lt blk.out)) _ | exact (Bel.out.alloc (Nat.le_of_lt (blk_lt blk.out)) _).alloc (Nat.le_of_lt (blk_lt (blk_alloc blk.out))) _) hgrB (Nat.le_of_lt (blk_lt (by first | exact blk.out | exact blk_alloc blk.out | exact blk_alloc (blk_alloc blk.out)))) (fun k hk => Nat.le_of_succ_le (HbB.out k hk).1))
       have HgB : Hid (vB.ownBlock = some gB ∨ wH.heap.size ≤ gB) := hatB.imp id (fun e => by rw [e]; first | exact Nat.le_refl _ | exact size_alloc_le _ _ | exact size_alloc_le2 _ _ _)
       have oHn := Lib.hid (World.ownsRow.kept (v := .slice (some ⟨gH, 0, none⟩) ((headsL l).length + 1) cH) (by first | exact oHn.out | exact World.ownsRow.alloc oHn.out _ | exact World.ownsRow.alloc (World.ownsRow.alloc oHn.out _) _) hgrB (Or.inr (far_of HgH.out HneH.out ToB.out)))
       have oBn := Lib.hid hownB
       have blk := Lib.hid ((hgrB.block g (blk_lt (by first | exact blk.out | exact blk_alloc blk.out | exact blk_alloc (blk_alloc blk.out))) neB).trans (by first | exact blk.out | exact blk_alloc blk.out | exact blk_alloc (blk_alloc blk.out)))
       have hlB : g < wB.heap.size := blk_lt blk.out
       have k1 : wB.cell? ⟨g, 1, none⟩ = some vH := blk_cell blk.out
       have k2 : wB.cell? ⟨g, 2, none⟩ = some vB := blk_cell blk.out
       have f1 : wB.frozen? ⟨g, 1, none⟩ = false := blk_free blk.out
       have f2 : wB.frozen? ⟨g, 2, none⟩ = false := blk_free blk.out
       clear hgrB hatB hownB))
  all_goals
    have hne := gs_ne HgH.out HgB.out hltH HbB.out Hap.out
    have hD := Lib.hid (dat_new (w := w) (s := s) hl blk.out oHn.out oBn.out hne Bel.out)
    clear hne
    go_wp2
    go_returns
    exact ⟨rfl, _, _, hD.out.1, hD.out.2⟩
end Go.Proofs.Ytjmojfhkajknlaa
