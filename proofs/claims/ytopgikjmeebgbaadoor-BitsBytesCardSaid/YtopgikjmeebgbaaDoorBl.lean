/- A set and the document's, held against each other. -/
import Derived.Test.YtopgikjmeebgbaaDoorBk
import Derived.Deep.RegionLaw
namespace Go.Proofs.YtopgikjmeebgbaaDoor
open Go.RowKit
set_option linter.unusedVariables false
set_option linter.unusedSimpArgs false
/-- A set and the document's, of the same bits, in memory apart. -/
structure Pair (w : World) (g W gr R : Nat) (bs : List Bool) : Prop where
  set : SetAt w g W bs
  ref : RefAt w gr R bs
  lt : g < R
theorem Pair.below {w w' : World} {g W gr R : Nat} {bs : List Bool} (h : Pair w g W gr R bs) (hb : Below w.heap.size w w') : Pair w' g W gr R bs := ⟨h.set.below hb, h.ref.below hb, h.lt⟩
set_option maxHeartbeats 3200000 in
theorem same_any (g W gr R : Nat) (bs : List Bool) (w : World) (h : SetAt w g W bs) (h' : RefAt w gr R bs) (hT : Tab w) :
    Calls Tryd.prog 19 #[.pointer (some ⟨g, 0, none⟩), .pointer (some ⟨gr, 0, none⟩)] w fun e w' => e = .returned (.bool true) ∧ Below w.heap.size w w' := by
  have HSz := Lib.hid (fun (w' : World) (hb : Below w.heap.size w w') => size_any g W bs w' (h.below hb))
  have HLi : Hid (∀ (w' : World), Below w.heap.size w w' → Calls Tryd.prog 29 #[.pointer (some ⟨g, 0, none⟩)] w' fun e w'' => ∃ o, e = .returned o ∧ OI w'' w'.heap.size o (idx bs 0) ∧ Below w'.heap.size w' w'' ∧ Below w.heap.size w w'') :=
    fun w' hb => (list_any g W bs w' (h.below hb) (hT.below hb)).mono fun e w'' ⟨o, h1, h2, h3⟩ => ⟨o, h1, h2, h3, hb.trans (h3.mono hb.size)⟩
  have HRl : Hid (∀ (w' : World), Below w.heap.size w w' → Calls Tryd.prog 46 #[.pointer (some ⟨gr, 0, none⟩)] w' fun e w'' => ∃ o, e = .returned o ∧ OI w'' w'.heap.size o (idx bs 0) ∧ Below w'.heap.size w' w'' ∧ Below w.heap.size w w'') :=
    fun w' hb => (rlist_any gr R bs w' (h'.below hb)).mono fun e w'' ⟨o, h1, h2, h3⟩ => ⟨o, h1, h2, h3, hb.trans (h3.mono hb.size)⟩
  have HCn : Hid (∀ (w' : World), Below w.heap.size w w' → Calls Tryd.prog 12 #[.pointer (some ⟨g, 0, none⟩)] w' fun e w'' => e = .returned (.int .i64 (idx bs 0).length) ∧ Below w.heap.size w w'') :=
    fun w' hb => by rw [idx_length]; exact (count_any g W bs w' (h.below hb)).mono fun e w'' ⟨h1, h2⟩ => ⟨h1, hb.trans (h2.mono hb.size)⟩
  have hll : (idx bs 0).length ≤ 65536 := Nat.le_trans (idx_len_le bs 0) h.small
  generalize idx bs 0 = l at HLi HRl HCn hll
  have HEq : Hid (∀ (w' : World) (A B : Option Addr) (c d : Nat), Below w.heap.size w w' → l.length ≤ c → l.length ≤ d → Lies w' A (l.map (Value.int .i64)) → Lies w' B (l.map (Value.int .i64)) → Calls Tryd.prog 35 #[.slice A l.length c, .slice B l.length d] w' fun e w'' => e = .returned (.bool true) ∧ Below w.heap.size w w'') :=
    fun w' A B c d hb h1 h2 h3 h4 => (iequal_any A B c d l w' h1 h2 h3 h4 hll).mono fun e w'' ⟨k1, k2⟩ => ⟨k1, hb.trans (k2.mono hb.size)⟩
  have h0 : w.cell? ⟨gr, 0, none⟩ = some (.slice (some ⟨R, 0, none⟩) bs.length bs.length) := h'.c0
  have h0d : w.drew.cell? ⟨gr, 0, none⟩ = some (.slice (some ⟨R, 0, none⟩) bs.length bs.length) := h'.c0
  have hbd : Below w.heap.size w w.drew := (Below.refl _ _).drew
  clear h h' hT
  go_enter Tryd.func19, Tryd.ntmps19
  go_wp2_with fail
  go_region_law (first
    | (go_simp; go_at_call 11; refine (HSz.out _ (by assumption)).mono ?_; rintro e w' ⟨rfl, rfl⟩)
    | (go_simp; go_at_call 29; refine (HLi.out _ (by assumption)).mono ?_; rintro e wl ⟨o, rfl, hol, hbl, hbl0⟩; obtain ⟨A1, c1, rfl, hl1, hA1⟩ := hol.form; have r1 := Lies.of_own hol; try (have r2 := Lies.below r2 hbl))
    | (go_simp; go_at_call 46; refine (HRl.out _ (by assumption)).mono ?_; rintro e wk ⟨o, rfl, hok, hbk, hbk0⟩; obtain ⟨A2, c2, rfl, hl2, hA2⟩ := hok.form; have r2 := Lies.of_own hok; try (have r1 := Lies.below r1 hbk))
    | (go_simp; go_at_call 12; refine (HCn.out _ (by assumption)).mono ?_; rintro e wc ⟨rfl, hbc⟩)
    | (go_simp; go_at_call 35; refine (HEq.out _ _ _ _ _ (by assumption) hl1 hl2 r1 r2).mono ?_; rintro e we ⟨rfl, hbe⟩))
  go_goals
  all_goals go_wp2
  all_goals go_ret
  all_goals exact ⟨rfl, by assumption⟩
end Go.Proofs.YtopgikjmeebgbaaDoor
