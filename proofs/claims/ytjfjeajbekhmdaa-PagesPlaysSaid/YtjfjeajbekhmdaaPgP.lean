/- The document's device in memory: its small calls. -/
import Derived.Test.YtjfjeajbekhmdaaPgN
namespace Go.Proofs.Ytjfjeajbekhmdaa
open Go.RowKit Go.Maps
set_option linter.unusedVariables false
set_option linter.unusedSimpArgs false
/-- The document's device in memory: in block g; its three rows in blocks a, b, c. -/
structure Rf (w : World) (g a b c x y z n : Nat) (N H : List (List UInt8)) (I : List Bool) (left : Int) (off : Bool) : Prop where
  blk : w.heap[g]? = some (.cells #[.slice (some ⟨a, 0, none⟩) n x, .slice (some ⟨b, 0, none⟩) n y, .slice (some ⟨c, 0, none⟩) n z, .int .i64 left, .bool off] 64 (0, 0))
  rn : w.ownsRow 0 9 1 (.slice (some ⟨a, 0, none⟩) n x) n (N.map vs)
  rh : w.ownsRow 0 9 1 (.slice (some ⟨b, 0, none⟩) n y) n (H.map vs)
  ri : w.ownsRow 0 4 1 (.slice (some ⟨c, 0, none⟩) n z) n (I.map Value.bool)
  ga : g ≠ a
  gb : g ≠ b
  gc : g ≠ c
  ab : a ≠ b
  ac : a ≠ c
  bc : b ≠ c
section
variable {w w' : World} {g a b c x y z n : Nat} {N H : List (List UInt8)} {I : List Bool} {left : Int} {off : Bool}
theorem Rf.lt (h : Rf w g a b c x y z n N H I left off) : g < w.heap.size ∧ a < w.heap.size ∧ b < w.heap.size ∧ c < w.heap.size :=
  ⟨blk_lt h.blk, (World.ownsRow.lt h.rn a rfl).2, (World.ownsRow.lt h.rh b rfl).2, (World.ownsRow.lt h.ri c rfl).2⟩
theorem Rf.only {S : List Nat} (h : Rf w g a b c x y z n N H I left off) (ho : Only w w' S) (hg : g ∉ S) (ha : a ∉ S) (hb : b ∉ S) (hc : c ∉ S) : Rf w' g a b c x y z n N H I left off := by
  obtain ⟨l1, l2, l3, l4⟩ := h.lt
  exact ⟨(ho.block g l1 hg).trans h.blk, own_block h.rn (ho.block a l2 ha), own_block h.rh (ho.block b l3 hb), own_block h.ri (ho.block c l4 hc), h.ga, h.gb, h.gc, h.ab, h.ac, h.bc⟩
theorem Rf.below (h : Rf w g a b c x y z n N H I left off) (hb : Below w.heap.size w w') : Rf w' g a b c x y z n N H I left off :=
  h.only (.of_below hb []) List.not_mem_nil List.not_mem_nil List.not_mem_nil List.not_mem_nil
theorem Rf.head (h : Rf w g a b c x y z n N H I left off) (l2 : Int) (o2 : Bool) (ho : Only w w' [g])
    (hb : w'.heap[g]? = some (.cells #[.slice (some ⟨a, 0, none⟩) n x, .slice (some ⟨b, 0, none⟩) n y, .slice (some ⟨c, 0, none⟩) n z, .int .i64 l2, .bool o2] 64 (0, 0))) : Rf w' g a b c x y z n N H I l2 o2 := by
  obtain ⟨l1, k2, l3, l4⟩ := h.lt
  have n1 : a ∉ [g] := fun e => h.ga (List.mem_singleton.1 e).symm
  have n2 : b ∉ [g] := fun e => h.gb (List.mem_singleton.1 e).symm
  have n3 : c ∉ [g] := fun e => h.gc (List.mem_singleton.1 e).symm
  exact ⟨hb, own_block h.rn (ho.block a k2 n1), own_block h.rh (ho.block b l3 n2), own_block h.ri (ho.block c l4 n3), h.ga, h.gb, h.gc, h.ab, h.ac, h.bc⟩
theorem Rf.setLeft (h : Rf w g a b c x y z n N H I left off) (l2 : Int) : Rf (w.setCell ⟨g, 3, none⟩ (.int .i64 l2)) g a b c x y z n N H I l2 off ∧ Only w (w.setCell ⟨g, 3, none⟩ (.int .i64 l2)) [g] := by
  have ho := Only.of_grown (Lib.grownBy_setCell w g 3 (.int .i64 l2))
  exact ⟨h.head l2 off ho (by rw [heap_setCell_same w g 3 _ _ _ h.blk]; rfl), ho⟩
theorem Rf.setOff (h : Rf w g a b c x y z n N H I left off) (o2 : Bool) : Rf (w.setCell ⟨g, 4, none⟩ (.bool o2)) g a b c x y z n N H I left o2 ∧ Only w (w.setCell ⟨g, 4, none⟩ (.bool o2)) [g] := by
  have ho := Only.of_grown (Lib.grownBy_setCell w g 4 (.bool o2))
  exact ⟨h.head left o2 ho (by rw [heap_setCell_same w g 4 _ _ _ h.blk]; rfl), ho⟩
theorem Rf.setN (h : Rf w g a b c x y z n N H I left off) (i : Nat) (s : List UInt8) : Rf (w.setCell ⟨a, i, none⟩ (.string (str s))) g a b c x y z n (N.set i s) H I left off ∧ Only w (w.setCell ⟨a, i, none⟩ (.string (str s))) [a] := by
  obtain ⟨l1, l2, l3, l4⟩ := h.lt
  have ho := Only.of_grown (Lib.grownBy_setCell w a i (.string (str s)))
  have hr := (World.ownsRow.stored h.rn i (vs s)).1
  rw [← List.map_set] at hr
  exact ⟨⟨(ho.block g l1 (fun e => h.ga (List.mem_singleton.1 e))).trans h.blk, hr, own_block h.rh (ho.block b l3 (fun e => h.ab (List.mem_singleton.1 e).symm)), own_block h.ri (ho.block c l4 (fun e => h.ac (List.mem_singleton.1 e).symm)), h.ga, h.gb, h.gc, h.ab, h.ac, h.bc⟩, ho⟩
theorem Rf.setH (h : Rf w g a b c x y z n N H I left off) (i : Nat) (s : List UInt8) : Rf (w.setCell ⟨b, i, none⟩ (.string (str s))) g a b c x y z n N (H.set i s) I left off ∧ Only w (w.setCell ⟨b, i, none⟩ (.string (str s))) [b] := by
  obtain ⟨l1, l2, l3, l4⟩ := h.lt
  have ho := Only.of_grown (Lib.grownBy_setCell w b i (.string (str s)))
  have hr := (World.ownsRow.stored h.rh i (vs s)).1
  rw [← List.map_set] at hr
  exact ⟨⟨(ho.block g l1 (fun e => h.gb (List.mem_singleton.1 e))).trans h.blk, own_block h.rn (ho.block a l2 (fun e => h.ab (List.mem_singleton.1 e))), hr, own_block h.ri (ho.block c l4 (fun e => h.bc (List.mem_singleton.1 e).symm)), h.ga, h.gb, h.gc, h.ab, h.ac, h.bc⟩, ho⟩
theorem Rf.setI (h : Rf w g a b c x y z n N H I left off) (i : Nat) (s : Bool) : Rf (w.setCell ⟨c, i, none⟩ (.bool s)) g a b c x y z n N H (I.set i s) left off ∧ Only w (w.setCell ⟨c, i, none⟩ (.bool s)) [c] := by
  obtain ⟨l1, l2, l3, l4⟩ := h.lt
  have ho := Only.of_grown (Lib.grownBy_setCell w c i (.bool s))
  have hr := (World.ownsRow.stored h.ri i (.bool s)).1
  rw [← List.map_set] at hr
  exact ⟨⟨(ho.block g l1 (fun e => h.gc (List.mem_singleton.1 e))).trans h.blk, own_block h.rn (ho.block a l2 (fun e => h.ac (List.mem_singleton.1 e))), own_block h.rh (ho.block b l3 (fun e => h.bc (List.mem_singleton.1 e))), hr, h.ga, h.gb, h.gc, h.ab, h.ac, h.bc⟩, ho⟩
theorem Rf.c0 (h : Rf w g a b c x y z n N H I left off) : w.cell? ⟨g, 0, none⟩ = some (.slice (some ⟨a, 0, none⟩) n x) := blk_cell h.blk
theorem Rf.c1 (h : Rf w g a b c x y z n N H I left off) : w.cell? ⟨g, 1, none⟩ = some (.slice (some ⟨b, 0, none⟩) n y) := blk_cell h.blk
theorem Rf.c2 (h : Rf w g a b c x y z n N H I left off) : w.cell? ⟨g, 2, none⟩ = some (.slice (some ⟨c, 0, none⟩) n z) := blk_cell h.blk
theorem Rf.c3 (h : Rf w g a b c x y z n N H I left off) : w.cell? ⟨g, 3, none⟩ = some (.int .i64 left) := blk_cell h.blk
theorem Rf.c4 (h : Rf w g a b c x y z n N H I left off) : w.cell? ⟨g, 4, none⟩ = some (.bool off) := blk_cell h.blk
theorem Rf.f (h : Rf w g a b c x y z n N H I left off) (i : Nat) : w.frozen? ⟨g, i, none⟩ = false := blk_free h.blk
theorem Rf.nl (h : Rf w g a b c x y z n N H I left off) : N.length = n := by have := h.rn.1; rwa [List.length_map, Nat.mul_one] at this
theorem Rf.hl (h : Rf w g a b c x y z n N H I left off) : H.length = n := by have := h.rh.1; rwa [List.length_map, Nat.mul_one] at this
theorem Rf.il (h : Rf w g a b c x y z n N H I left off) : I.length = n := by have := h.ri.1; rwa [List.length_map, Nat.mul_one] at this
end
/-- What the document's device has in the place of ours. -/
def Dsk.leftI (d : Dsk) : Int := if d.bound then (d.left : Int) else -1
def Dsk.nows (d : Dsk) : List (List UInt8) := (List.range d.kept.length).map fun i => pad (d.now i)
def Dsk.hads (d : Dsk) : List (List UInt8) := (List.range d.kept.length).map fun i => pad (d.kept.getD i [])
def Dsk.iss (d : Dsk) : List Bool := (List.range d.kept.length).map fun i => (d.loose i).isSome
def RfAt (w : World) (g a b c x y z : Nat) (d : Dsk) : Prop := Rf w g a b c x y z d.kept.length d.nows d.hads d.iss d.leftI d.dead
theorem acted_nows (d : Dsk) : d.acted.nows = d.nows := by unfold Dsk.nows Dsk.now; rw [d.acted_kept, d.acted_loose]
theorem acted_hads (d : Dsk) : d.acted.hads = d.hads := by unfold Dsk.hads; rw [d.acted_kept]
theorem acted_iss (d : Dsk) : d.acted.iss = d.iss := by unfold Dsk.iss; rw [d.acted_kept, d.acted_loose]
set_option maxHeartbeats 1600000 in
theorem ract_any (g a b c x y z n : Nat) (N H : List (List UInt8)) (I : List Bool) (d : Dsk) (w : World) (h : Rf w g a b c x y z n N H I d.leftI d.dead) (hl : d.left < 9223372036854775808) :
    Calls Try.prog 35 #[.pointer (some ⟨g, 0, none⟩)] w fun e w' => e = .returned (.int .i64 d.actE) ∧ Rf w' g a b c x y z n N H I d.acted.leftI d.acted.dead ∧ Only w w' [g] := by
  have HR := Lib.hid h
  have k3 := h.c3
  have k4 := h.c4
  have f3 := h.f 3
  have f4 := h.f 4
  have HL := Lib.hid (fun l2 => h.setLeft l2)
  have HO := Lib.hid (fun o2 => h.setOff o2)
  clear h
  obtain ⟨bo, lf, de, K, L⟩ := d
  simp only [Dsk.leftI] at k3 k4 hl HR
  cases bo with
  | true =>
    simp only [if_true] at k3 HR
    by_cases h0 : lf = 0
    · subst h0
      go_enter Try.func35, Try.ntmps35
      go_wp2
      go_returns
      exact ⟨by simp [Dsk.actE, Dsk.stops], by simpa [Dsk.acted, Dsk.stops, Dsk.leftI] using (HO.out true).1, (HO.out true).2⟩
    · have hq : ((lf : Int) == 0) = false := by rw [beq_eq_false_iff_ne]; omega
      have hqn : (lf == 0) = false := by rw [beq_eq_false_iff_ne]; exact h0
      cases de with
      | true =>
        go_enter Try.func35, Try.ntmps35
        go_wp2
        go_returns
        exact ⟨by simp [Dsk.actE, Dsk.stops], by simpa [Dsk.acted, Dsk.stops, Dsk.leftI] using HR.out, Only.refl _ _⟩
      | false =>
        have hs : (lf : Int) - 1 = ((lf - 1 : Nat) : Int) := by omega
        have hg0 : decide ((lf : Int) > 0) = true := decide_eq_true (by omega)
        have hg1 : decide (0 < lf) = true := decide_eq_true (by omega)
        go_enter Try.func35, Try.ntmps35
        go_wp2
        go_returns
        exact ⟨by simp [Dsk.actE, Dsk.stops, hqn], by simpa [Dsk.acted, Dsk.stops, Dsk.leftI, hqn] using (HL.out ((lf - 1 : Nat) : Int)).1, (HL.out _).2⟩
  | false =>
    simp only [Bool.false_eq_true, if_false] at k3 HR
    cases de with
    | true =>
      go_enter Try.func35, Try.ntmps35
      go_wp2
      go_returns
      exact ⟨by simp [Dsk.actE, Dsk.stops], by simpa [Dsk.acted, Dsk.stops, Dsk.leftI] using HR.out, Only.refl _ _⟩
    | false =>
      go_enter Try.func35, Try.ntmps35
      go_wp2
      go_returns
      exact ⟨by simp [Dsk.actE, Dsk.stops], by simpa [Dsk.acted, Dsk.stops, Dsk.leftI] using HR.out, Only.refl _ _⟩
end Go.Proofs.Ytjfjeajbekhmdaa
