/- stable.Compare. -/
import Derived.Test.YtokcohepkajloaaTe
namespace Go.Proofs.Ytokcohepkajloaa
open Go.RowKit
set_option linter.unusedVariables false
set_option linter.unusedSimpArgs false
theorem cell_alloc {w : World} {a : Addr} {v : Value} {o : Obj} (h : w.cell? a = some v) : (w.alloc o).cell? a = some v := by
  rw [((Below.refl _ w).alloc (Nat.le_refl _) o).cell (World.block_lt_of_cell? w _ h)]; exact h
set_option maxHeartbeats 1600000 in
theorem wcompare_any (a b : Wr) (w : World) :
    Calls Try.prog 20 #[wv a, wv b] w fun e w' => e = .returned (.int .i64 (cmpWr a b)) ∧ Below w.heap.size w w' := by
  obtain ⟨⟨a1, a2⟩, at', ad, af, ax⟩ := a
  obtain ⟨⟨b1, b2⟩, bt, bd, bf, bx⟩ := b
  have HO := Lib.hid (fun g w h0 h1 => or_any g (cmpInt at' bt) (cmpDot (a1, a2) (b1, b2)) w h0 h1)
  have HC := Lib.hid cmpc_any
  have HD := fun w => dcompare_any (a1, a2) (b1, b2) w
  unfold dotv at HD
  have HD := Lib.hid HD
  have hd : Hid (cmpWr ⟨(a1, a2), at', ad, af, ax⟩ ⟨(b1, b2), bt, bd, bf, bx⟩ = orInt (cmpInt at' bt) (cmpDot (a1, a2) (b1, b2))) := rfl
  rw [hd.out]
  generalize orInt (cmpInt at' bt) (cmpDot (a1, a2) (b1, b2)) = z at HO
  generalize cmpDot (a1, a2) (b1, b2) = y at HO HD
  unfold wv wcs
  go_enter Try.func20, Try.ntmps20
  go_wp2_with fail
  generalize hW : (w.alloc (.cells #[.int .i64 a1, .int .i64 a2, .int .i64 at', .string ad, .int .i64 af, .string ax] 50)).alloc (.cells #[.int .i64 b1, .int .i64 b2, .int .i64 bt, .string bd, .int .i64 bf, .string bx] 50) = W
  have c0 : W.cell? ⟨w.heap.size, 0, none⟩ = some (.int .i64 a1) := by subst hW; go_cell
  have c1 : W.cell? ⟨w.heap.size, 1, none⟩ = some (.int .i64 a2) := by subst hW; go_cell
  have c2 : W.cell? ⟨w.heap.size, 2, none⟩ = some (.int .i64 at') := by subst hW; go_cell
  have c3 : W.cell? ⟨w.heap.size + 1, 0, none⟩ = some (.int .i64 b1) := by subst hW; go_cell
  have c4 : W.cell? ⟨w.heap.size + 1, 1, none⟩ = some (.int .i64 b2) := by subst hW; go_cell
  have c5 : W.cell? ⟨w.heap.size + 1, 2, none⟩ = some (.int .i64 bt) := by subst hW; go_cell
  have hbW : Below w.heap.size w W := by subst hW; exact ((Below.refl _ _).alloc (Nat.le_refl _) _).alloc (by simp) _
  clear hW
  have lt0 : w.heap.size < W.heap.size := World.block_lt_of_cell? W _ c0
  have lt1 : w.heap.size + 1 < W.heap.size := World.block_lt_of_cell? W _ c3
  go_region_held3 (fun w' => w'.cell? ⟨w.heap.size, 0, none⟩ = some (.int .i64 a1) ∧ w'.cell? ⟨w.heap.size, 1, none⟩ = some (.int .i64 a2) ∧ w'.cell? ⟨w.heap.size, 2, none⟩ = some (.int .i64 at') ∧ w'.cell? ⟨w.heap.size + 1, 0, none⟩ = some (.int .i64 b1) ∧ w'.cell? ⟨w.heap.size + 1, 1, none⟩ = some (.int .i64 b2) ∧ w'.cell? ⟨w.heap.size + 1, 2, none⟩ = some (.int .i64 bt)) (first | exact ⟨c0, c1, c2, c3, c4, c5⟩ | exact ⟨e0, e1, e2, e3, e4, e5⟩ | exact ⟨cell_alloc e0, cell_alloc e1, cell_alloc e2, cell_alloc e3, cell_alloc e4, cell_alloc e5⟩) (first
    | (go_at_call 28; refine (HC.out _ _ _).mono ?_; rintro e w' ⟨rfl, rfl⟩)
    | (go_at_call 29; refine (HD.out _).mono ?_; rintro e w' ⟨rfl, hb⟩; have e0 := (hb.cell lt0).trans c0; have e1 := (hb.cell lt0).trans c1; have e2 := (hb.cell lt0).trans c2; have e3 := (hb.cell lt1).trans c3; have e4 := (hb.cell lt1).trans c4; have e5 := (hb.cell lt1).trans c5)
    | (go_at_call 27; refine (HO.out _ _ (by go_cell) (by go_cell)).mono ?_; rintro e w'' ⟨rfl, rfl⟩))

  all_goals go_wp2
  all_goals go_ret
  all_goals exact ⟨rfl, (hbW.drew.trans (hb.mono hbW.size)).alloc (Nat.le_trans hbW.size hb.size) _⟩
end Go.Proofs.Ytokcohepkajloaa
