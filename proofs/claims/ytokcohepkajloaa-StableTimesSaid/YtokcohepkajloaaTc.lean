/- Dots compared. -/
import Derived.Test.YtokcohepkajloaaTb
import Derived.Test.YtokcohepkajloaaRow
import Derived.Deep.RegionHeld3
namespace Go.Proofs.Ytokcohepkajloaa
open Go.RowKit
set_option linter.unusedVariables false
set_option linter.unusedSimpArgs false
def dotv (d : Int × Int) : Value := .agg #[.int .i64 d.1, .int .i64 d.2]
def cmpDot (a b : Int × Int) : Int := orInt (cmpInt a.1 b.1) (cmpInt a.2 b.2)
set_option maxHeartbeats 1600000 in
theorem dcompare_any (a b : Int × Int) (w : World) :
    Calls Try.prog 29 #[dotv a, dotv b] w fun e w' => e = .returned (.int .i64 (cmpDot a b)) ∧ Below w.heap.size w w' := by
  obtain ⟨a1, a2⟩ := a
  obtain ⟨b1, b2⟩ := b
  have HO := Lib.hid (fun g w h0 h1 => or_any g (cmpInt a1 b1) (cmpInt a2 b2) w h0 h1)
  have HC := Lib.hid cmpc_any
  have hd : Hid (cmpDot (a1, a2) (b1, b2) = orInt (cmpInt a1 b1) (cmpInt a2 b2)) := rfl
  rw [hd.out]
  generalize orInt (cmpInt a1 b1) (cmpInt a2 b2) = z at HO
  unfold dotv
  go_enter Try.func29, Try.ntmps29
  go_wp2_with fail
  generalize hW : (w.alloc (.cells #[.int .i64 a1, .int .i64 a2] 48)).alloc (.cells #[.int .i64 b1, .int .i64 b2] 48) = W
  have c0 : W.cell? ⟨w.heap.size, 0, none⟩ = some (.int .i64 a1) := by subst hW; go_cell
  have c1 : W.cell? ⟨w.heap.size, 1, none⟩ = some (.int .i64 a2) := by subst hW; go_cell
  have c2 : W.cell? ⟨w.heap.size + 1, 0, none⟩ = some (.int .i64 b1) := by subst hW; go_cell
  have c3 : W.cell? ⟨w.heap.size + 1, 1, none⟩ = some (.int .i64 b2) := by subst hW; go_cell
  have hbW : Below w.heap.size w W := by subst hW; exact ((Below.refl _ _).alloc (Nat.le_refl _) _).alloc (by simp) _
  clear hW
  have lt0 : w.heap.size < W.heap.size := World.block_lt_of_cell? W _ c0
  have lt1 : w.heap.size + 1 < W.heap.size := World.block_lt_of_cell? W _ c2
  have d0 : ((W.alloc (.cells #[.int .i64 (cmpInt a1 b1), .int .i64 (cmpInt a2 b2)] 3)).drew).cell? ⟨w.heap.size, 0, none⟩ = some (.int .i64 a1) := by go_cell
  have d1 : ((W.alloc (.cells #[.int .i64 (cmpInt a1 b1), .int .i64 (cmpInt a2 b2)] 3)).drew).cell? ⟨w.heap.size, 1, none⟩ = some (.int .i64 a2) := by go_cell
  have d2 : ((W.alloc (.cells #[.int .i64 (cmpInt a1 b1), .int .i64 (cmpInt a2 b2)] 3)).drew).cell? ⟨w.heap.size + 1, 0, none⟩ = some (.int .i64 b1) := by go_cell
  have d3 : ((W.alloc (.cells #[.int .i64 (cmpInt a1 b1), .int .i64 (cmpInt a2 b2)] 3)).drew).cell? ⟨w.heap.size + 1, 1, none⟩ = some (.int .i64 b2) := by go_cell
  have HOW := Lib.hid (HO.out W.heap.size ((W.alloc (.cells #[.int .i64 (cmpInt a1 b1), .int .i64 (cmpInt a2 b2)] 3)).drew) (by go_cell) (by go_cell))
  go_region_held3 (fun w' => w'.cell? ⟨w.heap.size, 0, none⟩ = some (.int .i64 a1) ∧ w'.cell? ⟨w.heap.size, 1, none⟩ = some (.int .i64 a2) ∧ w'.cell? ⟨w.heap.size + 1, 0, none⟩ = some (.int .i64 b1) ∧ w'.cell? ⟨w.heap.size + 1, 1, none⟩ = some (.int .i64 b2)) (first | exact ⟨c0, c1, c2, c3⟩ | exact ⟨d0, d1, d2, d3⟩) (first
    | (go_at_call 28; refine (HC.out _ _ _).mono ?_; rintro e w' ⟨rfl, rfl⟩)
    | (go_at_call 27; refine HOW.out.mono ?_; rintro e w' ⟨rfl, rfl⟩))
  go_goals
  all_goals go_wp2
  all_goals go_ret
  all_goals exact ⟨rfl, (hbW.alloc hbW.size _).drew⟩
end Go.Proofs.Ytokcohepkajloaa
