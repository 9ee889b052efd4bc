/- Within: dots' and the document's, whatever it answers. -/
import Derived.Test.YtokcohepkajloaaRa
namespace Go.Proofs.Ytokcohepkajloaa
open Go.RowKit
set_option linter.unusedVariables false
set_option linter.unusedSimpArgs false
def inb (a b : List Int) : Bool := joinv a b == b
theorem inb_true {a b : List Int} (ha : a.length = 64) (hb : b.length = 64) (h : withinv a b) : inb a b = true := by
  refine beq_iff_eq.2 (List.ext_getElem (by rw [joinv_length ha hb, hb]) fun i h1 h2 => ?_)
  have := h i (by omega) h2
  simp only [joinv, List.getElem_zipWith]
  omega
theorem inb_false {a b : List Int} (ha : a.length = 64) (hb : b.length = 64) {j : Nat} (h1 : j < a.length) (h2 : j < b.length) (h : b[j] < a[j]) : inb a b = false := by
  refine beq_eq_false_iff_ne.2 fun he => ?_
  have h3 : j < (joinv a b).length := by rw [joinv_length ha hb]; omega
  have e : (joinv a b)[j] = max a[j] b[j] := by simp only [joinv, List.getElem_zipWith]
  have e2 : (joinv a b)[j] = b[j] := by simp only [he]
  omega
set_option maxHeartbeats 1600000 in
theorem rwithin_false (a b : List Int) (w : World) (ha : a.length = 64) (hb : b.length = 64) (j0 : Nat) (k1 : j0 < a.length) (k2 : j0 < b.length) (h : b[j0] < a[j0]) :
    Calls Try.prog 10 #[vv a, vv b] w fun e w' => e = .returned (.bool false) ∧ Below w.heap.size w w' := by
  have hia := Lib.hid (info_row ha)
  have HA := Lib.hid ha
  have HB := Lib.hid hb
  have HW := Lib.hid h
  go_enter Try.func10, Try.ntmps10
  unfold vv
  go_upto_region 1 with fail
  have hbW : Below w.heap.size w ((w.alloc (.cells (ic a).toArray 27)).alloc (.cells (ic b).toArray 27)) := ((Below.refl _ _).alloc (Nat.le_refl _) _).alloc (by simp) _
  have h0 := heap_alloc2_old w (.cells (ic a).toArray 27) (.cells (ic b).toArray 27)
  have h1 := heap_alloc2_new w (.cells (ic a).toArray 27) (.cells (ic b).toArray 27)
  generalize (w.alloc (.cells (ic a).toArray 27)).alloc (.cells (ic b).toArray 27) = W at h0 h1 hbW
  have hia2 := Lib.hid (info_of ha)
  have hj0 : j0 < 64 := by omega
  clear ha hb h
  go_wp2_with (refine wpList_load_row rfl 27 (.tmp 2) rfl w.heap.size rfl 27 _ (0, 0) _ h0 Try.underlying27 rfl hia2.out ?_)
  go_loopg [8] 64 (fun r i wr => wr = W ∧ ∃ j : Nat, j + r = 64 ∧ i = .int .i64 j ∧ j ≤ j0)
  case atStart => exact ⟨rfl, 0, by omega, rfl, by omega⟩
  case round =>
    obtain ⟨rfl, j, hj, rfl, hjj⟩ := hrel
    have hj64 : j < 64 := by omega
    have hja : j < a.length := by rw [HA.out]; exact hj64
    have hjb : j < b.length := by rw [HB.out]; exact hj64
    have hc1 : wr.cell? ⟨w.heap.size + 1, j, none⟩ = some (.int .i64 b[j]) := by simp only [World.cell?, h1]; rw [List.getElem?_toArray, ic, List.getElem?_map, List.getElem?_eq_getElem hjb]; rfl
    have hj1 : ((j : Nat) : Int) < 64 := by omega
    have H1 := Lib.hid h1
    have H0 := Lib.hid h0
    clear h0 h1
    by_cases hlt : b[j] < a[j]
    · have hq : decide (b[j] < a[j]) = true := decide_eq_true hlt
      go_wp2_with (refine wpList_index_ic rfl 27 (.tmp 7) (.tmp 8) rfl 3 64 a j rfl rfl Try.underlying27 (Try.isAgg3 _) (Try.sizeOf3 _) HA.out hj64 ?_)
      go_ret
      exact ⟨rfl, hbW⟩
    · have hq : decide (b[j] < a[j]) = false := decide_eq_false hlt
      have hne : j ≠ j0 := by rintro rfl; exact hlt HW.out
      go_wp2_with (refine wpList_index_ic rfl 27 (.tmp 7) (.tmp 8) rfl 3 64 a j rfl rfl Try.underlying27 (Try.isAgg3 _) (Try.sizeOf3 _) HA.out hj64 ?_)
      go_roundg (64 - (j + 1))
      case measure => omega
      case rel => exact ⟨rfl, j + 1, by omega, by go_num, by omega⟩
theorem rwithin_any (a b : List Int) (w : World) (ha : a.length = 64) (hb : b.length = 64) :
    Calls Try.prog 10 #[vv a, vv b] w fun e w' => e = .returned (.bool (inb a b)) ∧ Below w.heap.size w w' := by
  by_cases h : withinv a b
  · rw [inb_true ha hb h]; exact rwithin_true a b w ha hb h
  · unfold withinv at h
    simp only [Classical.not_forall] at h
    obtain ⟨j, h1, h2, h3⟩ := h
    have h3 : b[j] < a[j] := by omega
    rw [inb_false ha hb h1 h2 h3]
    exact rwithin_false a b w ha hb j h1 h2 h3
end Go.Proofs.Ytokcohepkajloaa
