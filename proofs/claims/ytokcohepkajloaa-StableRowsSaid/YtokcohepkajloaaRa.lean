/- The document's Join and Meet. -/
import Derived.Test.YtokcohepkajloaaMv
namespace Go.Proofs.Ytokcohepkajloaa
open Go.RowKit
set_option linter.unusedVariables false
set_option linter.unusedSimpArgs false
theorem mix_keep {op : Int → Int → Int} {a b : List Int} {j : Nat} (ha : j < a.length) (hb : j < b.length) (h : op a[j] b[j] = a[j]) : mix op a b (j + 1) = mix op a b j := by
  rw [mix, mix, List.drop_eq_getElem_cons ha, List.take_succ_eq_append_getElem ha, List.take_succ_eq_append_getElem hb, List.zipWith_append (by rw [List.length_take, List.length_take]; omega), List.append_assoc]
  simp [h]
set_option maxHeartbeats 1600000 in
theorem rjoin_any (a b : List Int) (w : World) (ha : a.length = 64) (hb : b.length = 64) :
    Calls Try.prog 15 #[vv a, vv b] w fun e w' => e = .returned (vv (joinv a b)) ∧ Below w.heap.size w w' := by
  have HA := Lib.hid ha
  have HB := Lib.hid hb
  have hib := Lib.hid (info_of hb)
  unfold joinv
  clear ha hb
  go_enter Try.func15, Try.ntmps15
  unfold vv
  go_upto_region 1 with fail
  rw [zc_eq]
  generalize hW : ((w.alloc (.cells (ic a).toArray 27)).alloc (.cells (ic b).toArray 27)).alloc (.cells zc 27) = W
  have h0 : W.heap[w.heap.size]? = some (.cells (ic (mix max a b 0)).toArray 27 (0, 0)) := by subst hW; rw [mix_zero, heap_alloc_old _ _ (by simp; omega), heap_alloc2_old]
  have h1 : W.heap[w.heap.size + 1]? = some (.cells (ic b).toArray 27 (0, 0)) := by subst hW; rw [heap_alloc_old _ _ (by simp), heap_alloc2_new]
  have h2 : W.heap[w.heap.size + 1 + 1]? = some (.cells zc 27 (0, 0)) := by subst hW; have := heap_alloc_new ((w.alloc (.cells (ic a).toArray 27)).alloc (.cells (ic b).toArray 27)) (.cells zc 27); simpa using this
  have hbW : Below w.heap.size w W := by subst hW; exact (((Below.refl _ _).alloc (Nat.le_refl _) _).alloc (by simp) _).alloc (by simp; omega) _
  clear hW
  go_wp2_with (refine wpList_load_row rfl 27 (.tmp 3) rfl (w.heap.size + 1) rfl 27 _ (0, 0) _ h1 Try.underlying27 rfl hib.out ?_)
  go_loopg [8] 64 (fun r i wr => ∃ j : Nat, j + r = 64 ∧ i = .int .i64 j ∧ wr.heap[w.heap.size]? = some (.cells (ic (mix max a b j)).toArray 27 (0, 0)) ∧ wr.heap[w.heap.size + 1 + 1]? = some (.cells zc 27 (0, 0)) ∧ Below w.heap.size w wr)
  case atStart => exact ⟨0, by omega, rfl, h0, h2, hbW⟩
  case round =>
    clear h0 h1 h2 hbW
    obtain ⟨j, hj, rfl, h0, h2, hbW⟩ := hrel
    by_cases hj64 : j < 64
    · have hja : j < a.length := by rw [HA.out]; exact hj64
      have hjb : j < b.length := by rw [HB.out]; exact hj64
      have hc0 : wr.cell? ⟨w.heap.size, j, none⟩ = some (.int .i64 a[j]) := by simp only [World.cell?, h0]; exact mix_get hja hjb
      have hf : wr.frozen? ⟨w.heap.size, j, none⟩ = false := by simp [World.frozen?, h0]
      have HM := Lib.hid (mix_set (op := max) (a := a) (b := b) (j := j) hja hjb)
      have HK := Lib.hid (fun h => mix_keep (op := max) (a := a) (b := b) (j := j) hja hjb h)
      have H0 := Lib.hid h0
      have H2 := Lib.hid h2
      clear h0 h2
      have hj1 : ((j : Nat) : Int) < 64 := by omega
      by_cases hlt : a[j] < b[j]
      · have hq : decide (a[j] < b[j]) = true := decide_eq_true hlt
        have hop : max a[j] b[j] = b[j] := by omega
        rw [hop] at HM
        clear HK hop
        go_wp2_with (refine wpList_index_ic rfl 27 (.tmp 7) (.tmp 8) rfl 3 64 b j rfl rfl Try.underlying27 (Try.isAgg3 _) (Try.sizeOf3 _) HB.out hj64 ?_)
        go_roundg (64 - (j + 1))
        case measure => omega
        case rel =>
          refine ⟨j + 1, by omega, by go_num, ?_, ?_, hbW.setCell (p := ⟨w.heap.size, j, none⟩) (Nat.le_refl _) _⟩
          · rw [heap_setCell_same _ _ _ _ _ _ H0.out, HM.out]
          · rw [heap_setCell_other _ _ _ _ (show w.heap.size + 1 + 1 ≠ w.heap.size by omega)]; exact H2.out
      · have hq : decide (a[j] < b[j]) = false := decide_eq_false hlt
        have hop : max a[j] b[j] = a[j] := by omega
        have HK := Lib.hid (HK.out hop)
        clear hop
        go_wp2_with (refine wpList_index_ic rfl 27 (.tmp 7) (.tmp 8) rfl 3 64 b j rfl rfl Try.underlying27 (Try.isAgg3 _) (Try.sizeOf3 _) HB.out hj64 ?_)
        go_roundg (64 - (j + 1))
        case measure => omega
        case rel => exact ⟨j + 1, by omega, by go_num, by rw [HK.out]; exact H0.out, H2.out, hbW⟩
    · obtain rfl : j = 64 := by omega
      rw [mix_end HA.out HB.out] at h0
      have hzl : (List.zipWith max a b).length = 64 := by rw [List.length_zipWith, HA.out, HB.out]; rfl
      generalize hzz : List.zipWith max a b = z at h0 hzl
      have HZZ := Lib.hid hzz
      clear hzz
      have hi := Lib.hid (info_of hzl)
      have h1c := Lib.hid (ic_one z)
      have hzs := Lib.hid (zs_of hzl)
      clear hzl
      go_wp2_with (first
        | (refine wpList_load_row rfl 27 _ rfl w.heap.size rfl 27 _ (0, 0) _ h0 Try.underlying27 rfl hi.out ?_)
        | (refine wpList_store_row rfl 27 _ _ rfl (w.heap.size + 1 + 1) (ic z).toArray rfl rfl 27 _ h2 hi.out hzs.out h1c.out ?_))
      refine bodyPost_ret (v := .agg (ic z).toArray) (results_cell_row rfl _ _ (w.heap.size + 1 + 1) 27 _ (0, 0) _ rfl (setRow_heap wr _ _ _ _ _ h2) Try.underlying27 rfl hi.out) rfl ⟨by rw [HZZ.out], below_setRow hbW (by omega) _⟩
set_option maxHeartbeats 1600000 in
theorem rmeet_any (a b : List Int) (w : World) (ha : a.length = 64) (hb : b.length = 64) :
    Calls Try.prog 26 #[vv a, vv b] w fun e w' => e = .returned (vv (meetv a b)) ∧ Below w.heap.size w w' := by
  have HA := Lib.hid ha
  have HB := Lib.hid hb
  have hib := Lib.hid (info_of hb)
  unfold meetv
  clear ha hb
  go_enter Try.func26, Try.ntmps26
  unfold vv
  go_upto_region 1 with fail
  rw [zc_eq]
  generalize hW : ((w.alloc (.cells (ic a).toArray 27)).alloc (.cells (ic b).toArray 27)).alloc (.cells zc 27) = W
  have h0 : W.heap[w.heap.size]? = some (.cells (ic (mix min a b 0)).toArray 27 (0, 0)) := by subst hW; rw [mix_zero, heap_alloc_old _ _ (by simp; omega), heap_alloc2_old]
  have h1 : W.heap[w.heap.size + 1]? = some (.cells (ic b).toArray 27 (0, 0)) := by subst hW; rw [heap_alloc_old _ _ (by simp), heap_alloc2_new]
  have h2 : W.heap[w.heap.size + 1 + 1]? = some (.cells zc 27 (0, 0)) := by subst hW; have := heap_alloc_new ((w.alloc (.cells (ic a).toArray 27)).alloc (.cells (ic b).toArray 27)) (.cells zc 27); simpa using this
  have hbW : Below w.heap.size w W := by subst hW; exact (((Below.refl _ _).alloc (Nat.le_refl _) _).alloc (by simp) _).alloc (by simp; omega) _
  clear hW
  go_wp2_with (refine wpList_load_row rfl 27 (.tmp 3) rfl (w.heap.size + 1) rfl 27 _ (0, 0) _ h1 Try.underlying27 rfl hib.out ?_)
  go_loopg [8] 64 (fun r i wr => ∃ j : Nat, j + r = 64 ∧ i = .int .i64 j ∧ wr.heap[w.heap.size]? = some (.cells (ic (mix min a b j)).toArray 27 (0, 0)) ∧ wr.heap[w.heap.size + 1 + 1]? = some (.cells zc 27 (0, 0)) ∧ Below w.heap.size w wr)
  case atStart => exact ⟨0, by omega, rfl, h0, h2, hbW⟩
  case round =>
    clear h0 h1 h2 hbW
    obtain ⟨j, hj, rfl, h0, h2, hbW⟩ := hrel
    by_cases hj64 : j < 64
    · have hja : j < a.length := by rw [HA.out]; exact hj64
      have hjb : j < b.length := by rw [HB.out]; exact hj64
      have hc0 : wr.cell? ⟨w.heap.size, j, none⟩ = some (.int .i64 a[j]) := by simp only [World.cell?, h0]; exact mix_get hja hjb
      have hf : wr.frozen? ⟨w.heap.size, j, none⟩ = false := by simp [World.frozen?, h0]
      have HM := Lib.hid (mix_set (op := min) (a := a) (b := b) (j := j) hja hjb)
      have HK := Lib.hid (fun h => mix_keep (op := min) (a := a) (b := b) (j := j) hja hjb h)
      have H0 := Lib.hid h0
      have H2 := Lib.hid h2
      clear h0 h2
      have hj1 : ((j : Nat) : Int) < 64 := by omega
      by_cases hlt : b[j] < a[j]
      · have hq : decide (b[j] < a[j]) = true := decide_eq_true hlt
        have hop : min a[j] b[j] = b[j] := by omega
        rw [hop] at HM
        clear HK hop
        go_wp2_with (refine wpList_index_ic rfl 27 (.tmp 7) (.tmp 8) rfl 3 64 b j rfl rfl Try.underlying27 (Try.isAgg3 _) (Try.sizeOf3 _) HB.out hj64 ?_)
        go_roundg (64 - (j + 1))
        case measure => omega
        case rel =>
          refine ⟨j + 1, by omega, by go_num, ?_, ?_, hbW.setCell (p := ⟨w.heap.size, j, none⟩) (Nat.le_refl _) _⟩
          · rw [heap_setCell_same _ _ _ _ _ _ H0.out, HM.out]
          · rw [heap_setCell_other _ _ _ _ (show w.heap.size + 1 + 1 ≠ w.heap.size by omega)]; exact H2.out
      · have hq : decide (b[j] < a[j]) = false := decide_eq_false hlt
        have hop : min a[j] b[j] = a[j] := by omega
        have HK := Lib.hid (HK.out hop)
        clear hop
        go_wp2_with (refine wpList_index_ic rfl 27 (.tmp 7) (.tmp 8) rfl 3 64 b j rfl rfl Try.underlying27 (Try.isAgg3 _) (Try.sizeOf3 _) HB.out hj64 ?_)
        go_roundg (64 - (j + 1))
        case measure => omega
        case rel => exact ⟨j + 1, by omega, by go_num, by rw [HK.out]; exact H0.out, H2.out, hbW⟩
    · obtain rfl : j = 64 := by omega
      rw [mix_end HA.out HB.out] at h0
      have hzl : (List.zipWith min a b).length = 64 := by rw [List.length_zipWith, HA.out, HB.out]; rfl
      generalize hzz : List.zipWith min a b = z at h0 hzl
      have HZZ := Lib.hid hzz
      clear hzz
      have hi := Lib.hid (info_of hzl)
      have h1c := Lib.hid (ic_one z)
      have hzs := Lib.hid (zs_of hzl)
      clear hzl
      go_wp2_with (first
        | (refine wpList_load_row rfl 27 _ rfl w.heap.size rfl 27 _ (0, 0) _ h0 Try.underlying27 rfl hi.out ?_)
        | (refine wpList_store_row rfl 27 _ _ rfl (w.heap.size + 1 + 1) (ic z).toArray rfl rfl 27 _ h2 hi.out hzs.out h1c.out ?_))
      refine bodyPost_ret (v := .agg (ic z).toArray) (results_cell_row rfl _ _ (w.heap.size + 1 + 1) 27 _ (0, 0) _ rfl (setRow_heap wr _ _ _ _ _ h2) Try.underlying27 rfl hi.out) rfl ⟨by rw [HZZ.out], below_setRow hbW (by omega) _⟩
end Go.Proofs.Ytokcohepkajloaa
