/- What all are known to have (Stable). -/
import Derived.Test.YtokcohepkajloaaMn
namespace Go.Proofs.Ytokcohepkajloaa
open Go.RowKit
set_option linter.unusedVariables false
set_option linter.unusedSimpArgs false
def stab (rows : List (List Int)) : List Int := rows.tail.foldl meetv (rows.headD [])
theorem stab_length {r : List Int} (hr : r.length = 64) : ∀ (l : List (List Int)) , (∀ x ∈ l, x.length = 64) → (l.foldl meetv r).length = 64 := by
  intro l
  induction l generalizing r with
  | nil => intro _; exact hr
  | cons x l ih => intro h; exact ih (meetv_length hr (h x List.mem_cons_self)) (fun y hy => h y (List.mem_cons_of_mem _ hy))
theorem zs_of {l : List Int} (h : l.length = 64) : zc.size = (ic l).toArray.size := by rw [ic_arr, h]; rfl
theorem mat_blocks {w w' : World} {g R : Nat} {rows : List (List Int)} (h : Mat w g R rows) (hg : w'.heap[g]? = w.heap[g]?) (hR : w'.heap[R]? = w.heap[R]?) : Mat w' g R rows := by
  have hc : ∀ j, w'.cell? ⟨R, j, none⟩ = w.cell? ⟨R, j, none⟩ := fun j => World.cell?_of_block hR
  refine ⟨by rw [hg]; exact h.box, h.wide, fun i hi j v hv => by rw [hc]; exact h.lies i hi j v hv, fun j hj => ?_, h.lt⟩
  rw [hc, World.frozen?_of_block hR]
  exact h.free j hj
set_option maxHeartbeats 1600000 in
theorem stable_any (g R : Nat) (rows : List (List Int)) (w : World) (h : Mat w g R rows) (hn : 0 < rows.length) (hn64 : rows.length ≤ 64) :
    Calls Try.prog 8 #[.pointer (some ⟨g, 0, none⟩)] w fun e w' => e = .returned (vv (stab rows)) ∧ Below w.heap.size w w' := by
  have HZ := Lib.hid (zero_of_info info_vecz).1
  obtain ⟨r0, rest, hrows⟩ : ∃ r0 rest, rows = r0 :: rest := by cases rows with | nil => simp at hn | cons r rest => exact ⟨r, rest, rfl⟩
  have hst : stab rows = rest.foldl meetv r0 := by rw [hrows]; rfl
  have hlen : rows.length = rest.length + 1 := by rw [hrows]; rfl
  have hw0 : r0.length = 64 := h.wide _ (by rw [hrows]; exact List.mem_cons_self)
  have hwr : ∀ x ∈ rest, x.length = 64 := fun x hx => h.wide _ (by rw [hrows]; exact List.mem_cons_of_mem _ hx)
  have hir := Lib.hid (info_row hw0)
  have hia := Lib.hid (info_of hw0)
  have ho := Lib.hid (ic_one r0)
  have hzs := Lib.hid (zs_of hw0)
  rw [hst]
  unfold vv
  go_enter Try.func8, Try.ntmps8
  go_upto_region 1 with fail
  rw [zc_eq]
  have h2 := heap_alloc_new w (.cells zc 27)
  have hb : Below w.heap.size w (w.alloc (.cells zc 27)) := (Below.refl _ _).alloc (Nat.le_refl _) _
  have hM := h.below hb
  have hgW : g < (w.alloc (.cells zc 27)).heap.size := (Array.getElem?_eq_some_iff.1 hM.box).1
  have hWs : w.heap.size < (w.alloc (.cells zc 27)).heap.size := by simp
  generalize w.alloc (.cells zc 27) = W at h2 hb hM hWs hgW
  have h0 := hM.gcell
  have hL : Hid (W.rangeAt R 0 (ic r0)) := by
    show W.rangeAt R 0 (ic r0)
    have := hM.lies 0 hn
    simpa [hrows] using this
  have hlp : ((rows.length : Int) == 0) = false := beq_eq_false_iff_ne.mpr (by omega)
  have hi1 : (0 : Int) < rows.length := by omega
  have Hrows := Lib.hid hrows
  have Hlen := Lib.hid hlen
  have Hst := Lib.hid hst
  clear hrows hlen hst
  have hn1 : 1 ≤ rows.length := hn
  go_upto_region 4 with (first
    | (go_at_call 12; refine (size_any g R rows W hM).mono ?_; rintro e w' ⟨rfl, rfl⟩)
    | (refine wpList_load_mid rfl 27 (.tmp 14) rfl R 0 rfl (ic r0) _ hL.out Try.underlying27 rfl hir.out ?_)
    | (refine wpList_store_row rfl 27 (.tmp 3) _ rfl W.heap.size (ic r0).toArray rfl rfl 27 _ (heap_alloc_new _ _) hia.out hzs.out ho.out ?_))
  rw [zc_eq]
  have hv : ((W.alloc (.cells zc 27)).setRow W.heap.size (ic r0).toArray).heap[W.heap.size]? = some (.cells (ic r0).toArray 27 (0, 0)) := setRow_heap _ _ _ _ _ _ (heap_alloc_new _ _)
  have hbW : Below W.heap.size W ((W.alloc (.cells zc 27)).setRow W.heap.size (ic r0).toArray) := below_setRow ((Below.refl _ _).alloc (Nat.le_refl _) _) (Nat.le_refl _) _
  generalize (W.alloc (.cells zc 27)).setRow W.heap.size (ic r0).toArray = W2 at hv hbW
  have h22 : W2.heap[w.heap.size]? = some (.cells zc 27 (0, 0)) := by rw [hbW.block _ hWs]; exact h2
  have hM2 := hM.below hbW
  have hb2 := hb.trans (hbW.mono hb.size)
  have hq1 : W.heap.size < W2.heap.size := (Array.getElem?_eq_some_iff.1 hv).1
  obtain ⟨q1, hq1e⟩ : ∃ q1, q1 = W.heap.size := ⟨_, rfl⟩
  rw [← hq1e] at hv hWs hq1 hgW ⊢
  clear h0 hL hM hb h2 hbW hq1e hir hia ho hzs
  have h0 := hM2.gcell
  go_wp2_with (refine wpList_cut _ rfl (.tmp 19) (some (.const (.int .i64 1))) none none 37 rfl 27 _ 64 512 Try.underlying37 info_vecb (some ⟨R, 0, none⟩) rows.length rows.length rfl 1 rows.length rows.length ⟨_, rfl⟩ rfl rfl (by simp) hn1 (Nat.le_refl _) (Nat.le_refl _) ?_; intro A1 hA1)
  go_loopg [22] rest.length (fun r i wr => ∃ j : Nat, j + r = rest.length ∧ i = .int .i64 j ∧ wr.heap[q1]? = some (.cells (ic ((rest.take j).foldl meetv r0)).toArray 27 (0, 0)) ∧ wr.heap[w.heap.size]? = some (.cells zc 27 (0, 0)) ∧ Mat wr g R rows ∧ Below w.heap.size w wr ∧ q1 < wr.heap.size)
  case atStart => exact ⟨0, by omega, rfl, hv, h22, hM2, hb2, hq1⟩
  case round =>
    clear hv h22 hM2 hb2 hq1 h0
    obtain ⟨j, hj, rfl, hv, h22, hM2, hb2, hq1⟩ := hrel
    have hl := Hlen.out
    have hcl := stab_length hw0 (rest.take j) (fun x hx => hwr x (List.mem_of_mem_take hx))
    by_cases hjk : j < rest.length
    · obtain rfl : A1 = some ⟨R, 64, none⟩ := by
        have := hA1
        unfold CutAt at this
        rw [if_neg (by omega)] at this
        rw [this]; rfl
      have hxl := hwr _ (List.getElem_mem hjk)
      have HT : Hid ((rest.take (j + 1)).foldl meetv r0 = meetv ((rest.take j).foldl meetv r0) rest[j]) := by
        show _ = _
        rw [List.take_succ_eq_append_getElem hjk, List.foldl_append]; rfl
      have HLx : Hid (wr.rangeAt R (64 + j * 64) (ic rest[j])) := by
        show wr.rangeAt R (64 + j * 64) (ic rest[j])
        have := hM2.lies (j + 1) (by omega)
        rw [show (j + 1) * 64 = 64 + j * 64 by omega] at this
        simpa [Hrows.out] using this
      have hyl := meetv_length hcl hxl
      have HME := fun w => meet_any _ _ w hcl hxl
      unfold vv at HME
      have HME := Lib.hid HME
      generalize rest[j] = x at hxl HT HLx hyl HME
      generalize (rest.take j).foldl meetv r0 = cur at hv hcl HT hyl HME
      have hir := Lib.hid (info_row hxl)
      have hix := Lib.hid (info_of hxl)
      have hox := Lib.hid (ic_one x)
      have hzx := Lib.hid (zs_of hxl)
      have hic := Lib.hid (info_of hcl)
      have hiy := Lib.hid (info_of hyl)
      have hoy := Lib.hid (ic_one (meetv cur x))
      have hyc : Hid ((ic cur).toArray.size = (ic (meetv cur x)).toArray.size) := by show _ = _; rw [ic_arr, ic_arr, hcl, hyl]
      generalize meetv cur x = y at HT hyl HME hiy hoy hyc
      have hj1 : ((j : Nat) : Int) < ((rows.length - 1 : Nat) : Int) := by omega
      have hj2 : j < rows.length - 1 := by omega
      clear hl hcl hxl hyl
      go_upto_region 7 with (first
        | (refine wpList_load_mid rfl 27 (.tmp 24) rfl R (64 + j * 64) rfl (ic x) _ HLx.out Try.underlying27 rfl hir.out ?_)
        | (refine wpList_store_row rfl 27 (.tmp 5) _ rfl wr.heap.size (ic x).toArray rfl rfl 27 _ (heap_alloc_new _ _) hix.out hzx.out hox.out ?_))
      rw [zc_eq]
      have hx3 : ((wr.alloc (.cells zc 27)).setRow wr.heap.size (ic x).toArray).heap[wr.heap.size]? = some (.cells (ic x).toArray 27 (0, 0)) := setRow_heap _ _ _ _ _ _ (heap_alloc_new _ _)
      have hbW : Below wr.heap.size wr ((wr.alloc (.cells zc 27)).setRow wr.heap.size (ic x).toArray) := below_setRow ((Below.refl _ _).alloc (Nat.le_refl _) _) (Nat.le_refl _) _
      generalize (wr.alloc (.cells zc 27)).setRow wr.heap.size (ic x).toArray = W3 at hx3 hbW
      have hv3 : W3.heap[q1]? = some (.cells (ic cur).toArray 27 (0, 0)) := by rw [hbW.block _ hq1]; exact hv
      have h23 : W3.heap[w.heap.size]? = some (.cells zc 27 (0, 0)) := by rw [hbW.block _ (Nat.lt_trans hWs hq1)]; exact h22
      have hM3 := hM2.below hbW
      have hb3 := hb2.trans (hbW.mono hb2.size)
      have hs3 := hbW.size
      obtain ⟨q5, hq5⟩ : ∃ q5, q5 = wr.heap.size := ⟨_, rfl⟩
      rw [← hq5] at hx3 hs3 hq1 ⊢
      clear hv h22 hM2 hb2 hbW HLx hq5
      go_wp2_with (first
        | (refine wpList_load_row rfl 27 (.tmp 3) rfl q1 rfl 27 _ (0, 0) _ hv3 Try.underlying27 rfl hic.out ?_)
        | (refine wpList_load_row rfl 27 (.tmp 5) rfl q5 rfl 27 _ (0, 0) _ hx3 Try.underlying27 rfl hix.out ?_)
        | (go_at_call 23; refine (HME.out W3).mono ?_; rintro e w4 ⟨rfl, hb4⟩; have hv4 := (hb4.block _ (Nat.lt_of_lt_of_le hq1 hs3)).trans hv3)
        | (refine wpList_store_row rfl 27 (.tmp 3) _ rfl q1 (ic y).toArray rfl rfl 27 _ hv4 hiy.out hyc.out hoy.out ?_))
      have hM5 : Mat (w4.setRow q1 (ic y).toArray) g R rows := mat_blocks (hM3.below hb4) (setRow_other _ _ _ _ (by omega)) (setRow_other _ _ _ _ (by have := hM3.lt; omega))
      have h25 : (w4.setRow q1 (ic y).toArray).heap[w.heap.size]? = some (.cells zc 27 (0, 0)) := by
        rw [setRow_other _ _ _ _ (by omega), hb4.block _ (Nat.lt_of_lt_of_le (Nat.lt_trans hWs hq1) hs3)]; exact h23
      have hb5 : Below w.heap.size w (w4.setRow q1 (ic y).toArray) := below_setRow (hb3.trans (hb4.mono hb3.size)) (by omega) _
      have hq5 : q1 < (w4.setRow q1 (ic y).toArray).heap.size := by have := hb4.size; simp [World.setRow]; omega
      go_roundg (rest.length - (j + 1))
      case measure => omega
      case rel => exact ⟨j + 1, by omega, by go_num, by rw [HT.out]; exact setRow_heap _ _ _ _ _ _ hv4, h25, hM5, hb5, hq5⟩
    · obtain rfl : j = rest.length := by omega
      rw [List.take_length] at hv hcl
      generalize hze : rest.foldl meetv r0 = z at hv hcl
      have HZe := Lib.hid hze
      have hia := Lib.hid (info_of hcl)
      have ho := Lib.hid (ic_one z)
      have hzs := Lib.hid (zs_of hcl)
      have hri : ((rows.length - 1 : Nat) : Int) = (rest.length : Int) := by omega
      clear hze hl hcl
      go_wp2_with (first
        | (refine wpList_load_row rfl 27 (.tmp 3) rfl q1 rfl 27 _ (0, 0) _ hv Try.underlying27 rfl hia.out ?_)
        | (refine wpList_store_row rfl 27 (.tmp 2) _ rfl w.heap.size (ic z).toArray rfl rfl 27 _ h22 hia.out hzs.out ho.out ?_))
      refine bodyPost_ret (v := .agg (ic z).toArray) (results_cell_row rfl _ _ w.heap.size 27 _ (0, 0) _ rfl (setRow_heap wr _ _ _ _ _ h22) Try.underlying27 rfl hia.out) rfl ⟨by rw [HZe.out], below_setRow hb2 (Nat.le_refl _) _⟩
end Go.Proofs.Ytokcohepkajloaa
