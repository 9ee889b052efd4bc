/- The document's Stable; no matrix made; equal numbers. -/
import Derived.Test.YtokcohepkajloaaRd
namespace Go.Proofs.Ytokcohepkajloaa
open Go.RowKit
set_option linter.unusedVariables false
set_option linter.unusedSimpArgs false
/-- Rows in memory. -/
structure Rws (w : World) (R : Nat) (rows : List (List Int)) : Prop where
  wide : ∀ r ∈ rows, r.length = 64
  lies : ∀ i (h : i < rows.length), w.rangeAt R (i * 64) (ic rows[i])
  free : w.there R 0 (rows.length * 64)
theorem Rws.blocks {w w' : World} {R : Nat} {rows : List (List Int)} (h : Rws w R rows) (hR : w'.heap[R]? = w.heap[R]?) : Rws w' R rows := by
  have hc : ∀ j, w'.cell? ⟨R, j, none⟩ = w.cell? ⟨R, j, none⟩ := fun j => World.cell?_of_block hR
  refine ⟨h.wide, fun i hi j v hv => by rw [hc]; exact h.lies i hi j v hv, fun j hj => ?_⟩
  rw [hc, World.frozen?_of_block hR]
  exact h.free j hj
theorem Rws.lt {w : World} {R : Nat} {rows : List (List Int)} (h : Rws w R rows) (hn : 0 < rows.length) : R < w.heap.size := by
  have h0 := (h.free 0 (by omega)).1
  cases hc : w.cell? ⟨R, 0 + 0, none⟩ with
  | none => simp [hc] at h0
  | some v => exact World.block_lt_of_cell? w _ hc
theorem Rws.below {w w' : World} {R : Nat} {rows : List (List Int)} (h : Rws w R rows) (hn : 0 < rows.length) (hb : Below w.heap.size w w') : Rws w' R rows := h.blocks (hb.block R (h.lt hn))
theorem Rws.put {w : World} {R : Nat} {rows : List (List Int)} (h : Rws w R rows) (i : Nat) (hi : i < rows.length) (r : List Int) (hr : r.length = 64) : Rws (w.setCells R (i * 64) (ic r)) R (rows.set i r) := by
  have hl := ic_size r
  refine ⟨fun x hx => ?_, fun j hj => ?_, by rw [List.length_set]; exact World.there_setCells h.free _ _ _⟩
  · rcases List.mem_or_eq_of_mem_set hx with hx | hx
    · exact h.wide x hx
    · rw [hx]; exact hr
  · rw [List.length_set] at hj
    by_cases e : i = j
    · subst e
      rw [List.getElem_set_self]
      refine World.rangeAt_setCells_same w R _ _ (fun k hk => ?_)
      have := h.free (i * 64 + k) (by rw [hl, hr] at hk; omega)
      rwa [Nat.zero_add] at this
    · rw [List.getElem_set_ne e]
      refine World.rangeAt_setCells_apart (h.lies j hj) _ _ _ (.inr ?_)
      rw [ic_size, hl, hr, h.wide _ (List.getElem_mem hj)]
      omega
theorem rws_new (w' : World) (n : Nat) (R : Nat) (hR : w'.heap[R]? = some (.cells (madeCells zc (n * 64)) 27 (0, 0))) :
    Rws w' R (List.replicate n (List.replicate 64 0)) := by
  have hc : ∀ j, j < n * 64 → w'.cell? ⟨R, j, none⟩ = some (.int .i64 0) := fun j hj => by simp only [World.cell?, hR]; exact made_zero n j hj
  refine ⟨fun r hr => by rw [(List.mem_replicate.1 hr).2, List.length_replicate], fun i hi j v hv => ?_, fun j hj => ?_⟩
  · rw [List.length_replicate] at hi
    rw [List.getElem_replicate, ic, List.getElem?_map, List.getElem?_replicate] at hv
    split at hv
    · rw [Option.map_some, Option.some.injEq] at hv
      rw [hc _ (by omega), hv]
    · cases hv
  · rw [List.length_replicate] at hj
    rw [Nat.zero_add, hc j hj]
    exact ⟨rfl, by simp [World.frozen?, hR]⟩
theorem meetv_self (a : List Int) : meetv a a = a := by
  refine List.ext_getElem (by simp [meetv]) fun i h1 h2 => ?_
  simp [meetv]
set_option maxHeartbeats 1600000 in
theorem rstable_any (R : Nat) (rows : List (List Int)) (w : World) (h : Rws w R rows) (hn : 0 < rows.length) (hn64 : rows.length ≤ 64) :
    Calls Try.prog 16 #[.slice (some ⟨R, 0, none⟩) rows.length rows.length] w fun e w' => e = .returned (vv (stab rows)) ∧ Below w.heap.size w w' := by
  have HZ := Lib.hid (zero_of_info info_vecz).1
  have hw0 : rows[0].length = 64 := h.wide _ (List.getElem_mem hn)
  have hst : stab rows = rows.foldl meetv rows[0] := by
    cases rows with
    | nil => simp at hn
    | cons r rest => show rest.foldl meetv r = rest.foldl meetv (meetv r r); rw [meetv_self]
  have HL0 := Lib.hid (h.lies 0 hn)
  rw [hst]
  clear hst
  have hRw := h.lt hn
  have h00 : Hid (rows.take 0 = []) := rfl
  generalize hr0 : rows[0] = r0 at hw0 HL0 ⊢
  have HR0 := Lib.hid hr0
  clear hr0
  have hir := Lib.hid (info_row hw0)
  have hia := Lib.hid (info_of hw0)
  have ho := Lib.hid (ic_one r0)
  have hzs := Lib.hid (zs_of hw0)
  unfold vv
  go_enter Try.func16, Try.ntmps16
  go_upto_region 1 with fail
  rw [zc_eq]
  have h2 := heap_alloc_new w (.cells zc 27)
  have hb : Below w.heap.size w (w.alloc (.cells zc 27)) := (Below.refl _ _).alloc (Nat.le_refl _) _
  have hM := h.below hn hb
  have hL : Hid ((w.alloc (.cells zc 27)).rangeAt R 0 (ic r0)) := by
    show World.rangeAt _ _ _ _
    have := range_below HL0.out hb
    rwa [Nat.zero_mul] at this
  have hWs : w.heap.size < (w.alloc (.cells zc 27)).heap.size := by simp
  generalize w.alloc (.cells zc 27) = W at h2 hb hM hWs hL
  have hlp : ((rows.length : Int) == 0) = false := beq_eq_false_iff_ne.mpr (by omega)
  have hi1 : (0 : Int) < rows.length := by omega
  have hn1 : 1 ≤ rows.length := hn
  clear HL0 h
  go_upto_region 4 with (first
    | (refine wpList_load_mid rfl 27 (.tmp 11) rfl R 0 rfl (ic r0) _ hL.out Try.underlying27 rfl hir.out ?_)
    | (refine wpList_store_row rfl 27 (.tmp 3) _ rfl W.heap.size (ic r0).toArray rfl rfl 27 _ (heap_alloc_new _ _) hia.out hzs.out ho.out ?_))
  rw [zc_eq]
  have hv : ((W.alloc (.cells zc 27)).setRow W.heap.size (ic r0).toArray).heap[W.heap.size]? = some (.cells (ic r0).toArray 27 (0, 0)) := setRow_heap _ _ _ _ _ _ (heap_alloc_new _ _)
  have hbW : Below W.heap.size W ((W.alloc (.cells zc 27)).setRow W.heap.size (ic r0).toArray) := below_setRow ((Below.refl _ _).alloc (Nat.le_refl _) _) (Nat.le_refl _) _
  generalize (W.alloc (.cells zc 27)).setRow W.heap.size (ic r0).toArray = W2 at hv hbW
  have h22 : W2.heap[w.heap.size]? = some (.cells zc 27 (0, 0)) := by rw [hbW.block _ hWs]; exact h2
  have hM2 := hM.below hn hbW
  have hb2 := hb.trans (hbW.mono hb.size)
  have hq1 : W.heap.size < W2.heap.size := (Array.getElem?_eq_some_iff.1 hv).1
  obtain ⟨q1, hq1e⟩ : ∃ q1, q1 = W.heap.size := ⟨_, rfl⟩
  rw [← hq1e] at hv hWs hq1 ⊢
  clear hL hM hb h2 hbW hq1e hir hia ho hzs
  go_wp2_with fail
  go_loopg [15] rows.length (fun r i wr => ∃ j : Nat, j + r = rows.length ∧ i = .int .i64 j ∧ wr.heap[q1]? = some (.cells (ic ((rows.take j).foldl meetv r0)).toArray 27 (0, 0)) ∧ wr.heap[w.heap.size]? = some (.cells zc 27 (0, 0)) ∧ Rws wr R rows ∧ Below w.heap.size w wr ∧ q1 < wr.heap.size)
  case atStart => exact ⟨0, by omega, rfl, by rw [h00.out]; exact hv, h22, hM2, hb2, hq1⟩
  case round =>
    clear hv h22 hM2 hb2 hq1
    obtain ⟨j, hj, rfl, hv, h22, hM2, hb2, hq1⟩ := hrel
    have hcl := stab_length hw0 (rows.take j) (fun x hx => hM2.wide x (List.mem_of_mem_take hx))
    by_cases hjk : j < rows.length
    · have hxl := hM2.wide _ (List.getElem_mem hjk)
      have HT : Hid ((rows.take (j + 1)).foldl meetv r0 = meetv ((rows.take j).foldl meetv r0) rows[j]) := by
        show _ = _
        rw [List.take_succ_eq_append_getElem hjk, List.foldl_append]; rfl
      have HLx := Lib.hid (hM2.lies j hjk)
      have hyl := meetv_length hcl hxl
      have HME := fun w => rmeet_any _ _ w hcl hxl
      unfold vv at HME
      have HME := Lib.hid HME
      generalize rows[j] = x at hxl HT HLx hyl HME
      generalize (rows.take j).foldl meetv r0 = cur at hv hcl HT hyl HME
      have hir := Lib.hid (info_row hxl)
      have hix := Lib.hid (info_of hxl)
      have hox := Lib.hid (ic_one x)
      have hzx := Lib.hid (zs_of hxl)
      have hic := Lib.hid (info_of hcl)
      have hiy := Lib.hid (info_of hyl)
      have hoy := Lib.hid (ic_one (meetv cur x))
      have hyc : Hid ((ic cur).toArray.size = (ic (meetv cur x)).toArray.size) := by show _ = _; rw [ic_arr, ic_arr, hcl, hyl]
      generalize meetv cur x = y at HT hyl HME hiy hoy hyc
      have hj1 : ((j : Nat) : Int) < rows.length := by omega
      clear hcl hxl hyl
      go_upto_region 7 with (first
        | (refine wpList_load_mid rfl 27 (.tmp 17) rfl R (j * 64) rfl (ic x) _ HLx.out Try.underlying27 rfl hir.out ?_)
        | (refine wpList_store_row rfl 27 (.tmp 5) _ rfl wr.heap.size (ic x).toArray rfl rfl 27 _ (heap_alloc_new _ _) hix.out hzx.out hox.out ?_))
      rw [zc_eq]
      have hx3 : ((wr.alloc (.cells zc 27)).setRow wr.heap.size (ic x).toArray).heap[wr.heap.size]? = some (.cells (ic x).toArray 27 (0, 0)) := setRow_heap _ _ _ _ _ _ (heap_alloc_new _ _)
      have hbW : Below wr.heap.size wr ((wr.alloc (.cells zc 27)).setRow wr.heap.size (ic x).toArray) := below_setRow ((Below.refl _ _).alloc (Nat.le_refl _) _) (Nat.le_refl _) _
      generalize (wr.alloc (.cells zc 27)).setRow wr.heap.size (ic x).toArray = W3 at hx3 hbW
      have hv3 : W3.heap[q1]? = some (.cells (ic cur).toArray 27 (0, 0)) := by rw [hbW.block _ hq1]; exact hv
      have h23 : W3.heap[w.heap.size]? = some (.cells zc 27 (0, 0)) := by rw [hbW.block _ (Nat.lt_trans hWs hq1)]; exact h22
      have hM3 := hM2.below hn hbW
      have hb3 := hb2.trans (hbW.mono hb2.size)
      have hs3 := hbW.size
      obtain ⟨q5, hq5⟩ : ∃ q5, q5 = wr.heap.size := ⟨_, rfl⟩
      rw [← hq5] at hx3 hs3 hq1 ⊢
      clear hv h22 hM2 hb2 hbW HLx hq5
      go_wp2_with (first
        | (refine wpList_load_row rfl 27 (.tmp 3) rfl q1 rfl 27 _ (0, 0) _ hv3 Try.underlying27 rfl hic.out ?_)
        | (refine wpList_load_row rfl 27 (.tmp 5) rfl q5 rfl 27 _ (0, 0) _ hx3 Try.underlying27 rfl hix.out ?_)
        | (go_at_call 26; refine (HME.out W3).mono ?_; rintro e w4 ⟨rfl, hb4⟩; have hv4 := (hb4.block _ (Nat.lt_of_lt_of_le hq1 hs3)).trans hv3)
        | (refine wpList_store_row rfl 27 (.tmp 3) _ rfl q1 (ic y).toArray rfl rfl 27 _ hv4 hiy.out hyc.out hoy.out ?_))
      have hM5 : Rws (w4.setRow q1 (ic y).toArray) R rows := (hM3.below hn hb4).blocks (setRow_other _ _ _ _ (by omega))
      have h25 : (w4.setRow q1 (ic y).toArray).heap[w.heap.size]? = some (.cells zc 27 (0, 0)) := by
        rw [setRow_other _ _ _ _ (by omega), hb4.block _ (Nat.lt_of_lt_of_le (Nat.lt_trans hWs hq1) hs3)]; exact h23
      have hb5 : Below w.heap.size w (w4.setRow q1 (ic y).toArray) := below_setRow (hb3.trans (hb4.mono hb3.size)) (by omega) _
      have hq5 : q1 < (w4.setRow q1 (ic y).toArray).heap.size := by have := hb4.size; simp [World.setRow]; omega
      go_roundg (rows.length - (j + 1))
      case measure => omega
      case rel => exact ⟨j + 1, by omega, by go_num, by rw [HT.out]; exact setRow_heap _ _ _ _ _ _ hv4, h25, hM5, hb5, hq5⟩
    · obtain rfl : j = rows.length := by omega
      rw [List.take_length] at hv hcl
      generalize hze : rows.foldl meetv r0 = z at hv hcl
      have HZe := Lib.hid hze
      have hia := Lib.hid (info_of hcl)
      have ho := Lib.hid (ic_one z)
      have hzs := Lib.hid (zs_of hcl)
      clear hze hcl
      go_wp2_with (first
        | (refine wpList_load_row rfl 27 (.tmp 3) rfl q1 rfl 27 _ (0, 0) _ hv Try.underlying27 rfl hia.out ?_)
        | (refine wpList_store_row rfl 27 (.tmp 2) _ rfl w.heap.size (ic z).toArray rfl rfl 27 _ h22 hia.out hzs.out ho.out ?_))
      refine bodyPost_ret (v := .agg (ic z).toArray) (results_cell_row rfl _ _ w.heap.size 27 _ (0, 0) _ rfl (setRow_heap wr _ _ _ _ _ h22) Try.underlying27 rfl hia.out) rfl ⟨by rw [HZe.out], below_setRow hb2 (Nat.le_refl _) _⟩
theorem new_none (n : Int) (w : World) (h : n < 1 ∨ 64 < n) :
    Calls Try.prog 7 #[.int .i64 n] w fun e w' => e = .returned (.pointer none) ∧ w = w' := by
  by_cases h1 : n < 1
  · go_enter Try.func7, Try.ntmps7
    go_wp2
    go_ret
    exact ⟨rfl, rfl⟩
  · have h2 : 64 < n := by omega
    go_enter Try.func7, Try.ntmps7
    go_wp2
    go_ret
    exact ⟨rfl, rfl⟩
theorem below_drewN {B : Nat} {a w : World} (h : Below B a w) (n : Nat) : Below B a (w.drewN n) := h.trans ⟨rfl, rfl, rfl, Nat.le_refl _, fun _ _ => rfl⟩
set_option maxHeartbeats 800000 in
/-- The library's Equal of the same whole numbers. -/
theorem iequal_any (A B : Option Addr) (c d : Nat) (l : List Int) (w : World) (hlc : l.length ≤ c) (hld : l.length ≤ d) (hr : Lies w A (l.map (Value.int .i64))) (hs : Lies w B (l.map (Value.int .i64))) (hm : l.length ≤ 1000) :
    Calls Try.prog 17 #[.slice A l.length c, .slice B l.length d] w fun e w' => e = .returned (.bool true) ∧ Below w.heap.size w w' := by
  go_enter Try.func17, Try.ntmps17
  go_wp2
  go_loopg [13] l.length (fun r i wr => ∃ j : Nat, j + r = l.length ∧ i = .int .i64 j ∧ Below w.heap.size w wr)
  case atStart => exact ⟨0, by omega, rfl, Below.refl _ _⟩
  case round =>
    obtain ⟨j, hj, rfl, hb⟩ := hrel
    by_cases hjk : j < l.length
    · obtain ⟨a, rfl, hc⟩ := (hr.below hb).at (k := j) (by simpa using hjk)
      obtain ⟨b, rfl, hc2⟩ := (hs.below hb).at (k := j) (by simpa using hjk)
      rw [List.getElem_map] at hc hc2
      generalize l[j] = x at hc hc2
      have hj1 : ((j : Nat) : Int) < l.length := by omega
      go_wp2_with fail
      go_quiet (fail)
      go_wp2
      go_roundg (l.length - (j + 1))
      case measure => omega
      case rel => exact ⟨j + 1, by omega, by go_num, below_drewN hb _⟩
    · obtain rfl : j = l.length := by omega
      go_wp2
      go_ret
      exact ⟨rfl, hb⟩
end Go.Proofs.Ytokcohepkajloaa
