/- The walk of the law of rows. -/
import Derived.Test.YtokcohepkajloaaRe
import Derived.Test.YtokcohepkajloaaMt
namespace Go.Proofs.Ytokcohepkajloaa
open Go.RowKit
set_option linter.unusedVariables false
set_option linter.unusedSimpArgs false
theorem rows_none (n : Int) (A : Option Addr) (c k : Nat) (rep : Int) (v : List Int) (w : World) (h : n < 1 ∨ 64 < n) :
    Calls Try.prog 5 #[.int .i64 n, .slice A k c, .int .i64 rep, vv v] w fun e w' => e = .returned (.bool true) ∧ Below w.heap.size w w' := by
  have hb : Below w.heap.size w (w.alloc (.cells (ic v).toArray 27)) := (Below.refl _ _).alloc (Nat.le_refl _) _
  have HN := Lib.hid (fun w => new_none n w h)
  by_cases h1 : n < 1
  · go_enter Try.func5, Try.ntmps5
    unfold vv
    go_wp2_with (first
      | (go_at_call 7; refine (HN.out _).mono ?_; rintro e w' ⟨rfl, rfl⟩)
      | (go_at_call 13; refine (awake_any _).mono ?_; rintro e w' ⟨rfl, hb2⟩))
    go_ret
    exact ⟨rfl, hb.trans (hb2.mono hb.size)⟩
  · have h2 : 64 < n := by omega
    go_enter Try.func5, Try.ntmps5
    unfold vv
    go_wp2_with (first
      | (go_at_call 7; refine (HN.out _).mono ?_; rintro e w' ⟨rfl, rfl⟩)
      | (go_at_call 13; refine (awake_any _).mono ?_; rintro e w' ⟨rfl, hb2⟩))
    go_ret
    exact ⟨rfl, hb.trans (hb2.mono hb.size)⟩
set_option maxRecDepth 20000 in
set_option maxHeartbeats 3200000 in
theorem rows_some (m : Nat) (A : Option Addr) (c : Nat) (l : List (Int × List Int)) (rep : Int) (v : List Int) (w : World) (hm1 : 1 ≤ m) (hm64 : m ≤ 64) (hr : Lies w A (l.flatMap hc)) (hA : A = none → c = 0) (hlc : l.length ≤ c) (hv : ∀ h ∈ l, h.2.length = 64) (hm : l.length ≤ 9223372036854775807) (hvl : v.length = 64) :
    Calls Try.prog 5 #[.int .i64 m, .slice A l.length c, .int .i64 rep, vv v] w fun e w' => e = .returned (.bool true) ∧ Below w.heap.size w w' := by
  have hz30 := (zero_of_info info_hz).1
  have HR0 := Lib.hid hr
  have HVL := Lib.hid hvl
  clear hr hvl
  have hm1' : ¬ ((m : Int) < 1) := by omega
  have hm64' : ¬ ((64 : Int) < (m : Int)) := by omega
  go_enter Try.func5, Try.ntmps5
  unfold vv
  go_upto_region 1 with fail
  have hb0 : Below w.heap.size w (w.alloc (.cells (ic v).toArray 27)) := (Below.refl _ _).alloc (Nat.le_refl _) _
  have hv0 := heap_alloc_new w (.cells (ic v).toArray 27)
  have hqs : w.heap.size < (w.alloc (.cells (ic v).toArray 27)).heap.size := by simp
  generalize w.alloc (.cells (ic v).toArray 27) = W0 at hb0 hv0 hqs
  go_upto_region 2 with (go_at_call 7; refine (new_any m W0 hm1 hm64).mono ?_; rintro e w1 ⟨g, R, rfl, hM1, hR1, hb1⟩)
  have hv1 : w1.heap[w.heap.size]? = some (.cells (ic v).toArray 27 (0, 0)) := by rw [hb1.block _ hqs]; exact hv0
  have hb01 := hb0.trans (hb1.mono hb0.size)
  have hqR : w.heap.size < R := Nat.lt_of_lt_of_le hqs hR1
  clear hv0 hb1 hb0 hqs hR1
  go_upto_region 5 with (refine wpList_mkz rfl (.tmp 31) (.tmp 31) 37 rfl 27 _ 64 512 Try.underlying37 info_vecb zc rfl .i64 .i64 _ _ m m rfl rfl rfl rfl (Nat.le_refl _) (by omega) (by omega) ?_)
  have hW2 := rws_new (w1.alloc (.cells (madeCells zc (m * 64)) 27)) m w1.heap.size (heap_alloc_new _ _)
  have hb2 : Below w1.heap.size w1 (w1.alloc (.cells (madeCells zc (m * 64)) 27)) := (Below.refl _ _).alloc (Nat.le_refl _) _
  have hM2 := hM1.below hb2
  have hgR2 : g < w1.heap.size := (Array.getElem?_eq_some_iff.1 hM1.box).1
  have hv2 : (w1.alloc (.cells (madeCells zc (m * 64)) 27)).heap[w.heap.size]? = some (.cells (ic v).toArray 27 (0, 0)) := by rw [hb2.block _ (Array.getElem?_eq_some_iff.1 hv1).1]; exact hv1
  have hb02 := hb01.trans (hb2.mono hb01.size)
  have hRg := hM2.lt
  obtain ⟨rs, hrs⟩ : ∃ rs, rs = List.replicate m (List.replicate 64 (0 : Int)) := ⟨_, rfl⟩
  have hrl : rs.length = m := by rw [hrs, List.length_replicate]
  rw [← hrs] at hM2 hW2
  generalize w1.alloc (.cells (madeCells zc (m * 64)) 27) = W2 at hW2 hb2 hM2 hv2 hb02
  obtain ⟨R2, hR2⟩ : ∃ R2, R2 = w1.heap.size := ⟨_, rfl⟩
  have hR2W : w.heap.size ≤ R2 := by rw [hR2]; exact hb01.size
  rw [← hR2] at hW2 hgR2 ⊢
  clear hrs hM1 hv1 hb01 hb2 hR2
  go_wp2_with fail
  go_loopg [35] l.length (fun r i wr => ∃ (j : Nat) (rs : List (List Int)), j + r = l.length ∧ i = .int .i64 j ∧ rs.length = m ∧ Mat wr g R rs ∧ Rws wr R2 rs ∧ wr.heap[w.heap.size]? = some (.cells (ic v).toArray 27 (0, 0)) ∧ Below w.heap.size w wr)
  case atStart => exact ⟨0, rs, by omega, rfl, hrl, hM2, hW2, hv2, hb02⟩
  case round =>
    clear hrl hM2 hW2 hv2 hb02
    obtain ⟨j, rs, hj, rfl, hrl, hM, hW, hvb, hbW⟩ := hrel
    by_cases hin : j < l.length ∧ j < 60
    ·
      have hjl := hin.1
      have h60 := hin.2
      clear hin
      have hd : decide ((60 : Int) ≤ (j : Int)) = false := decide_eq_false (by omega)
      obtain ⟨a, rfl, hcell⟩ := heard_at (HR0.out.below hbW) hv j hjl
      have hh := hv _ (List.getElem_mem hjl)
      have hih := Lib.hid (info_hc hh)
      generalize l[j] = x at hcell hh hih
      have hia := Lib.hid (hc_info hh)
      have hzs := Lib.hid (hc_arr hh)
      have ho := Lib.hid (hc_one x)
      go_upto_region 8 with (first
        | (refine wpList_load_any rfl 30 (.tmp 38) rfl (a.add (j * 65)) rfl (hc x) _ hcell Try.underlying30 rfl hih.out ?_)
        | (refine wpList_store_row rfl 30 (.tmp 12) _ rfl wr.heap.size (hc x).toArray rfl rfl 30 _ (heap_alloc_new _ _) hia.out hzs.out ho.out ?_))
      have hx8 : ((wr.alloc (.cells hz 30)).setRow wr.heap.size (hc x).toArray).heap[wr.heap.size]? = some (.cells (hc x).toArray 30 (0, 0)) := setRow_heap _ _ _ _ _ _ (heap_alloc_new _ _)
      have hbX : Below wr.heap.size wr ((wr.alloc (.cells hz 30)).setRow wr.heap.size (hc x).toArray) := below_setRow ((Below.refl _ _).alloc (Nat.le_refl _) _) (Nat.le_refl _) _
      have hM5 := hM.below hbX
      have hW5 := hW.below (by omega) hbX
      have hR2s := hW.lt (by omega)
      have hv5 : ((wr.alloc (.cells hz 30)).setRow wr.heap.size (hc x).toArray).heap[w.heap.size]? = some (.cells (ic v).toArray 27 (0, 0)) := by rw [hbX.block _ (Array.getElem?_eq_some_iff.1 hvb).1]; exact hvb
      have hb5 := hbW.trans (hbX.mono hbW.size)
      have hws := hbW.size
      generalize (wr.alloc (.cells hz 30)).setRow wr.heap.size (hc x).toArray = W5 at hx8 hbX hM5 hW5 hv5 hb5
      obtain ⟨q8, hq8⟩ : ∃ q8, q8 = wr.heap.size := ⟨_, rfl⟩
      rw [← hq8] at hx8 hR2s hws ⊢
      clear hM hW hvb hbW hbX hcell hia hzs ho hih hq8
      obtain ⟨xr, xv⟩ := x
      have hh : xv.length = 64 := hh
      have hc8 : W5.cell? ⟨q8, 0, none⟩ = some (.int .i64 xr) := by simp only [World.cell?, hx8]; rfl
      have hv8 : Hid (W5.rangeAt q8 1 (ic xv)) := by
        show W5.rangeAt q8 1 (ic xv)
        intro k v hk
        simp only [World.cell?, hx8, List.getElem?_toArray, hc, show 1 + k = k + 1 by omega, List.getElem?_cons_succ]
        exact hk
      have hiv := Lib.hid (info_row hh)
      have HXL := Lib.hid hh
      have HX8 := Lib.hid hx8
      have HRl := Lib.hid hrl
      have HM5 := Lib.hid hM5
      have HW5 := Lib.hid hW5
      have HV5 := Lib.hid hv5
      clear hx8 hh hM5 hW5 hv5
      by_cases hir : 0 ≤ xr ∧ xr < m
      · obtain ⟨i, rfl⟩ : ∃ i : Nat, xr = (i : Int) := ⟨xr.toNat, by omega⟩
        have him : i < m := by omega
        have hil : i < rs.length := by omega
        have hri := HM5.out.wide _ (List.getElem_mem hil)
        have hx0 : (0 : Int) ≤ (i : Int) := by omega
        have hx1 : (i : Int) < (m : Int) := by omega
        have HNo := note_in g R i rs xv W5 HM5.out hil HXL.out
        unfold vv at HNo
        have HNo := Lib.hid HNo
        clear hir hrl
        go_upto_region 13 with (first
          | (refine wpList_load_mid rfl 27 (.tmp 54) rfl q8 1 rfl (ic xv) _ hv8.out Try.underlying27 rfl hiv.out ?_)
          | (go_at_call 9; refine HNo.out.mono ?_; rintro e w6 ⟨rfl, hM6, hg6⟩))
        have hW6 := HW5.out.blocks (w' := w6) (hg6.block R2 (HW5.out.lt (by have := HRl.out; omega)) (by intro e; injection e; omega))
        have hX6 : w6.heap[q8]? = some (.cells (hc ((i : Int), xv)).toArray 30 (0, 0)) := by rw [hg6.block q8 (Array.getElem?_eq_some_iff.1 HX8.out).1 (by intro e; injection e; omega)]; exact HX8.out
        have hV6 : w6.heap[w.heap.size]? = some (.cells (ic v).toArray 27 (0, 0)) := by rw [hg6.block _ (Array.getElem?_eq_some_iff.1 HV5.out).1 (by intro e; injection e; omega)]; exact HV5.out
        have hb6 := hb5.grown hg6 hb5.size (by intro k hk; injection hk with hk; omega)
        clear hg6 HNo hb5 hc8 hv8
        have hrj := hW6.wide _ (List.getElem_mem hil)
        have hjl2 := joinv_length hrj HXL.out
        have HJ := fun w => rjoin_any rs[i] xv w hrj HXL.out
        unfold vv at HJ
        have HJ := Lib.hid HJ
        obtain ⟨N, hN⟩ : ∃ N : Nat, N = 64 := ⟨_, rfl⟩
        have hag1 : ∃ ag : Sem Bool, isAgg 27 = ag ∧ ∀ w, ag.run Try.prog w = .ok true w := ⟨_, rfl, fun w => Try.isAgg27 w⟩
        obtain ⟨ag, hag1, hag2⟩ := hag1
        have hso1 : ∃ so : Sem Nat, sizeOf 27 = so ∧ ∀ w, so.run Try.prog w = .ok N w := ⟨_, rfl, fun w => by rw [hN]; exact Try.sizeOf27 w⟩
        obtain ⟨so, hso1, hso2⟩ := hso1
        have hX6d : w6.drew.heap[q8]? = some (.cells (hc ((i : Int), xv)).toArray 30 (0, 0)) := hX6
        have hV6d : w6.drew.heap[w.heap.size]? = some (.cells (ic v).toArray 27 (0, 0)) := hV6
        have hM6d : Mat w6.drew g R (rs.set i (joinv rs[i] xv)) := hM6.below ((Below.refl _ _).drew)
        have hW6d : Rws w6.drew R2 rs := hW6.blocks rfl
        have hb6d := hb6.drew
        have hl2 : (loadCellsFrom ⟨R2, i * N, none⟩ 0 N #[]).run Try.prog w6.drew = .ok (ic rs[i]).toArray w6.drew := by
          have := run_loadCells_list (P := Try.prog) w6.drew ⟨R2, i * 64, none⟩ (ic rs[i]) (fun j x hj => by rw [Addr.add_mid]; exact hW6d.lies i hil j x hj)
          rw [ic_size, hrj] at this
          rw [hN]
          exact this
        have hl3 : (loadCellsFrom ⟨q8, 1, none⟩ 0 N #[]).run Try.prog w6.drew = .ok (ic xv).toArray w6.drew := by
          have := run_loadCells_list (P := Try.prog) w6.drew ⟨q8, 1, none⟩ (ic xv) (fun j x hj => by
            rw [Addr.add_mid]
            simp only [World.cell?, hX6d, List.getElem?_toArray, hc, show 1 + j = j + 1 by omega, List.getElem?_cons_succ]
            exact hj)
          rw [ic_size, HXL.out] at this
          rw [hN]
          exact this
        have hcc : w6.drew.cell? ⟨q8, 0, none⟩ = some (.int .i64 i) := by simp only [World.cell?, hX6d]; rfl
        have hcz : (ic (joinv rs[i] xv)).length = N := by rw [ic_size, hjl2, hN]
        have HS : Hid (∀ w2, Rws w2 R2 rs → (storeCells ⟨R2, i * N, none⟩ (ic (joinv rs[i] xv)) 0).run Try.prog w2 = .ok () (w2.setCells R2 (i * N) (ic (joinv rs[i] xv)))) := by
          show ∀ w2, _
          intro w2 h2
          have hlen : (ic (joinv rs[i] xv)).length = 64 := by rw [ic_size, hjl2]
          have := run_storeCells_cells (P := Try.prog) R2 (i * 64) (ic (joinv rs[i] xv)) 0 w2 (fun j hj => by have := h2.free (i * 64 + j) (by omega); rw [Nat.zero_add] at this; exact this.1) (fun j hj => by have := h2.free (i * 64 + j) (by omega); rw [Nat.zero_add] at this; exact this.2) (fun x hx => by obtain ⟨y, _, rfl⟩ := List.mem_map.1 hx; rfl)
          rw [hN]
          exact this
        have HP : Hid (∀ w2, Rws w2 R2 rs → Rws (w2.setCells R2 (i * N) (ic (joinv rs[i] xv))) R2 (rs.set i (joinv rs[i] xv))) := by
          show ∀ w2, _
          intro w2 h2
          rw [hN]
          exact h2.put i hil _ hjl2
        have hil2 : (i : Int) < (rs.length : Int) := by omega
        have hrl2 := HRl.out
        rw [hrl2] at hil2
        have hN0 : N ≠ 0 := by omega
        have HX6 := Lib.hid hX6d
        have HV6 := Lib.hid hV6d
        have HM6 := Lib.hid hM6d
        have HW6 := Lib.hid hW6d
        clear hN hX6 hV6 hM6 hW6 hb6 hX6d hV6d hM6d hW6d hrj hjl2 hrl2
        generalize hze : joinv rs[i] xv = z at HJ HS HP HM6 hcz
        generalize hre : rs[i] = r at hl2 HJ
        clear hre hze
        go_wp2_with fail
        go_region_law (first | (go_simp; go_at_call 15; refine (HJ.out _).mono ?_; rintro e w7 ⟨rfl, hb7⟩; have hW7 := HW6.out.below (by omega) hb7; have hcc7 := (hb7.cell (World.block_lt_of_cell? _ _ hcc)).trans hcc; have hst := HS.out w7 hW7))
        all_goals
          have hW8 := HP.out w7 hW7
          have hM8 : Mat (w7.setCells R2 (i * N) (ic z)) g R (rs.set i z) := mat_blocks (HM6.out.below hb7) (setCells_other _ _ _ _ _ (by omega)) (setCells_other _ _ _ _ _ (by omega))
          have hV8 : (w7.setCells R2 (i * N) (ic z)).heap[w.heap.size]? = some (.cells (ic v).toArray 27 (0, 0)) := by rw [setCells_other _ _ _ _ _ (by omega), hb7.block _ (Array.getElem?_eq_some_iff.1 HV6.out).1]; exact HV6.out
          have hb8 : Below w.heap.size w (w7.setCells R2 (i * N) (ic z)) := (hb6d.trans (hb7.mono hb6d.size)).grown (grownBy_setCells w7 R2 _ _) (Nat.le_trans hb6d.size hb7.size) (by intro k hk; injection hk with hk; omega)
          clear hag1 hag2 hso1 hso2 hl2 hl3 hcc hcc7 hst hcz hW7
          generalize w7.setCells R2 (i * N) (ic z) = W8 at hW8 hM8 hV8 hb8
          go_wp2
          go_roundg (l.length - (j + 1))
          case measure => omega
          case rel => exact ⟨j + 1, rs.set i z, by omega, by go_num, by rw [List.length_set]; exact HRl.out, hM8, hW8, hV8, hb8⟩
      · have HNo := note_out (some ⟨g, 0, none⟩) m xr xv W5 HXL.out (fun w' hb => by have := size_any g R rs w' (HM5.out.below hb); rwa [hrl] at this) (by omega)
        unfold vv at HNo
        have HNo := Lib.hid HNo
        clear hrl
        by_cases hneg : xr < 0
        · clear hir
          go_wp2_with (first
            | (refine wpList_load_mid rfl 27 (.tmp 54) rfl q8 1 rfl (ic xv) _ hv8.out Try.underlying27 rfl hiv.out ?_)
            | (go_at_call 9; refine HNo.out.mono ?_; rintro e w6 ⟨rfl, hb6⟩))
          go_roundg (l.length - (j + 1))
          case measure => omega
          case rel => exact ⟨j + 1, rs, by omega, by go_num, HRl.out, HM5.out.below hb6, HW5.out.below (by have := HRl.out; omega) hb6, (hb6.block _ (Array.getElem?_eq_some_iff.1 HV5.out).1).trans HV5.out, hb5.trans (hb6.mono hb5.size)⟩
        · have hx0 : 0 ≤ xr := by omega
          have hxm : (m : Int) ≤ xr := by omega
          clear hir hneg
          go_wp2_with (first
            | (refine wpList_load_mid rfl 27 (.tmp 54) rfl q8 1 rfl (ic xv) _ hv8.out Try.underlying27 rfl hiv.out ?_)
            | (go_at_call 9; refine HNo.out.mono ?_; rintro e w6 ⟨rfl, hb6⟩))
          go_roundg (l.length - (j + 1))
          case measure => omega
          case rel => exact ⟨j + 1, rs, by omega, by go_num, HRl.out, HM5.out.below hb6, HW5.out.below (by have := HRl.out; omega) hb6, (hb6.block _ (Array.getElem?_eq_some_iff.1 HV5.out).1).trans HV5.out, hb5.trans (hb6.mono hb5.size)⟩
    · by_cases hjl : j < l.length
      · have h60 : 60 ≤ j := by omega
        obtain ⟨a, rfl, hcell⟩ := heard_at (HR0.out.below hbW) hv j hjl
        have hh := hv _ (List.getElem_mem hjl)
        have hih := Lib.hid (info_hc hh)
        generalize l[j] = x at hcell hh hih
        have hia := Lib.hid (hc_info hh)
        have hzs := Lib.hid (hc_arr hh)
        have ho := Lib.hid (hc_one x)
        go_upto_region 8 with (first
          | (refine wpList_load_any rfl 30 (.tmp 38) rfl (a.add (j * 65)) rfl (hc x) _ hcell Try.underlying30 rfl hih.out ?_)
          | (refine wpList_store_row rfl 30 (.tmp 12) _ rfl wr.heap.size (hc x).toArray rfl rfl 30 _ (heap_alloc_new _ _) hia.out hzs.out ho.out ?_))
        have hbX : Below wr.heap.size wr ((wr.alloc (.cells hz 30)).setRow wr.heap.size (hc x).toArray) := below_setRow ((Below.refl _ _).alloc (Nat.le_refl _) _) (Nat.le_refl _) _
        have hM := hM.below hbX
        have hW := hW.below (by omega) hbX
        have hvb : ((wr.alloc (.cells hz 30)).setRow wr.heap.size (hc x).toArray).heap[w.heap.size]? = some (.cells (ic v).toArray 27 (0, 0)) := by rw [hbX.block _ (Array.getElem?_eq_some_iff.1 hvb).1]; exact hvb
        have hbW := hbW.trans (hbX.mono hbW.size)
        generalize (wr.alloc (.cells hz 30)).setRow wr.heap.size (hc x).toArray = W6 at hM hW hvb hbW hbX ⊢
        have hd : decide ((60 : Int) ≤ (j : Int)) = true := decide_eq_true (by omega)
        clear hcell hia hzs ho hih hbX
        go_upto_region 16 with fail
        go_wp2_with fail
        have HMr := Lib.hid hM
        have HWr := Lib.hid hW
        have HVb := Lib.hid hvb
        have HRl := Lib.hid hrl
        have HLk := fun k => lack_length v rs k
        clear hM hW hvb hrl
        go_loopg [14, 75] m (fun r o i wz => ∃ k : Nat, k + r = m ∧ i = .int .i64 k ∧ OI wz W6.heap.size o (lack v rs k) ∧ Below W6.heap.size W6 wz)
        case atStart => exact ⟨0, by omega, rfl, by rw [lack_zero]; exact World.ownsRow_nil _ _ _ _, Below.refl _ _⟩
        case round =>
          obtain ⟨k, hk, rfl, ho, hbz⟩ := hrel
          have hrl := HRl.out
          have hMz := Lib.hid (HMr.out.below hbz)
          have hWz := Lib.hid (HWr.out.below (by omega) hbz)
          have hvz := Lib.hid ((hbz.block _ (Array.getElem?_eq_some_iff.1 HVb.out).1).trans HVb.out)
          by_cases hkm : k < m
          · have hkl : k < rs.length := by omega
            have hrk := hMz.out.wide _ (List.getElem_mem hkl)
            have HRow := fun w' (hM : Mat w' g R rs) => row_in g R k rs w' hM hkl
            have HWi := fun w => rwithin_any v rs[k] w HVL.out hrk
            have heq : ∀ w, (Op.equalIn 10000 27 (vv rs[k]) (vv rs[k])).run Try.prog w = .ok true w := fun w => by
              have := run_equalIn_vec (P := Try.prog) w 9998 27 3 64 rs[k] rs[k] Try.underlying27 Try.underlying3 Try.isAgg3 Try.sizeOf3 hrk hrk
              rwa [beq_self_eq_true] at this
            have HIn := Lib.hid (lack_in v rs k hkl)
            have HOut := Lib.hid (lack_out v rs k hkl)
            have hlk := HLk k
            unfold vv at HRow HWi heq
            have HRow := Lib.hid HRow
            have HWi := Lib.hid HWi
            have HG := guard_vec
            have HL := Lib.hid (hWz.out.lies k hkl)
            have hki : ((k : Nat) : Int) < rs.length := by omega
            generalize inb v rs[k] = z at HWi HIn HOut
            generalize rs[k] = x at hrk HRow HWi heq HL
            have hir := Lib.hid (info_row hrk)
            have hix := Lib.hid (info_of hrk)
            have hox := Lib.hid (ic_one x)
            have hzx := Lib.hid (zs_of hrk)
            have hiv := Lib.hid (info_of HVL.out)
            have HRk := Lib.hid hrk
            have HHeq := Lib.hid heq
            have HHG := Lib.hid HG
            clear hrk heq HG
            have hqw : w.heap.size < wr.heap.size := (Array.getElem?_eq_some_iff.1 hvz.out).1
            go_upto_region 19 with (first
              | (refine wpList_load_mid rfl 27 (.tmp 78) rfl R2 (k * 64) rfl (ic x) _ HL.out Try.underlying27 rfl hir.out ?_)
              | (refine wpList_store_row rfl 27 (.tmp 16) _ rfl wr.heap.size (ic x).toArray rfl rfl 27 _ (heap_alloc_new _ _) hix.out hzx.out hox.out ?_))
            rw [zc_eq]
            have hx7 : ((wr.alloc (.cells zc 27)).setRow wr.heap.size (ic x).toArray).heap[wr.heap.size]? = some (.cells (ic x).toArray 27 (0, 0)) := setRow_heap _ _ _ _ _ _ (heap_alloc_new _ _)
            have hb7 : Below wr.heap.size wr ((wr.alloc (.cells zc 27)).setRow wr.heap.size (ic x).toArray) := below_setRow ((Below.refl _ _).alloc (Nat.le_refl _) _) (Nat.le_refl _) _
            generalize (wr.alloc (.cells zc 27)).setRow wr.heap.size (ic x).toArray = W7 at hx7 hb7
            obtain ⟨q16, hq16⟩ : ∃ q, q = wr.heap.size := ⟨_, rfl⟩
            rw [← hq16] at hx7 ⊢
            have hMd := hMz.out.below (hb7.drew)
            have hvd := (hb7.drew.block _ hqw).trans hvz.out
            have hbd := hbz.trans (hb7.drew.mono hbz.size)
            have hod := ho.below hb7.drew
            have hra : W7.drew.rangeAt q16 0 (ic x) := by
              intro y v hy
              simp only [World.cell?, heap_drew, hx7, Nat.zero_add, List.getElem?_toArray]
              exact hy
            have hxd : W7.drew.heap[q16]? = some (.cells (ic x).toArray 27 (0, 0)) := hx7
            obtain ⟨ag, hag⟩ : ∃ ag : Sem Bool, ag = isAgg 27 := ⟨_, rfl⟩
            obtain ⟨so, hso⟩ : ∃ so : Sem Nat, so = sizeOf 27 := ⟨_, rfl⟩
            obtain ⟨N, hN⟩ : ∃ N : Nat, N = 64 := ⟨_, rfl⟩
            have hag1 : isAgg 27 = ag := hag.symm
            have hso1 : sizeOf 27 = so := hso.symm
            have hag2 : ∀ w, ag.run Try.prog w = .ok true w := fun w => by rw [hag]; exact Try.isAgg27 w
            have hso2 : ∀ w, so.run Try.prog w = .ok N w := fun w => by rw [hso, hN]; exact Try.sizeOf27 w
            have hl2 : ∀ (w' : World), w'.rangeAt q16 0 (ic x) → (loadCellsFrom ⟨q16, 0, none⟩ 0 N #[]).run Try.prog w' = .ok (ic x).toArray w' := by
              intro w' hr
              have := run_loadCells_list (P := Try.prog) w' ⟨q16, 0, none⟩ (ic x) (fun j x hj => by rw [Addr.add_mid]; exact hr j x hj)
              rw [ic_size, HRk.out] at this
              rw [hN]
              exact this
            have lx := hl2 W7.drew hra
            have HLx := Lib.hid (fun w2 (h : Below W7.drew.heap.size W7.drew w2) => hl2 w2 (range_below hra h))
            have HVd := Lib.hid hvd
            have HXd := Lib.hid hxd
            clear hag hso hN hl2 hra hvd hxd hx7 hb7 ho hq16 HL hMz hWz hvz
            have heq := HHeq.out
            have HG := HHG.out
            go_wp2_with fail
            go_region_law (first | (go_simp; go_at_call 11; refine (HRow.out W7.drew hMd).mono ?_; rintro e w8 ⟨rfl, hb8⟩; have lx8 := HLx.out w8 hb8))
            all_goals
              clear hag1 hso1 hag2 hso2 lx lx8 heq HG
              have hv8 := (hb8.block _ (Array.getElem?_eq_some_iff.1 HVd.out).1).trans HVd.out
              have hx8 := (hb8.block _ (Array.getElem?_eq_some_iff.1 HXd.out).1).trans HXd.out
              have hb08 := hbd.trans (hb8.mono hbd.size)
              have ho8 := hod.below hb8
              cases z with
              | true =>
                have HIx := Lib.hid (HIn.out rfl)
                clear HIn HOut
                go_wp2_with (first
                | (refine wpList_load_row rfl 27 (.tmp 7) rfl w.heap.size rfl 27 _ (0, 0) _ hv8 Try.underlying27 rfl hiv.out ?_)
                | (refine wpList_load_row rfl 27 (.tmp 16) rfl q16 rfl 27 _ (0, 0) _ hx8 Try.underlying27 rfl hix.out ?_)
                | (go_at_call 10; refine (HWi.out _).mono ?_; rintro e w9 ⟨rfl, hb9⟩))
                go_roundg (m - (k + 1))
                case measure => omega
                case rel => exact ⟨k + 1, by omega, by go_num, by rw [HIx.out]; exact ho8.below hb9, hb08.trans (hb9.mono hb08.size)⟩
              | false =>
                have HE := Lib.hid (HOut.out rfl)
                clear HIn HOut
                generalize lack v rs k = y at ho8 HE hlk hod
                have hol := ho8
                unfold OI at hol
                obtain ⟨A1, c1, rfl, hl1, hA1⟩ := ho8.form
                go_upto_region 22 with (first
                | (refine wpList_load_row rfl 27 (.tmp 7) rfl w.heap.size rfl 27 _ (0, 0) _ hv8 Try.underlying27 rfl hiv.out ?_)
                | (refine wpList_load_row rfl 27 (.tmp 16) rfl q16 rfl 27 _ (0, 0) _ hx8 Try.underlying27 rfl hix.out ?_)
                | (go_at_call 10; refine (HWi.out _).mono ?_; rintro e w9 ⟨rfl, hb9⟩))
                have hb09 := hb08.trans (hb9.mono hb08.size)
                have ho9 := ho8.below hb9
                unfold OI at ho9
                clear hv8 hx8 hol hod ho8
                go_wp2_with (at_builtin; (refine wpList_app _ rfl _ _ 41 rfl W6.heap.size 3 _ 1 8 Try.underlying41 info_i64 rfl (by decide) _ _ _ rfl (World.ownsRow.alloc ho9 _) (some ⟨w9.heap.size, 0, none⟩) 1 1 [.int .i64 k] rfl rfl (Lies.new w9 3 _ (0, 0)) (by intro u hu; cases List.mem_singleton.1 hu; rfl) (by simp) ?c1 ?c2 ?c3 ?_))
                case c1 => rw [show maxLen = 9223372036854775807 from rfl]; omega
                case c2 => omega
                case c3 => have := hb09.size; simp; omega
                intro v3 w3 hown3 hg3 _
                have ho3 : OI w3 W6.heap.size v3 (y ++ [(k : Int)]) := OI.mk hown3 (by simp) (by simp)
                have hb3 : Below W6.heap.size W6 w3 := (hb09.alloc hb09.size _).grown hg3 (by have := hb09.size; simp; omega) (by intro k hk; exact (World.ownsRow.lt ho9 k hk).1)
                clear hown3 hg3 ho9
                go_wp2
                go_roundg (m - (k + 1))
                case measure => omega
                case rel => exact ⟨k + 1, by omega, by go_num, by rw [HE.out]; exact ho3, hb3⟩
          · obtain rfl : k = m := by omega
            have hlk := HLk k
            have hbW6 := hbW.trans (hbz.mono hbW.size)
            obtain ⟨N, hN⟩ : ∃ N : Nat, N = 64 := ⟨_, rfl⟩
            have HLk2 := hlk
            clear HLk
            have hlall : Hid (lack v rs rs.length = lack v rs k) := by show _ = _; rw [hrl]
            generalize hly : lack v rs k = y at ho hlk hlall
            have hst := stab_length (r := rs.headD []) (by cases rs with | nil => simp at hrl; omega | cons r t => exact hMz.out.wide r List.mem_cons_self) rs.tail (fun x hx => hMz.out.wide x (List.mem_of_mem_tail hx))
            change (stab rs).length = 64 at hst
            have heqS : ∀ w, (Op.equalIn 10000 27 (vv (stab rs)) (vv (stab rs))).run Try.prog w = .ok true w := fun w => by
              have := run_equalIn_vec (P := Try.prog) w 9998 27 3 64 (stab rs) (stab rs) Try.underlying27 Try.underlying3 Try.isAgg3 Try.sizeOf3 hst hst
              rwa [beq_self_eq_true] at this
            have HSi := fun w' (h : Mat w' g R rs) => size_any g R rs w' h
            have HSt := fun w' (h : Mat w' g R rs) => stable_any g R rs w' h (by omega) (by omega)
            have HRs := fun w' (h : Rws w' R2 rs) => rstable_any R2 rs w' h (by omega) (by omega)
            have HLa := fun w' (h : Mat w' g R rs) => lacks_any g R rs v w' h (by omega) HVL.out
            rw [hlall.out] at HLa
            rw [hrl] at HSi HRs
            unfold vv at heqS HSt HRs HLa
            have HSi := Lib.hid HSi
            have HSt := Lib.hid HSt
            have HRs := Lib.hid HRs
            have HLa := Lib.hid HLa
            have HHeqS := Lib.hid heqS
            clear heqS hlall hst HLk2 hly
            have HRow := Lib.hid (fun (ho : rep < 0 ∨ (k : Int) ≤ rep) (w' : World) (h : Mat w' g R rs) => row_out (some ⟨g, 0, none⟩) k rep w' (fun w'' hb => HSi.out w'' (h.below hb)) ho)
            have hla := ho.form
            obtain ⟨A1, c1, rfl, hl1, hA1⟩ := hla
            have HLi := Lib.hid (Lies.of_own ho)
            have HOo := Lib.hid ho
            have hy1000 : y.length ≤ 1000 := by omega
            have HM := Lib.hid (fun w' (hb : Below wr.heap.size wr w') => hMz.out.below hb)
            have HW := Lib.hid (fun w' (hb : Below wr.heap.size wr w') => hWz.out.below (by omega) hb)
            have hag1 : ∃ ag : Sem Bool, isAgg 27 = ag ∧ ∀ w, ag.run Try.prog w = .ok true w := ⟨_, rfl, fun w => Try.isAgg27 w⟩
            obtain ⟨ag, hag1, hag2⟩ := hag1
            have hso1 : ∃ so : Sem Nat, sizeOf 27 = so ∧ ∀ w, so.run Try.prog w = .ok N w := ⟨_, rfl, fun w => by rw [hN]; exact Try.sizeOf27 w⟩
            obtain ⟨so, hso1, hso2⟩ := hso1
            have hraz : wr.rangeAt w.heap.size 0 (ic v) := by
              intro y v hy
              simp only [World.cell?, hvz.out, Nat.zero_add, List.getElem?_toArray]
              exact hy
            have HLV : Hid (∀ (w' : World), Below wr.heap.size wr w' → (loadCellsFrom ⟨w.heap.size, 0, none⟩ 0 N #[]).run Try.prog w' = .ok (ic v).toArray w') := by
              show ∀ w', _
              intro w' hb
              have := run_loadCells_list (P := Try.prog) w' ⟨w.heap.size, 0, none⟩ (ic v) (fun j x hj => by rw [Addr.add_mid]; exact range_below hraz hb j x hj)
              rw [ic_size, HVL.out] at this
              rw [hN]
              exact this
            have hez := eqz
            have HG := guard_vec
            have heqS := HHeqS.out
            have hRM := HM.out wr (Below.refl _ _)
            have hRM := Lib.hid hRM
            clear hN hraz hMz hWz hvz ho hrl hbW hbz
            by_cases hrep : 0 ≤ rep ∧ rep < k
            · have hr1 := hrep.1
              have hr2 := hrep.2
              have hc1 : Below wr.heap.size wr wr := Below.refl _ _
              clear hrep
              go_wp2_with (first
                | (go_at_call 11; refine HRw.out.mono ?_; rintro e w1 ⟨rfl, hc1⟩)
                | (go_at_call 12; refine (HSi.out _ (HM.out _ hc1)).mono ?_; rintro e w' ⟨rfl, rfl⟩)
                | (go_at_call 8; refine (HSt.out _ (HM.out _ hc1)).mono ?_; rintro e w2 ⟨rfl, hb2⟩; have hc2 := hc1.trans (hb2.mono hc1.size))
                | (go_at_call 16; refine (HRs.out _ (HW.out _ hc2)).mono ?_; rintro e w3 ⟨rfl, hb3⟩; have hc3 := hc2.trans (hb3.mono hc2.size); have lv := HLV.out w3 hc3)
                | (go_at_call 14; refine (HLa.out _ (HM.out _ hc3)).mono ?_; rintro e w4 ⟨o2, rfl, ho2, hb4⟩; obtain ⟨A2, c2, rfl, hl2, hA2⟩ := ho2.form; have hc4 := hc3.trans (hb4.mono hc3.size); have HE := Lib.hid (iequal_any A2 A1 c2 c1 y w4 hl2 hl1 (Lies.of_own ho2) (Lies.of_own (HOo.out.below hc4)) hy1000))
                | (go_at_call 17; refine HE.out.mono ?_; rintro e w5 ⟨rfl, hb5⟩; have hc5 := hc4.trans (hb5.mono hc4.size))
                | (go_at_call 13; refine (awake_any _).mono ?_; rintro e w6 ⟨rfl, hb6⟩; have hc6 := hc5.trans (hb6.mono hc5.size)))
              go_ret
              exact ⟨rfl, hbW6.trans (hc6.mono hbW6.size)⟩
            · have ho : rep < 0 ∨ (k : Int) ≤ rep := by omega
              have HRw := Lib.hid (HRow.out ho wr hRM.out)
              by_cases hneg : rep < 0
              · clear ho hrep
                go_wp2_with (first
                | (go_at_call 11; refine HRw.out.mono ?_; rintro e w1 ⟨rfl, hc1⟩)
                | (go_at_call 12; refine (HSi.out _ (HM.out _ hc1)).mono ?_; rintro e w' ⟨rfl, rfl⟩)
                | (go_at_call 8; refine (HSt.out _ (HM.out _ hc1)).mono ?_; rintro e w2 ⟨rfl, hb2⟩; have hc2 := hc1.trans (hb2.mono hc1.size))
                | (go_at_call 16; refine (HRs.out _ (HW.out _ hc2)).mono ?_; rintro e w3 ⟨rfl, hb3⟩; have hc3 := hc2.trans (hb3.mono hc2.size); have lv := HLV.out w3 hc3)
                | (go_at_call 14; refine (HLa.out _ (HM.out _ hc3)).mono ?_; rintro e w4 ⟨o2, rfl, ho2, hb4⟩; obtain ⟨A2, c2, rfl, hl2, hA2⟩ := ho2.form; have hc4 := hc3.trans (hb4.mono hc3.size); have HE := Lib.hid (iequal_any A2 A1 c2 c1 y w4 hl2 hl1 (Lies.of_own ho2) (Lies.of_own (HOo.out.below hc4)) hy1000))
                | (go_at_call 17; refine HE.out.mono ?_; rintro e w5 ⟨rfl, hb5⟩; have hc5 := hc4.trans (hb5.mono hc4.size))
                | (go_at_call 13; refine (awake_any _).mono ?_; rintro e w6 ⟨rfl, hb6⟩; have hc6 := hc5.trans (hb6.mono hc5.size)))
                go_ret
                exact ⟨rfl, hbW6.trans (hc6.mono hbW6.size)⟩
              · have hge : (k : Int) ≤ rep := by omega
                have hnn : 0 ≤ rep := by omega
                clear ho hrep hneg
                go_wp2_with (first
                | (go_at_call 11; refine HRw.out.mono ?_; rintro e w1 ⟨rfl, hc1⟩)
                | (go_at_call 12; refine (HSi.out _ (HM.out _ hc1)).mono ?_; rintro e w' ⟨rfl, rfl⟩)
                | (go_at_call 8; refine (HSt.out _ (HM.out _ hc1)).mono ?_; rintro e w2 ⟨rfl, hb2⟩; have hc2 := hc1.trans (hb2.mono hc1.size))
                | (go_at_call 16; refine (HRs.out _ (HW.out _ hc2)).mono ?_; rintro e w3 ⟨rfl, hb3⟩; have hc3 := hc2.trans (hb3.mono hc2.size); have lv := HLV.out w3 hc3)
                | (go_at_call 14; refine (HLa.out _ (HM.out _ hc3)).mono ?_; rintro e w4 ⟨o2, rfl, ho2, hb4⟩; obtain ⟨A2, c2, rfl, hl2, hA2⟩ := ho2.form; have hc4 := hc3.trans (hb4.mono hc3.size); have HE := Lib.hid (iequal_any A2 A1 c2 c1 y w4 hl2 hl1 (Lies.of_own ho2) (Lies.of_own (HOo.out.below hc4)) hy1000))
                | (go_at_call 17; refine HE.out.mono ?_; rintro e w5 ⟨rfl, hb5⟩; have hc5 := hc4.trans (hb5.mono hc4.size))
                | (go_at_call 13; refine (awake_any _).mono ?_; rintro e w6 ⟨rfl, hb6⟩; have hc6 := hc5.trans (hb6.mono hc5.size)))
                go_ret
                exact ⟨rfl, hbW6.trans (hc6.mono hbW6.size)⟩
      · have hd : j = l.length := by omega
        subst hd
        go_upto_region 16 with fail
        generalize wr = W6 at hM hW hvb hbW ⊢
        go_wp2_with fail
        have HMr := Lib.hid hM
        have HWr := Lib.hid hW
        have HVb := Lib.hid hvb
        have HRl := Lib.hid hrl
        have HLk := fun k => lack_length v rs k
        clear hM hW hvb hrl
        go_loopg [14, 75] m (fun r o i wz => ∃ k : Nat, k + r = m ∧ i = .int .i64 k ∧ OI wz W6.heap.size o (lack v rs k) ∧ Below W6.heap.size W6 wz)
        case atStart => exact ⟨0, by omega, rfl, by rw [lack_zero]; exact World.ownsRow_nil _ _ _ _, Below.refl _ _⟩
        case round =>
          obtain ⟨k, hk, rfl, ho, hbz⟩ := hrel
          have hrl := HRl.out
          have hMz := Lib.hid (HMr.out.below hbz)
          have hWz := Lib.hid (HWr.out.below (by omega) hbz)
          have hvz := Lib.hid ((hbz.block _ (Array.getElem?_eq_some_iff.1 HVb.out).1).trans HVb.out)
          by_cases hkm : k < m
          · have hkl : k < rs.length := by omega
            have hrk := hMz.out.wide _ (List.getElem_mem hkl)
            have HRow := fun w' (hM : Mat w' g R rs) => row_in g R k rs w' hM hkl
            have HWi := fun w => rwithin_any v rs[k] w HVL.out hrk
            have heq : ∀ w, (Op.equalIn 10000 27 (vv rs[k]) (vv rs[k])).run Try.prog w = .ok true w := fun w => by
              have := run_equalIn_vec (P := Try.prog) w 9998 27 3 64 rs[k] rs[k] Try.underlying27 Try.underlying3 Try.isAgg3 Try.sizeOf3 hrk hrk
              rwa [beq_self_eq_true] at this
            have HIn := Lib.hid (lack_in v rs k hkl)
            have HOut := Lib.hid (lack_out v rs k hkl)
            have hlk := HLk k
            unfold vv at HRow HWi heq
            have HRow := Lib.hid HRow
            have HWi := Lib.hid HWi
            have HG := guard_vec
            have HL := Lib.hid (hWz.out.lies k hkl)
            have hki : ((k : Nat) : Int) < rs.length := by omega
            generalize inb v rs[k] = z at HWi HIn HOut
            generalize rs[k] = x at hrk HRow HWi heq HL
            have hir := Lib.hid (info_row hrk)
            have hix := Lib.hid (info_of hrk)
            have hox := Lib.hid (ic_one x)
            have hzx := Lib.hid (zs_of hrk)
            have hiv := Lib.hid (info_of HVL.out)
            have HRk := Lib.hid hrk
            have HHeq := Lib.hid heq
            have HHG := Lib.hid HG
            clear hrk heq HG
            have hqw : w.heap.size < wr.heap.size := (Array.getElem?_eq_some_iff.1 hvz.out).1
            go_upto_region 19 with (first
              | (refine wpList_load_mid rfl 27 (.tmp 78) rfl R2 (k * 64) rfl (ic x) _ HL.out Try.underlying27 rfl hir.out ?_)
              | (refine wpList_store_row rfl 27 (.tmp 16) _ rfl wr.heap.size (ic x).toArray rfl rfl 27 _ (heap_alloc_new _ _) hix.out hzx.out hox.out ?_))
            rw [zc_eq]
            have hx7 : ((wr.alloc (.cells zc 27)).setRow wr.heap.size (ic x).toArray).heap[wr.heap.size]? = some (.cells (ic x).toArray 27 (0, 0)) := setRow_heap _ _ _ _ _ _ (heap_alloc_new _ _)
            have hb7 : Below wr.heap.size wr ((wr.alloc (.cells zc 27)).setRow wr.heap.size (ic x).toArray) := below_setRow ((Below.refl _ _).alloc (Nat.le_refl _) _) (Nat.le_refl _) _
            generalize (wr.alloc (.cells zc 27)).setRow wr.heap.size (ic x).toArray = W7 at hx7 hb7
            obtain ⟨q16, hq16⟩ : ∃ q, q = wr.heap.size := ⟨_, rfl⟩
            rw [← hq16] at hx7 ⊢
            have hMd := hMz.out.below (hb7.drew)
            have hvd := (hb7.drew.block _ hqw).trans hvz.out
            have hbd := hbz.trans (hb7.drew.mono hbz.size)
            have hod := ho.below hb7.drew
            have hra : W7.drew.rangeAt q16 0 (ic x) := by
              intro y v hy
              simp only [World.cell?, heap_drew, hx7, Nat.zero_add, List.getElem?_toArray]
              exact hy
            have hxd : W7.drew.heap[q16]? = some (.cells (ic x).toArray 27 (0, 0)) := hx7
            obtain ⟨ag, hag⟩ : ∃ ag : Sem Bool, ag = isAgg 27 := ⟨_, rfl⟩
            obtain ⟨so, hso⟩ : ∃ so : Sem Nat, so = sizeOf 27 := ⟨_, rfl⟩
            obtain ⟨N, hN⟩ : ∃ N : Nat, N = 64 := ⟨_, rfl⟩
            have hag1 : isAgg 27 = ag := hag.symm
            have hso1 : sizeOf 27 = so := hso.symm
            have hag2 : ∀ w, ag.run Try.prog w = .ok true w := fun w => by rw [hag]; exact Try.isAgg27 w
            have hso2 : ∀ w, so.run Try.prog w = .ok N w := fun w => by rw [hso, hN]; exact Try.sizeOf27 w
            have hl2 : ∀ (w' : World), w'.rangeAt q16 0 (ic x) → (loadCellsFrom ⟨q16, 0, none⟩ 0 N #[]).run Try.prog w' = .ok (ic x).toArray w' := by
              intro w' hr
              have := run_loadCells_list (P := Try.prog) w' ⟨q16, 0, none⟩ (ic x) (fun j x hj => by rw [Addr.add_mid]; exact hr j x hj)
              rw [ic_size, HRk.out] at this
              rw [hN]
              exact this
            have lx := hl2 W7.drew hra
            have HLx := Lib.hid (fun w2 (h : Below W7.drew.heap.size W7.drew w2) => hl2 w2 (range_below hra h))
            have HVd := Lib.hid hvd
            have HXd := Lib.hid hxd
            clear hag hso hN hl2 hra hvd hxd hx7 hb7 ho hq16 HL hMz hWz hvz
            have heq := HHeq.out
            have HG := HHG.out
            go_wp2_with fail
            go_region_law (first | (go_simp; go_at_call 11; refine (HRow.out W7.drew hMd).mono ?_; rintro e w8 ⟨rfl, hb8⟩; have lx8 := HLx.out w8 hb8))
            all_goals
              clear hag1 hso1 hag2 hso2 lx lx8 heq HG
              have hv8 := (hb8.block _ (Array.getElem?_eq_some_iff.1 HVd.out).1).trans HVd.out
              have hx8 := (hb8.block _ (Array.getElem?_eq_some_iff.1 HXd.out).1).trans HXd.out
              have hb08 := hbd.trans (hb8.mono hbd.size)
              have ho8 := hod.below hb8
              cases z with
              | true =>
                have HIx := Lib.hid (HIn.out rfl)
                clear HIn HOut
                go_wp2_with (first
                | (refine wpList_load_row rfl 27 (.tmp 7) rfl w.heap.size rfl 27 _ (0, 0) _ hv8 Try.underlying27 rfl hiv.out ?_)
                | (refine wpList_load_row rfl 27 (.tmp 16) rfl q16 rfl 27 _ (0, 0) _ hx8 Try.underlying27 rfl hix.out ?_)
                | (go_at_call 10; refine (HWi.out _).mono ?_; rintro e w9 ⟨rfl, hb9⟩))
                go_roundg (m - (k + 1))
                case measure => omega
                case rel => exact ⟨k + 1, by omega, by go_num, by rw [HIx.out]; exact ho8.below hb9, hb08.trans (hb9.mono hb08.size)⟩
              | false =>
                have HE := Lib.hid (HOut.out rfl)
                clear HIn HOut
                generalize lack v rs k = y at ho8 HE hlk hod
                have hol := ho8
                unfold OI at hol
                obtain ⟨A1, c1, rfl, hl1, hA1⟩ := ho8.form
                go_upto_region 22 with (first
                | (refine wpList_load_row rfl 27 (.tmp 7) rfl w.heap.size rfl 27 _ (0, 0) _ hv8 Try.underlying27 rfl hiv.out ?_)
                | (refine wpList_load_row rfl 27 (.tmp 16) rfl q16 rfl 27 _ (0, 0) _ hx8 Try.underlying27 rfl hix.out ?_)
                | (go_at_call 10; refine (HWi.out _).mono ?_; rintro e w9 ⟨rfl, hb9⟩))
                have hb09 := hb08.trans (hb9.mono hb08.size)
                have ho9 := ho8.below hb9
                unfold OI at ho9
                clear hv8 hx8 hol hod ho8
                go_wp2_with (at_builtin; (refine wpList_app _ rfl _ _ 41 rfl W6.heap.size 3 _ 1 8 Try.underlying41 info_i64 rfl (by decide) _ _ _ rfl (World.ownsRow.alloc ho9 _) (some ⟨w9.heap.size, 0, none⟩) 1 1 [.int .i64 k] rfl rfl (Lies.new w9 3 _ (0, 0)) (by intro u hu; cases List.mem_singleton.1 hu; rfl) (by simp) ?c1 ?c2 ?c3 ?_))
                case c1 => rw [show maxLen = 9223372036854775807 from rfl]; omega
                case c2 => omega
                case c3 => have := hb09.size; simp; omega
                intro v3 w3 hown3 hg3 _
                have ho3 : OI w3 W6.heap.size v3 (y ++ [(k : Int)]) := OI.mk hown3 (by simp) (by simp)
                have hb3 : Below W6.heap.size W6 w3 := (hb09.alloc hb09.size _).grown hg3 (by have := hb09.size; simp; omega) (by intro k hk; exact (World.ownsRow.lt ho9 k hk).1)
                clear hown3 hg3 ho9
                go_wp2
                go_roundg (m - (k + 1))
                case measure => omega
                case rel => exact ⟨k + 1, by omega, by go_num, by rw [HE.out]; exact ho3, hb3⟩
          · obtain rfl : k = m := by omega
            have hlk := HLk k
            have hbW6 := hbW.trans (hbz.mono hbW.size)
            obtain ⟨N, hN⟩ : ∃ N : Nat, N = 64 := ⟨_, rfl⟩
            have HLk2 := hlk
            clear HLk
            have hlall : Hid (lack v rs rs.length = lack v rs k) := by show _ = _; rw [hrl]
            generalize hly : lack v rs k = y at ho hlk hlall
            have hst := stab_length (r := rs.headD []) (by cases rs with | nil => simp at hrl; omega | cons r t => exact hMz.out.wide r List.mem_cons_self) rs.tail (fun x hx => hMz.out.wide x (List.mem_of_mem_tail hx))
            change (stab rs).length = 64 at hst
            have heqS : ∀ w, (Op.equalIn 10000 27 (vv (stab rs)) (vv (stab rs))).run Try.prog w = .ok true w := fun w => by
              have := run_equalIn_vec (P := Try.prog) w 9998 27 3 64 (stab rs) (stab rs) Try.underlying27 Try.underlying3 Try.isAgg3 Try.sizeOf3 hst hst
              rwa [beq_self_eq_true] at this
            have HSi := fun w' (h : Mat w' g R rs) => size_any g R rs w' h
            have HSt := fun w' (h : Mat w' g R rs) => stable_any g R rs w' h (by omega) (by omega)
            have HRs := fun w' (h : Rws w' R2 rs) => rstable_any R2 rs w' h (by omega) (by omega)
            have HLa := fun w' (h : Mat w' g R rs) => lacks_any g R rs v w' h (by omega) HVL.out
            rw [hlall.out] at HLa
            rw [hrl] at HSi HRs
            unfold vv at heqS HSt HRs HLa
            have HSi := Lib.hid HSi
            have HSt := Lib.hid HSt
            have HRs := Lib.hid HRs
            have HLa := Lib.hid HLa
            have HHeqS := Lib.hid heqS
            clear heqS hlall hst HLk2 hly
            have HRow := Lib.hid (fun (ho : rep < 0 ∨ (k : Int) ≤ rep) (w' : World) (h : Mat w' g R rs) => row_out (some ⟨g, 0, none⟩) k rep w' (fun w'' hb => HSi.out w'' (h.below hb)) ho)
            have hla := ho.form
            obtain ⟨A1, c1, rfl, hl1, hA1⟩ := hla
            have HLi := Lib.hid (Lies.of_own ho)
            have HOo := Lib.hid ho
            have hy1000 : y.length ≤ 1000 := by omega
            have HM := Lib.hid (fun w' (hb : Below wr.heap.size wr w') => hMz.out.below hb)
            have HW := Lib.hid (fun w' (hb : Below wr.heap.size wr w') => hWz.out.below (by omega) hb)
            have hag1 : ∃ ag : Sem Bool, isAgg 27 = ag ∧ ∀ w, ag.run Try.prog w = .ok true w := ⟨_, rfl, fun w => Try.isAgg27 w⟩
            obtain ⟨ag, hag1, hag2⟩ := hag1
            have hso1 : ∃ so : Sem Nat, sizeOf 27 = so ∧ ∀ w, so.run Try.prog w = .ok N w := ⟨_, rfl, fun w => by rw [hN]; exact Try.sizeOf27 w⟩
            obtain ⟨so, hso1, hso2⟩ := hso1
            have hraz : wr.rangeAt w.heap.size 0 (ic v) := by
              intro y v hy
              simp only [World.cell?, hvz.out, Nat.zero_add, List.getElem?_toArray]
              exact hy
            have HLV : Hid (∀ (w' : World), Below wr.heap.size wr w' → (loadCellsFrom ⟨w.heap.size, 0, none⟩ 0 N #[]).run Try.prog w' = .ok (ic v).toArray w') := by
              show ∀ w', _
              intro w' hb
              have := run_loadCells_list (P := Try.prog) w' ⟨w.heap.size, 0, none⟩ (ic v) (fun j x hj => by rw [Addr.add_mid]; exact range_below hraz hb j x hj)
              rw [ic_size, HVL.out] at this
              rw [hN]
              exact this
            have hez := eqz
            have HG := guard_vec
            have heqS := HHeqS.out
            have hRM := HM.out wr (Below.refl _ _)
            have hRM := Lib.hid hRM
            clear hN hraz hMz hWz hvz ho hrl hbW hbz
            by_cases hrep : 0 ≤ rep ∧ rep < k
            · have hr1 := hrep.1
              have hr2 := hrep.2
              have hc1 : Below wr.heap.size wr wr := Below.refl _ _
              clear hrep
              go_wp2_with (first
                | (go_at_call 11; refine HRw.out.mono ?_; rintro e w1 ⟨rfl, hc1⟩)
                | (go_at_call 12; refine (HSi.out _ (HM.out _ hc1)).mono ?_; rintro e w' ⟨rfl, rfl⟩)
                | (go_at_call 8; refine (HSt.out _ (HM.out _ hc1)).mono ?_; rintro e w2 ⟨rfl, hb2⟩; have hc2 := hc1.trans (hb2.mono hc1.size))
                | (go_at_call 16; refine (HRs.out _ (HW.out _ hc2)).mono ?_; rintro e w3 ⟨rfl, hb3⟩; have hc3 := hc2.trans (hb3.mono hc2.size); have lv := HLV.out w3 hc3)
                | (go_at_call 14; refine (HLa.out _ (HM.out _ hc3)).mono ?_; rintro e w4 ⟨o2, rfl, ho2, hb4⟩; obtain ⟨A2, c2, rfl, hl2, hA2⟩ := ho2.form; have hc4 := hc3.trans (hb4.mono hc3.size); have HE := Lib.hid (iequal_any A2 A1 c2 c1 y w4 hl2 hl1 (Lies.of_own ho2) (Lies.of_own (HOo.out.below hc4)) hy1000))
                | (go_at_call 17; refine HE.out.mono ?_; rintro e w5 ⟨rfl, hb5⟩; have hc5 := hc4.trans (hb5.mono hc4.size))
                | (go_at_call 13; refine (awake_any _).mono ?_; rintro e w6 ⟨rfl, hb6⟩; have hc6 := hc5.trans (hb6.mono hc5.size)))
              go_ret
              exact ⟨rfl, hbW6.trans (hc6.mono hbW6.size)⟩
            · have ho : rep < 0 ∨ (k : Int) ≤ rep := by omega
              have HRw := Lib.hid (HRow.out ho wr hRM.out)
              by_cases hneg : rep < 0
              · clear ho hrep
                go_wp2_with (first
                | (go_at_call 11; refine HRw.out.mono ?_; rintro e w1 ⟨rfl, hc1⟩)
                | (go_at_call 12; refine (HSi.out _ (HM.out _ hc1)).mono ?_; rintro e w' ⟨rfl, rfl⟩)
                | (go_at_call 8; refine (HSt.out _ (HM.out _ hc1)).mono ?_; rintro e w2 ⟨rfl, hb2⟩; have hc2 := hc1.trans (hb2.mono hc1.size))
                | (go_at_call 16; refine (HRs.out _ (HW.out _ hc2)).mono ?_; rintro e w3 ⟨rfl, hb3⟩; have hc3 := hc2.trans (hb3.mono hc2.size); have lv := HLV.out w3 hc3)
                | (go_at_call 14; refine (HLa.out _ (HM.out _ hc3)).mono ?_; rintro e w4 ⟨o2, rfl, ho2, hb4⟩; obtain ⟨A2, c2, rfl, hl2, hA2⟩ := ho2.form; have hc4 := hc3.trans (hb4.mono hc3.size); have HE := Lib.hid (iequal_any A2 A1 c2 c1 y w4 hl2 hl1 (Lies.of_own ho2) (Lies.of_own (HOo.out.below hc4)) hy1000))
                | (go_at_call 17; refine HE.out.mono ?_; rintro e w5 ⟨rfl, hb5⟩; have hc5 := hc4.trans (hb5.mono hc4.size))
                | (go_at_call 13; refine (awake_any _).mono ?_; rintro e w6 ⟨rfl, hb6⟩; have hc6 := hc5.trans (hb6.mono hc5.size)))
                go_ret
                exact ⟨rfl, hbW6.trans (hc6.mono hbW6.size)⟩
              · have hge : (k : Int) ≤ rep := by omega
                have hnn : 0 ≤ rep := by omega
                clear ho hrep hneg
                go_wp2_with (first
                | (go_at_call 11; refine HRw.out.mono ?_; rintro e w1 ⟨rfl, hc1⟩)
                | (go_at_call 12; refine (HSi.out _ (HM.out _ hc1)).mono ?_; rintro e w' ⟨rfl, rfl⟩)
                | (go_at_call 8; refine (HSt.out _ (HM.out _ hc1)).mono ?_; rintro e w2 ⟨rfl, hb2⟩; have hc2 := hc1.trans (hb2.mono hc1.size))
                | (go_at_call 16; refine (HRs.out _ (HW.out _ hc2)).mono ?_; rintro e w3 ⟨rfl, hb3⟩; have hc3 := hc2.trans (hb3.mono hc2.size); have lv := HLV.out w3 hc3)
                | (go_at_call 14; refine (HLa.out _ (HM.out _ hc3)).mono ?_; rintro e w4 ⟨o2, rfl, ho2, hb4⟩; obtain ⟨A2, c2, rfl, hl2, hA2⟩ := ho2.form; have hc4 := hc3.trans (hb4.mono hc3.size); have HE := Lib.hid (iequal_any A2 A1 c2 c1 y w4 hl2 hl1 (Lies.of_own ho2) (Lies.of_own (HOo.out.below hc4)) hy1000))
                | (go_at_call 17; refine HE.out.mono ?_; rintro e w5 ⟨rfl, hb5⟩; have hc5 := hc4.trans (hb5.mono hc4.size))
                | (go_at_call 13; refine (awake_any _).mono ?_; rintro e w6 ⟨rfl, hb6⟩; have hc6 := hc5.trans (hb6.mono hc5.size)))
                go_ret
                exact ⟨rfl, hbW6.trans (hc6.mono hbW6.size)⟩
end Go.Proofs.Ytokcohepkajloaa
