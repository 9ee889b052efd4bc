/- One that goes through postings: the walk of turn. -/
import Derived.Test.YtbeejmedekgjjaaPoJ
namespace Go.Proofs.Ytbeejmedekgjjaa
open Go.RowKit
set_option linter.unusedVariables false
set_option linter.unusedSimpArgs false
theorem min4 (n : Nat) : (if (n : Int) < 4 then (n : Int) else 4) = ((min n 4 : Nat) : Int) := by split <;> omega
set_option maxRecDepth 100000 in
set_option maxHeartbeats 3200000 in
theorem turn_any (t g r : Nat) (it : It) (w : World) (h : ItAt w t g r it) (ho : it.Ok) (hnb : it.bad = false) :
    Calls Try.prog 36 #[.pointer (some ⟨t, 0, none⟩)] w fun e w' => ∃ r', e = .returned (.tuple #[]) ∧ ItAt w' t g r' it.turn ∧ w.heap.size ≤ r' ∧ Only w w' [t, g] := by
  obtain ⟨T, hT⟩ : ∃ T, it.top = T := ⟨_, rfl⟩
  obtain ⟨L, hL⟩ : ∃ L : Int, (it.left : Int) = L := ⟨_, rfl⟩
  obtain ⟨I, hI⟩ : ∃ I : Int, (it.inn : Int) = I := ⟨_, rfl⟩
  have t0 := ho.t0
  have t1 := (ho.b hnb).1
  have hblk := h.blk
  rw [hT, hL, hI] at hblk
  have h5 : w.cell? ⟨t, 5, none⟩ = some (.int .i64 T) := blk_cell hblk
  have f4 : w.frozen? ⟨t, 4, none⟩ = false := blk_free hblk
  have k4 : w.cell? ⟨t, 4, none⟩ = some (.int .i64 it.last) := blk_cell hblk
  have hg1 := Lib.grownBy_setCell w t 4 (.int .i64 T)
  have hb1 : (w.setCell ⟨t, 4, none⟩ (.int .i64 T)).heap[t]? = some (.cells #[.pointer (some ⟨g, 0, none⟩), .pointer (some ⟨r, 0, none⟩), .int .i64 L, .int .i64 I, .int .i64 T, .int .i64 T, .bool it.bad] 66 (0, 0)) := by rw [heap_setCell_same w t 4 _ _ _ hblk]; rfl
  have hrg1 := h.rg.apart (noBytes_it hblk) (Ne.symm h.tg) hg1
  have htg := h.tg
  have hlt0 : t < w.heap.size := blk_lt hblk
  have hol := ho.g
  have hx := numS_le (65534 - T) it.runs
  have hx0 : (0 : Int) ≤ ((numS (65534 - T) it.runs).1 : Int) := by omega
  have HT := Lib.hid (show it.turn = { runs := (textS 65536 (numS (65534 - T) it.runs).2).2, run := some (textS 65536 (numS (65534 - T) it.runs).2).1, left := it.left, inn := min it.left 4, last := T, top := T + (1 + (numS (65534 - T) it.runs).1), bad := !(textS 65536 (numS (65534 - T) it.runs).2).2.isSome } from by rw [← hT]; rfl)
  have hln := numS_len (most := 65534 - T) hol
  rw [hT] at t0 t1
  have HM := Lib.hid (min4 it.left)
  rw [hL] at HM
  have hLb : 0 ≤ L ∧ L ≤ 65536 := by have := ho.l; omega
  have HL := Lib.hid hL
  clear h ho hT hL hI hblk
  go_enter Try.func36, Try.ntmps36
  go_wp2_with fail
  have hb1d : (w.setCell ⟨t, 4, none⟩ (.int .i64 T)).drew.heap[t]? = _ := hb1
  have hrg1d : RdS (w.setCell ⟨t, 4, none⟩ (.int .i64 T)).drew g it.runs := hrg1.below (Below.refl _ _).drew
  have hlt1 : t < (w.setCell ⟨t, 4, none⟩ (.int .i64 T)).drew.heap.size := blk_lt hb1d
  have HO1 := Lib.hid ((Only.of_grown hg1).mono (T := [t, g]) (fun i h => by simp at h; simp [h]))
  clear h5 f4 k4 hg1 hrg1
  generalize w.setCell ⟨t, 4, none⟩ (.int .i64 T) = w1 at hb1 hb1d hrg1d hlt1 HO1 ⊢
  go_cut [0] from 2 (fun s0 w2 => s0 = .pointer (some ⟨t, 0, none⟩) ∧ w2.heap[t]? = some (.cells #[.pointer (some ⟨g, 0, none⟩), .pointer (some ⟨r, 0, none⟩), .int .i64 L, .int .i64 I, .int .i64 T, .int .i64 (T + (1 + (numS (65534 - T) it.runs).1)), .bool it.bad] 66 (0, 0)) ∧ RdS w2 g (numS (65534 - T) it.runs).2 ∧ Only w w2 [t, g])
  case first =>
    have HN := Lib.hid (snum g (65534 - T) it.runs w1.drew hrg1d hol)
    obtain ⟨X, hX⟩ : ∃ X : Int, ((numS (65534 - T) it.runs).1 : Int) = X := ⟨_, rfl⟩
    rw [hX] at HN hx hx0
    have HX := Lib.hid hX
    have hbk : w1.drew.heap[t]? = _ := hb1d
    have hlt : t < w1.drew.heap.size := hlt1
    have k5 : w1.drew.cell? ⟨t, 5, none⟩ = some (.int .i64 T) := blk_cell hb1d
    have k0 : w1.drew.cell? ⟨t, 0, none⟩ = some (.pointer (some ⟨g, 0, none⟩)) := blk_cell hb1d
    have hw1 : IntKind.i64.wrap (65534 - T) = 65534 - T := by go_arith
    have hw2 : IntKind.i64.wrap (1 + X) = 1 + X := by go_arith
    have hw3 : IntKind.i64.wrap (T + (1 + X)) = T + (1 + X) := by go_arith
    clear HT hX hb1 hb1d hrg1d hlt1 HM hln
    refine wp_region_any (by kernel_rfl) ?_
    change wpAny _ _ _ _ _ _ _ (World.drew _)
    refine wpAny_take (i := 0) (v := ?_) rfl (by kernel_rfl) (by kernel_rfl) (by kernel_rfl) (fun _ _ _ h => h) (Or.inl ⟨by rfl, ?_⟩) ?_; rotate_left; (intro w; go_simp); (try with_reducible rfl)
    simp only [Act.put, List.getElem_toArray, List.getElem_cons_succ, List.getElem_cons_zero, List.setIfInBounds_toArray, List.set_cons_zero, List.set_cons_succ]
    refine wpAny_take (i := 1) (v := ?_) rfl (by kernel_rfl) (by kernel_rfl) (by kernel_rfl) (fun _ _ _ h => h) (Or.inl ⟨by rfl, ?_⟩) ?_; rotate_left; (intro w; go_simp); (try with_reducible rfl)
    simp only [Act.put, List.getElem_toArray, List.getElem_cons_succ, List.getElem_cons_zero, List.setIfInBounds_toArray, List.set_cons_zero, List.set_cons_succ]
    refine wpAny_take (i := 2) (v := ?_) rfl (by kernel_rfl) (by kernel_rfl) (by kernel_rfl) (fun _ _ _ h => h) (Or.inl ⟨by rfl, ?_⟩) ?_; rotate_left; (intro w; go_simp); (try with_reducible rfl)
    simp only [Act.put, List.getElem_toArray, List.getElem_cons_succ, List.getElem_cons_zero, List.setIfInBounds_toArray, List.set_cons_zero, List.set_cons_succ]
    refine wpAny_take (i := 4) (v := ?_) rfl (by kernel_rfl) (by kernel_rfl) (by kernel_rfl) (fun _ _ _ h => h) (Or.inl ⟨by rfl, ?_⟩) ?_; rotate_left; (intro w; go_simp); (try with_reducible rfl)
    simp only [Act.put, List.getElem_toArray, List.getElem_cons_succ, List.getElem_cons_zero, List.setIfInBounds_toArray, List.set_cons_zero, List.set_cons_succ]
    refine wpAny_take (i := 5) (v := ?_) rfl (by kernel_rfl) (by kernel_rfl) (by kernel_rfl) (fun _ _ _ h => h) (Or.inl ⟨by rfl, ?_⟩) ?_; rotate_left; (intro w; go_simp); (try with_reducible rfl)
    simp only [Act.put, List.getElem_toArray, List.getElem_cons_succ, List.getElem_cons_zero, List.setIfInBounds_toArray, List.set_cons_zero, List.set_cons_succ]
    refine wpAny_take (i := 6) (v := ?_) rfl (by kernel_rfl) (by kernel_rfl) (by kernel_rfl) (fun _ _ _ h => h) (Or.inl ⟨by rfl, ?_⟩) ?_; rotate_left; (intro w; go_simp); (try with_reducible rfl)
    simp only [Act.put, List.getElem_toArray, List.getElem_cons_succ, List.getElem_cons_zero, List.setIfInBounds_toArray, List.set_cons_zero, List.set_cons_succ]
    refine wpAny_take (i := 8) (v := ?_) rfl (by kernel_rfl) (by kernel_rfl) (by kernel_rfl) (fun _ _ _ h => h) (Or.inl ⟨by rfl, ?_⟩) ?_; rotate_left; (intro w; go_simp); (try with_reducible rfl)
    simp only [Act.put, List.getElem_toArray, List.getElem_cons_succ, List.getElem_cons_zero, List.setIfInBounds_toArray, List.set_cons_zero, List.set_cons_succ]
    refine wpAny_take (i := 9) (v := ?_) rfl (by kernel_rfl) (by kernel_rfl) (by kernel_rfl) (fun _ _ _ h => h) (Or.inl ⟨by rfl, ?_⟩) ?_; rotate_left; (intro w; go_simp); (try with_reducible rfl)
    simp only [Act.put, List.getElem_toArray, List.getElem_cons_succ, List.getElem_cons_zero, List.setIfInBounds_toArray, List.set_cons_zero, List.set_cons_succ]
    refine wpAny_take (i := 10) (v := ?_) rfl (by kernel_rfl) (by kernel_rfl) (by kernel_rfl) (fun _ _ _ h => h) (Or.inl ⟨by rfl, ?_⟩) ?_; rotate_left; (intro w; go_simp); (try with_reducible rfl)
    simp only [Act.put, List.getElem_toArray, List.getElem_cons_succ, List.getElem_cons_zero, List.setIfInBounds_toArray, List.set_cons_zero, List.set_cons_succ]
    refine wpAny_ready (rs := [3, 7, 11]) (by kernel_rfl) (by simp) ?_
    refine AllReady.cons rfl (fun K hK => ?_) (AllReady.cons rfl (fun K hK => ?_) (AllReady.cons rfl (fun K hK => ?_) AllReady.nil))
    · go_simp
      refine hK _ _ ?_
      clear hK K
      refine wpAny_ready (rs := [7, 11]) (by kernel_rfl) (by simp) ?_
      refine AllReady.cons rfl (fun K hK => ?_) (AllReady.cons rfl (fun K hK => ?_) AllReady.nil)
      · go_simp
        refine hK _ _ ?_
        clear hK K
        refine wpAny_ready (rs := [11]) (by kernel_rfl) (by simp) ?_
        refine AllReady.cons rfl (fun K hK => ?_) AllReady.nil
        go_simp
        refine hK _ _ ?_
        clear hK K
        refine wpAny_take (i := 12) (v := ?_) rfl (by kernel_rfl) (by kernel_rfl) (by kernel_rfl) (fun _ _ _ h => h) (Or.inl ⟨by rfl, ?_⟩) ?_; rotate_left; (intro w; go_simp); (try with_reducible rfl)
        simp only [Act.put, List.getElem_toArray, List.getElem_cons_succ, List.getElem_cons_zero, List.setIfInBounds_toArray, List.set_cons_zero, List.set_cons_succ]
        refine wpAny_ready (rs := [13]) (by kernel_rfl) (by simp) ?_
        refine AllReady.cons rfl (fun K hK => ?_) AllReady.nil
        go_simp
        go_at_call 34
        refine HN.out.mono ?_
        rintro e2 w2 ⟨rfl, hr2, hg2⟩
        have hb2 : w2.heap[t]? = some (.cells #[.pointer (some ⟨g, 0, none⟩), .pointer (some ⟨r, 0, none⟩), .int .i64 L, .int .i64 I, .int .i64 T, .int .i64 T, .bool it.bad] 66 (0, 0)) := (hg2.block t hlt (by simpa using htg)).trans hbk
        have k52 : w2.cell? ⟨t, 5, none⟩ = some (.int .i64 T) := blk_cell hb2
        have f52 : w2.frozen? ⟨t, 5, none⟩ = false := blk_free hb2
        try go_simp
        refine hK _ _ ?_
        clear hK K
        refine wpAny_take (i := 14) (v := ?_) rfl (by kernel_rfl) (by kernel_rfl) (by kernel_rfl) (fun _ _ _ h => h) (Or.inl ⟨by rfl, ?_⟩) ?_; rotate_left; (intro w; go_simp); (try with_reducible rfl)
        simp only [Act.put, List.getElem_toArray, List.getElem_cons_succ, List.getElem_cons_zero, List.setIfInBounds_toArray, List.set_cons_zero, List.set_cons_succ]
        refine wpAny_take (i := 15) (v := ?_) rfl (by kernel_rfl) (by kernel_rfl) (by kernel_rfl) (fun _ _ _ h => h) (Or.inl ⟨by rfl, ?_⟩) ?_; rotate_left; (intro w; go_simp); (try with_reducible rfl)
        simp only [Act.put, List.getElem_toArray, List.getElem_cons_succ, List.getElem_cons_zero, List.setIfInBounds_toArray, List.set_cons_zero, List.set_cons_succ]
        refine wpAny_take (i := 16) (v := ?_) rfl (by kernel_rfl) (by kernel_rfl) (by kernel_rfl) (fun _ _ _ h => h) (Or.inl ⟨by rfl, ?_⟩) ?_; rotate_left; (intro w; go_simp); (try with_reducible rfl)
        simp only [Act.put, List.getElem_toArray, List.getElem_cons_succ, List.getElem_cons_zero, List.setIfInBounds_toArray, List.set_cons_zero, List.set_cons_succ]
        refine wpAny_take (i := 17) (v := ?_) rfl (by kernel_rfl) (by kernel_rfl) (by kernel_rfl) (fun _ _ _ h => h) (Or.inl ⟨by rfl, ?_⟩) ?_; rotate_left; (intro w; go_simp); (try with_reducible rfl)
        simp only [Act.put, List.getElem_toArray, List.getElem_cons_succ, List.getElem_cons_zero, List.setIfInBounds_toArray, List.set_cons_zero, List.set_cons_succ]
        refine wpAny_ready (rs := [18]) (by kernel_rfl) (by simp) ?_
        refine AllReady.cons rfl (fun K hK => ?_) AllReady.nil
        go_simp
        refine hK _ _ ?_
        clear hK K
        refine wpAny_done (by kernel_rfl) ?_ _
        go_wp2_with fail
        go_meet
        rw [HX.out]
        have hgS := Lib.grownBy_setCell w2 t 5 (.int .i64 (T + (1 + X)))
        exact ⟨rfl, by rw [heap_setCell_same w2 t 5 _ _ _ hb2]; rfl, hr2.apart (noBytes_it hb2) (Ne.symm htg) hgS, ((HO1.out.trans (Only.of_below ((Below.refl _ _).drew) _)).trans ((Only.of_grown hg2).mono (fun i h => by simp at h; simp [h]))).trans ((Only.of_grown hgS).mono (fun i h => by simp at h; simp [h]))⟩
      · go_simp
        refine hK _ _ ?_
        clear hK K
        refine wpAny_take (i := 12) (v := ?_) rfl (by kernel_rfl) (by kernel_rfl) (by kernel_rfl) (fun _ _ _ h => h) (Or.inl ⟨by rfl, ?_⟩) ?_; rotate_left; (intro w; go_simp); (try with_reducible rfl)
        simp only [Act.put, List.getElem_toArray, List.getElem_cons_succ, List.getElem_cons_zero, List.setIfInBounds_toArray, List.set_cons_zero, List.set_cons_succ]
        refine wpAny_ready (rs := [7]) (by kernel_rfl) (by simp) ?_
        refine AllReady.cons rfl (fun K hK => ?_) AllReady.nil
        go_simp
        refine hK _ _ ?_
        clear hK K
        refine wpAny_ready (rs := [13]) (by kernel_rfl) (by simp) ?_
        refine AllReady.cons rfl (fun K hK => ?_) AllReady.nil
        go_simp
        go_at_call 34
        refine HN.out.mono ?_
        rintro e2 w2 ⟨rfl, hr2, hg2⟩
        have hb2 : w2.heap[t]? = some (.cells #[.pointer (some ⟨g, 0, none⟩), .pointer (some ⟨r, 0, none⟩), .int .i64 L, .int .i64 I, .int .i64 T, .int .i64 T, .bool it.bad] 66 (0, 0)) := (hg2.block t hlt (by simpa using htg)).trans hbk
        have k52 : w2.cell? ⟨t, 5, none⟩ = some (.int .i64 T) := blk_cell hb2
        have f52 : w2.frozen? ⟨t, 5, none⟩ = false := blk_free hb2
        try go_simp
        refine hK _ _ ?_
        clear hK K
        refine wpAny_take (i := 14) (v := ?_) rfl (by kernel_rfl) (by kernel_rfl) (by kernel_rfl) (fun _ _ _ h => h) (Or.inl ⟨by rfl, ?_⟩) ?_; rotate_left; (intro w; go_simp); (try with_reducible rfl)
        simp only [Act.put, List.getElem_toArray, List.getElem_cons_succ, List.getElem_cons_zero, List.setIfInBounds_toArray, List.set_cons_zero, List.set_cons_succ]
        refine wpAny_take (i := 15) (v := ?_) rfl (by kernel_rfl) (by kernel_rfl) (by kernel_rfl) (fun _ _ _ h => h) (Or.inl ⟨by rfl, ?_⟩) ?_; rotate_left; (intro w; go_simp); (try with_reducible rfl)
        simp only [Act.put, List.getElem_toArray, List.getElem_cons_succ, List.getElem_cons_zero, List.setIfInBounds_toArray, List.set_cons_zero, List.set_cons_succ]
        refine wpAny_take (i := 16) (v := ?_) rfl (by kernel_rfl) (by kernel_rfl) (by kernel_rfl) (fun _ _ _ h => h) (Or.inl ⟨by rfl, ?_⟩) ?_; rotate_left; (intro w; go_simp); (try with_reducible rfl)
        simp only [Act.put, List.getElem_toArray, List.getElem_cons_succ, List.getElem_cons_zero, List.setIfInBounds_toArray, List.set_cons_zero, List.set_cons_succ]
        refine wpAny_take (i := 17) (v := ?_) rfl (by kernel_rfl) (by kernel_rfl) (by kernel_rfl) (fun _ _ _ h => h) (Or.inl ⟨by rfl, ?_⟩) ?_; rotate_left; (intro w; go_simp); (try with_reducible rfl)
        simp only [Act.put, List.getElem_toArray, List.getElem_cons_succ, List.getElem_cons_zero, List.setIfInBounds_toArray, List.set_cons_zero, List.set_cons_succ]
        refine wpAny_ready (rs := [18]) (by kernel_rfl) (by simp) ?_
        refine AllReady.cons rfl (fun K hK => ?_) AllReady.nil
        go_simp
        refine hK _ _ ?_
        clear hK K
        refine wpAny_done (by kernel_rfl) ?_ _
        go_wp2_with fail
        go_meet
        rw [HX.out]
        have hgS := Lib.grownBy_setCell w2 t 5 (.int .i64 (T + (1 + X)))
        exact ⟨rfl, by rw [heap_setCell_same w2 t 5 _ _ _ hb2]; rfl, hr2.apart (noBytes_it hb2) (Ne.symm htg) hgS, ((HO1.out.trans (Only.of_below ((Below.refl _ _).drew) _)).trans ((Only.of_grown hg2).mono (fun i h => by simp at h; simp [h]))).trans ((Only.of_grown hgS).mono (fun i h => by simp at h; simp [h]))⟩
    · go_simp
      refine hK _ _ ?_
      clear hK K
      refine wpAny_ready (rs := [3, 11]) (by kernel_rfl) (by simp) ?_
      refine AllReady.cons rfl (fun K hK => ?_) (AllReady.cons rfl (fun K hK => ?_) AllReady.nil)
      · go_simp
        refine hK _ _ ?_
        clear hK K
        refine wpAny_ready (rs := [11]) (by kernel_rfl) (by simp) ?_
        refine AllReady.cons rfl (fun K hK => ?_) AllReady.nil
        go_simp
        refine hK _ _ ?_
        clear hK K
        refine wpAny_take (i := 12) (v := ?_) rfl (by kernel_rfl) (by kernel_rfl) (by kernel_rfl) (fun _ _ _ h => h) (Or.inl ⟨by rfl, ?_⟩) ?_; rotate_left; (intro w; go_simp); (try with_reducible rfl)
        simp only [Act.put, List.getElem_toArray, List.getElem_cons_succ, List.getElem_cons_zero, List.setIfInBounds_toArray, List.set_cons_zero, List.set_cons_succ]
        refine wpAny_ready (rs := [13]) (by kernel_rfl) (by simp) ?_
        refine AllReady.cons rfl (fun K hK => ?_) AllReady.nil
        go_simp
        go_at_call 34
        refine HN.out.mono ?_
        rintro e2 w2 ⟨rfl, hr2, hg2⟩
        have hb2 : w2.heap[t]? = some (.cells #[.pointer (some ⟨g, 0, none⟩), .pointer (some ⟨r, 0, none⟩), .int .i64 L, .int .i64 I, .int .i64 T, .int .i64 T, .bool it.bad] 66 (0, 0)) := (hg2.block t hlt (by simpa using htg)).trans hbk
        have k52 : w2.cell? ⟨t, 5, none⟩ = some (.int .i64 T) := blk_cell hb2
        have f52 : w2.frozen? ⟨t, 5, none⟩ = false := blk_free hb2
        try go_simp
        refine hK _ _ ?_
        clear hK K
        refine wpAny_take (i := 14) (v := ?_) rfl (by kernel_rfl) (by kernel_rfl) (by kernel_rfl) (fun _ _ _ h => h) (Or.inl ⟨by rfl, ?_⟩) ?_; rotate_left; (intro w; go_simp); (try with_reducible rfl)
        simp only [Act.put, List.getElem_toArray, List.getElem_cons_succ, List.getElem_cons_zero, List.setIfInBounds_toArray, List.set_cons_zero, List.set_cons_succ]
        refine wpAny_take (i := 15) (v := ?_) rfl (by kernel_rfl) (by kernel_rfl) (by kernel_rfl) (fun _ _ _ h => h) (Or.inl ⟨by rfl, ?_⟩) ?_; rotate_left; (intro w; go_simp); (try with_reducible rfl)
        simp only [Act.put, List.getElem_toArray, List.getElem_cons_succ, List.getElem_cons_zero, List.setIfInBounds_toArray, List.set_cons_zero, List.set_cons_succ]
        refine wpAny_take (i := 16) (v := ?_) rfl (by kernel_rfl) (by kernel_rfl) (by kernel_rfl) (fun _ _ _ h => h) (Or.inl ⟨by rfl, ?_⟩) ?_; rotate_left; (intro w; go_simp); (try with_reducible rfl)
        simp only [Act.put, List.getElem_toArray, List.getElem_cons_succ, List.getElem_cons_zero, List.setIfInBounds_toArray, List.set_cons_zero, List.set_cons_succ]
        refine wpAny_take (i := 17) (v := ?_) rfl (by kernel_rfl) (by kernel_rfl) (by kernel_rfl) (fun _ _ _ h => h) (Or.inl ⟨by rfl, ?_⟩) ?_; rotate_left; (intro w; go_simp); (try with_reducible rfl)
        simp only [Act.put, List.getElem_toArray, List.getElem_cons_succ, List.getElem_cons_zero, List.setIfInBounds_toArray, List.set_cons_zero, List.set_cons_succ]
        refine wpAny_ready (rs := [18]) (by kernel_rfl) (by simp) ?_
        refine AllReady.cons rfl (fun K hK => ?_) AllReady.nil
        go_simp
        refine hK _ _ ?_
        clear hK K
        refine wpAny_done (by kernel_rfl) ?_ _
        go_wp2_with fail
        go_meet
        rw [HX.out]
        have hgS := Lib.grownBy_setCell w2 t 5 (.int .i64 (T + (1 + X)))
        exact ⟨rfl, by rw [heap_setCell_same w2 t 5 _ _ _ hb2]; rfl, hr2.apart (noBytes_it hb2) (Ne.symm htg) hgS, ((HO1.out.trans (Only.of_below ((Below.refl _ _).drew) _)).trans ((Only.of_grown hg2).mono (fun i h => by simp at h; simp [h]))).trans ((Only.of_grown hgS).mono (fun i h => by simp at h; simp [h]))⟩
      · go_simp
        refine hK _ _ ?_
        clear hK K
        refine wpAny_take (i := 12) (v := ?_) rfl (by kernel_rfl) (by kernel_rfl) (by kernel_rfl) (fun _ _ _ h => h) (Or.inl ⟨by rfl, ?_⟩) ?_; rotate_left; (intro w; go_simp); (try with_reducible rfl)
        simp only [Act.put, List.getElem_toArray, List.getElem_cons_succ, List.getElem_cons_zero, List.setIfInBounds_toArray, List.set_cons_zero, List.set_cons_succ]
        refine wpAny_ready (rs := [3, 13]) (by kernel_rfl) (by simp) ?_
        refine AllReady.cons rfl (fun K hK => ?_) (AllReady.cons rfl (fun K hK => ?_) AllReady.nil)
        · go_simp
          refine hK _ _ ?_
          clear hK K
          refine wpAny_ready (rs := [13]) (by kernel_rfl) (by simp) ?_
          refine AllReady.cons rfl (fun K hK => ?_) AllReady.nil
          go_simp
          go_at_call 34
          refine HN.out.mono ?_
          rintro e2 w2 ⟨rfl, hr2, hg2⟩
          have hb2 : w2.heap[t]? = some (.cells #[.pointer (some ⟨g, 0, none⟩), .pointer (some ⟨r, 0, none⟩), .int .i64 L, .int .i64 I, .int .i64 T, .int .i64 T, .bool it.bad] 66 (0, 0)) := (hg2.block t hlt (by simpa using htg)).trans hbk
          have k52 : w2.cell? ⟨t, 5, none⟩ = some (.int .i64 T) := blk_cell hb2
          have f52 : w2.frozen? ⟨t, 5, none⟩ = false := blk_free hb2
          try go_simp
          refine hK _ _ ?_
          clear hK K
          refine wpAny_take (i := 14) (v := ?_) rfl (by kernel_rfl) (by kernel_rfl) (by kernel_rfl) (fun _ _ _ h => h) (Or.inl ⟨by rfl, ?_⟩) ?_; rotate_left; (intro w; go_simp); (try with_reducible rfl)
          simp only [Act.put, List.getElem_toArray, List.getElem_cons_succ, List.getElem_cons_zero, List.setIfInBounds_toArray, List.set_cons_zero, List.set_cons_succ]
          refine wpAny_take (i := 15) (v := ?_) rfl (by kernel_rfl) (by kernel_rfl) (by kernel_rfl) (fun _ _ _ h => h) (Or.inl ⟨by rfl, ?_⟩) ?_; rotate_left; (intro w; go_simp); (try with_reducible rfl)
          simp only [Act.put, List.getElem_toArray, List.getElem_cons_succ, List.getElem_cons_zero, List.setIfInBounds_toArray, List.set_cons_zero, List.set_cons_succ]
          refine wpAny_take (i := 16) (v := ?_) rfl (by kernel_rfl) (by kernel_rfl) (by kernel_rfl) (fun _ _ _ h => h) (Or.inl ⟨by rfl, ?_⟩) ?_; rotate_left; (intro w; go_simp); (try with_reducible rfl)
          simp only [Act.put, List.getElem_toArray, List.getElem_cons_succ, List.getElem_cons_zero, List.setIfInBounds_toArray, List.set_cons_zero, List.set_cons_succ]
          refine wpAny_take (i := 17) (v := ?_) rfl (by kernel_rfl) (by kernel_rfl) (by kernel_rfl) (fun _ _ _ h => h) (Or.inl ⟨by rfl, ?_⟩) ?_; rotate_left; (intro w; go_simp); (try with_reducible rfl)
          simp only [Act.put, List.getElem_toArray, List.getElem_cons_succ, List.getElem_cons_zero, List.setIfInBounds_toArray, List.set_cons_zero, List.set_cons_succ]
          refine wpAny_ready (rs := [18]) (by kernel_rfl) (by simp) ?_
          refine AllReady.cons rfl (fun K hK => ?_) AllReady.nil
          go_simp
          refine hK _ _ ?_
          clear hK K
          refine wpAny_done (by kernel_rfl) ?_ _
          go_wp2_with fail
          go_meet
          rw [HX.out]
          have hgS := Lib.grownBy_setCell w2 t 5 (.int .i64 (T + (1 + X)))
          exact ⟨rfl, by rw [heap_setCell_same w2 t 5 _ _ _ hb2]; rfl, hr2.apart (noBytes_it hb2) (Ne.symm htg) hgS, ((HO1.out.trans (Only.of_below ((Below.refl _ _).drew) _)).trans ((Only.of_grown hg2).mono (fun i h => by simp at h; simp [h]))).trans ((Only.of_grown hgS).mono (fun i h => by simp at h; simp [h]))⟩
        · go_simp
          go_at_call 34
          refine HN.out.mono ?_
          rintro e2 w2 ⟨rfl, hr2, hg2⟩
          have hb2 : w2.heap[t]? = some (.cells #[.pointer (some ⟨g, 0, none⟩), .pointer (some ⟨r, 0, none⟩), .int .i64 L, .int .i64 I, .int .i64 T, .int .i64 T, .bool it.bad] 66 (0, 0)) := (hg2.block t hlt (by simpa using htg)).trans hbk
          have k52 : w2.cell? ⟨t, 5, none⟩ = some (.int .i64 T) := blk_cell hb2
          have f52 : w2.frozen? ⟨t, 5, none⟩ = false := blk_free hb2
          try go_simp
          refine hK _ _ ?_
          clear hK K
          refine wpAny_take (i := 14) (v := ?_) rfl (by kernel_rfl) (by kernel_rfl) (by kernel_rfl) (fun _ _ _ h => h) (Or.inl ⟨by rfl, ?_⟩) ?_; rotate_left; (intro w; go_simp); (try with_reducible rfl)
          simp only [Act.put, List.getElem_toArray, List.getElem_cons_succ, List.getElem_cons_zero, List.setIfInBounds_toArray, List.set_cons_zero, List.set_cons_succ]
          refine wpAny_ready (rs := [3]) (by kernel_rfl) (by simp) ?_
          refine AllReady.cons rfl (fun K hK => ?_) AllReady.nil
          go_simp
          refine hK _ _ ?_
          clear hK K
          refine wpAny_take (i := 15) (v := ?_) rfl (by kernel_rfl) (by kernel_rfl) (by kernel_rfl) (fun _ _ _ h => h) (Or.inl ⟨by rfl, ?_⟩) ?_; rotate_left; (intro w; go_simp); (try with_reducible rfl)
          simp only [Act.put, List.getElem_toArray, List.getElem_cons_succ, List.getElem_cons_zero, List.setIfInBounds_toArray, List.set_cons_zero, List.set_cons_succ]
          refine wpAny_take (i := 16) (v := ?_) rfl (by kernel_rfl) (by kernel_rfl) (by kernel_rfl) (fun _ _ _ h => h) (Or.inl ⟨by rfl, ?_⟩) ?_; rotate_left; (intro w; go_simp); (try with_reducible rfl)
          simp only [Act.put, List.getElem_toArray, List.getElem_cons_succ, List.getElem_cons_zero, List.setIfInBounds_toArray, List.set_cons_zero, List.set_cons_succ]
          refine wpAny_take (i := 17) (v := ?_) rfl (by kernel_rfl) (by kernel_rfl) (by kernel_rfl) (fun _ _ _ h => h) (Or.inl ⟨by rfl, ?_⟩) ?_; rotate_left; (intro w; go_simp); (try with_reducible rfl)
          simp only [Act.put, List.getElem_toArray, List.getElem_cons_succ, List.getElem_cons_zero, List.setIfInBounds_toArray, List.set_cons_zero, List.set_cons_succ]
          refine wpAny_ready (rs := [18]) (by kernel_rfl) (by simp) ?_
          refine AllReady.cons rfl (fun K hK => ?_) AllReady.nil
          go_simp
          refine hK _ _ ?_
          clear hK K
          refine wpAny_done (by kernel_rfl) ?_ _
          go_wp2_with fail
          go_meet
          rw [HX.out]
          have hgS := Lib.grownBy_setCell w2 t 5 (.int .i64 (T + (1 + X)))
          exact ⟨rfl, by rw [heap_setCell_same w2 t 5 _ _ _ hb2]; rfl, hr2.apart (noBytes_it hb2) (Ne.symm htg) hgS, ((HO1.out.trans (Only.of_below ((Below.refl _ _).drew) _)).trans ((Only.of_grown hg2).mono (fun i h => by simp at h; simp [h]))).trans ((Only.of_grown hgS).mono (fun i h => by simp at h; simp [h]))⟩
    · go_simp
      refine hK _ _ ?_
      clear hK K
      refine wpAny_take (i := 12) (v := ?_) rfl (by kernel_rfl) (by kernel_rfl) (by kernel_rfl) (fun _ _ _ h => h) (Or.inl ⟨by rfl, ?_⟩) ?_; rotate_left; (intro w; go_simp); (try with_reducible rfl)
      simp only [Act.put, List.getElem_toArray, List.getElem_cons_succ, List.getElem_cons_zero, List.setIfInBounds_toArray, List.set_cons_zero, List.set_cons_succ]
      refine wpAny_ready (rs := [3, 7]) (by kernel_rfl) (by simp) ?_
      refine AllReady.cons rfl (fun K hK => ?_) (AllReady.cons rfl (fun K hK => ?_) AllReady.nil)
      · go_simp
        refine hK _ _ ?_
        clear hK K
        refine wpAny_ready (rs := [7]) (by kernel_rfl) (by simp) ?_
        refine AllReady.cons rfl (fun K hK => ?_) AllReady.nil
        go_simp
        refine hK _ _ ?_
        clear hK K
        refine wpAny_ready (rs := [13]) (by kernel_rfl) (by simp) ?_
        refine AllReady.cons rfl (fun K hK => ?_) AllReady.nil
        go_simp
        go_at_call 34
        refine HN.out.mono ?_
        rintro e2 w2 ⟨rfl, hr2, hg2⟩
        have hb2 : w2.heap[t]? = some (.cells #[.pointer (some ⟨g, 0, none⟩), .pointer (some ⟨r, 0, none⟩), .int .i64 L, .int .i64 I, .int .i64 T, .int .i64 T, .bool it.bad] 66 (0, 0)) := (hg2.block t hlt (by simpa using htg)).trans hbk
        have k52 : w2.cell? ⟨t, 5, none⟩ = some (.int .i64 T) := blk_cell hb2
        have f52 : w2.frozen? ⟨t, 5, none⟩ = false := blk_free hb2
        try go_simp
        refine hK _ _ ?_
        clear hK K
        refine wpAny_take (i := 14) (v := ?_) rfl (by kernel_rfl) (by kernel_rfl) (by kernel_rfl) (fun _ _ _ h => h) (Or.inl ⟨by rfl, ?_⟩) ?_; rotate_left; (intro w; go_simp); (try with_reducible rfl)
        simp only [Act.put, List.getElem_toArray, List.getElem_cons_succ, List.getElem_cons_zero, List.setIfInBounds_toArray, List.set_cons_zero, List.set_cons_succ]
        refine wpAny_take (i := 15) (v := ?_) rfl (by kernel_rfl) (by kernel_rfl) (by kernel_rfl) (fun _ _ _ h => h) (Or.inl ⟨by rfl, ?_⟩) ?_; rotate_left; (intro w; go_simp); (try with_reducible rfl)
        simp only [Act.put, List.getElem_toArray, List.getElem_cons_succ, List.getElem_cons_zero, List.setIfInBounds_toArray, List.set_cons_zero, List.set_cons_succ]
        refine wpAny_take (i := 16) (v := ?_) rfl (by kernel_rfl) (by kernel_rfl) (by kernel_rfl) (fun _ _ _ h => h) (Or.inl ⟨by rfl, ?_⟩) ?_; rotate_left; (intro w; go_simp); (try with_reducible rfl)
        simp only [Act.put, List.getElem_toArray, List.getElem_cons_succ, List.getElem_cons_zero, List.setIfInBounds_toArray, List.set_cons_zero, List.set_cons_succ]
        refine wpAny_take (i := 17) (v := ?_) rfl (by kernel_rfl) (by kernel_rfl) (by kernel_rfl) (fun _ _ _ h => h) (Or.inl ⟨by rfl, ?_⟩) ?_; rotate_left; (intro w; go_simp); (try with_reducible rfl)
        simp only [Act.put, List.getElem_toArray, List.getElem_cons_succ, List.getElem_cons_zero, List.setIfInBounds_toArray, List.set_cons_zero, List.set_cons_succ]
        refine wpAny_ready (rs := [18]) (by kernel_rfl) (by simp) ?_
        refine AllReady.cons rfl (fun K hK => ?_) AllReady.nil
        go_simp
        refine hK _ _ ?_
        clear hK K
        refine wpAny_done (by kernel_rfl) ?_ _
        go_wp2_with fail
        go_meet
        rw [HX.out]
        have hgS := Lib.grownBy_setCell w2 t 5 (.int .i64 (T + (1 + X)))
        exact ⟨rfl, by rw [heap_setCell_same w2 t 5 _ _ _ hb2]; rfl, hr2.apart (noBytes_it hb2) (Ne.symm htg) hgS, ((HO1.out.trans (Only.of_below ((Below.refl _ _).drew) _)).trans ((Only.of_grown hg2).mono (fun i h => by simp at h; simp [h]))).trans ((Only.of_grown hgS).mono (fun i h => by simp at h; simp [h]))⟩
      · go_simp
        refine hK _ _ ?_
        clear hK K
        refine wpAny_ready (rs := [3, 13]) (by kernel_rfl) (by simp) ?_
        refine AllReady.cons rfl (fun K hK => ?_) (AllReady.cons rfl (fun K hK => ?_) AllReady.nil)
        · go_simp
          refine hK _ _ ?_
          clear hK K
          refine wpAny_ready (rs := [13]) (by kernel_rfl) (by simp) ?_
          refine AllReady.cons rfl (fun K hK => ?_) AllReady.nil
          go_simp
          go_at_call 34
          refine HN.out.mono ?_
          rintro e2 w2 ⟨rfl, hr2, hg2⟩
          have hb2 : w2.heap[t]? = some (.cells #[.pointer (some ⟨g, 0, none⟩), .pointer (some ⟨r, 0, none⟩), .int .i64 L, .int .i64 I, .int .i64 T, .int .i64 T, .bool it.bad] 66 (0, 0)) := (hg2.block t hlt (by simpa using htg)).trans hbk
          have k52 : w2.cell? ⟨t, 5, none⟩ = some (.int .i64 T) := blk_cell hb2
          have f52 : w2.frozen? ⟨t, 5, none⟩ = false := blk_free hb2
          try go_simp
          refine hK _ _ ?_
          clear hK K
          refine wpAny_take (i := 14) (v := ?_) rfl (by kernel_rfl) (by kernel_rfl) (by kernel_rfl) (fun _ _ _ h => h) (Or.inl ⟨by rfl, ?_⟩) ?_; rotate_left; (intro w; go_simp); (try with_reducible rfl)
          simp only [Act.put, List.getElem_toArray, List.getElem_cons_succ, List.getElem_cons_zero, List.setIfInBounds_toArray, List.set_cons_zero, List.set_cons_succ]
          refine wpAny_take (i := 15) (v := ?_) rfl (by kernel_rfl) (by kernel_rfl) (by kernel_rfl) (fun _ _ _ h => h) (Or.inl ⟨by rfl, ?_⟩) ?_; rotate_left; (intro w; go_simp); (try with_reducible rfl)
          simp only [Act.put, List.getElem_toArray, List.getElem_cons_succ, List.getElem_cons_zero, List.setIfInBounds_toArray, List.set_cons_zero, List.set_cons_succ]
          refine wpAny_take (i := 16) (v := ?_) rfl (by kernel_rfl) (by kernel_rfl) (by kernel_rfl) (fun _ _ _ h => h) (Or.inl ⟨by rfl, ?_⟩) ?_; rotate_left; (intro w; go_simp); (try with_reducible rfl)
          simp only [Act.put, List.getElem_toArray, List.getElem_cons_succ, List.getElem_cons_zero, List.setIfInBounds_toArray, List.set_cons_zero, List.set_cons_succ]
          refine wpAny_take (i := 17) (v := ?_) rfl (by kernel_rfl) (by kernel_rfl) (by kernel_rfl) (fun _ _ _ h => h) (Or.inl ⟨by rfl, ?_⟩) ?_; rotate_left; (intro w; go_simp); (try with_reducible rfl)
          simp only [Act.put, List.getElem_toArray, List.getElem_cons_succ, List.getElem_cons_zero, List.setIfInBounds_toArray, List.set_cons_zero, List.set_cons_succ]
          refine wpAny_ready (rs := [18]) (by kernel_rfl) (by simp) ?_
          refine AllReady.cons rfl (fun K hK => ?_) AllReady.nil
          go_simp
          refine hK _ _ ?_
          clear hK K
          refine wpAny_done (by kernel_rfl) ?_ _
          go_wp2_with fail
          go_meet
          rw [HX.out]
          have hgS := Lib.grownBy_setCell w2 t 5 (.int .i64 (T + (1 + X)))
          exact ⟨rfl, by rw [heap_setCell_same w2 t 5 _ _ _ hb2]; rfl, hr2.apart (noBytes_it hb2) (Ne.symm htg) hgS, ((HO1.out.trans (Only.of_below ((Below.refl _ _).drew) _)).trans ((Only.of_grown hg2).mono (fun i h => by simp at h; simp [h]))).trans ((Only.of_grown hgS).mono (fun i h => by simp at h; simp [h]))⟩
        · go_simp
          go_at_call 34
          refine HN.out.mono ?_
          rintro e2 w2 ⟨rfl, hr2, hg2⟩
          have hb2 : w2.heap[t]? = some (.cells #[.pointer (some ⟨g, 0, none⟩), .pointer (some ⟨r, 0, none⟩), .int .i64 L, .int .i64 I, .int .i64 T, .int .i64 T, .bool it.bad] 66 (0, 0)) := (hg2.block t hlt (by simpa using htg)).trans hbk
          have k52 : w2.cell? ⟨t, 5, none⟩ = some (.int .i64 T) := blk_cell hb2
          have f52 : w2.frozen? ⟨t, 5, none⟩ = false := blk_free hb2
          try go_simp
          refine hK _ _ ?_
          clear hK K
          refine wpAny_take (i := 14) (v := ?_) rfl (by kernel_rfl) (by kernel_rfl) (by kernel_rfl) (fun _ _ _ h => h) (Or.inl ⟨by rfl, ?_⟩) ?_; rotate_left; (intro w; go_simp); (try with_reducible rfl)
          simp only [Act.put, List.getElem_toArray, List.getElem_cons_succ, List.getElem_cons_zero, List.setIfInBounds_toArray, List.set_cons_zero, List.set_cons_succ]
          refine wpAny_ready (rs := [3]) (by kernel_rfl) (by simp) ?_
          refine AllReady.cons rfl (fun K hK => ?_) AllReady.nil
          go_simp
          refine hK _ _ ?_
          clear hK K
          refine wpAny_take (i := 15) (v := ?_) rfl (by kernel_rfl) (by kernel_rfl) (by kernel_rfl) (fun _ _ _ h => h) (Or.inl ⟨by rfl, ?_⟩) ?_; rotate_left; (intro w; go_simp); (try with_reducible rfl)
          simp only [Act.put, List.getElem_toArray, List.getElem_cons_succ, List.getElem_cons_zero, List.setIfInBounds_toArray, List.set_cons_zero, List.set_cons_succ]
          refine wpAny_take (i := 16) (v := ?_) rfl (by kernel_rfl) (by kernel_rfl) (by kernel_rfl) (fun _ _ _ h => h) (Or.inl ⟨by rfl, ?_⟩) ?_; rotate_left; (intro w; go_simp); (try with_reducible rfl)
          simp only [Act.put, List.getElem_toArray, List.getElem_cons_succ, List.getElem_cons_zero, List.setIfInBounds_toArray, List.set_cons_zero, List.set_cons_succ]
          refine wpAny_take (i := 17) (v := ?_) rfl (by kernel_rfl) (by kernel_rfl) (by kernel_rfl) (fun _ _ _ h => h) (Or.inl ⟨by rfl, ?_⟩) ?_; rotate_left; (intro w; go_simp); (try with_reducible rfl)
          simp only [Act.put, List.getElem_toArray, List.getElem_cons_succ, List.getElem_cons_zero, List.setIfInBounds_toArray, List.set_cons_zero, List.set_cons_succ]
          refine wpAny_ready (rs := [18]) (by kernel_rfl) (by simp) ?_
          refine AllReady.cons rfl (fun K hK => ?_) AllReady.nil
          go_simp
          refine hK _ _ ?_
          clear hK K
          refine wpAny_done (by kernel_rfl) ?_ _
          go_wp2_with fail
          go_meet
          rw [HX.out]
          have hgS := Lib.grownBy_setCell w2 t 5 (.int .i64 (T + (1 + X)))
          exact ⟨rfl, by rw [heap_setCell_same w2 t 5 _ _ _ hb2]; rfl, hr2.apart (noBytes_it hb2) (Ne.symm htg) hgS, ((HO1.out.trans (Only.of_below ((Below.refl _ _).drew) _)).trans ((Only.of_grown hg2).mono (fun i h => by simp at h; simp [h]))).trans ((Only.of_grown hgS).mono (fun i h => by simp at h; simp [h]))⟩
  case rest =>
    obtain ⟨rfl, hb2, hr2, ho2⟩ := hcut
    obtain ⟨M, hM⟩ : ∃ M : Int, ((min it.left 4 : Nat) : Int) = M := ⟨_, rfl⟩
    have qm : min L 4 = M := by rw [← hM, ← HL.out]; omega
    have qm2 := HM.out
    rw [hM] at qm2
    have hlt2 : t < wc.heap.size := blk_lt hb2
    have k2 : wc.cell? ⟨t, 2, none⟩ = some (.int .i64 L) := blk_cell hb2
    have k3 : wc.cell? ⟨t, 3, none⟩ = some (.int .i64 I) := blk_cell hb2
    have f3 : wc.frozen? ⟨t, 3, none⟩ = false := blk_free hb2
    obtain ⟨X, hX⟩ : ∃ X : Int, T + (1 + ((numS (65534 - T) it.runs).1 : Int)) = X := ⟨_, rfl⟩
    rw [hX] at hb2 HT
    generalize (numS (65534 - T) it.runs).2 = o1 at hr2 HT hln
    have hgS := Lib.grownBy_setCell wc t 3 (.int .i64 M)
    have hb3 : (wc.setCell ⟨t, 3, none⟩ (.int .i64 M)).heap[t]? = some (.cells #[.pointer (some ⟨g, 0, none⟩), .pointer (some ⟨r, 0, none⟩), .int .i64 L, .int .i64 M, .int .i64 T, .int .i64 X, .bool it.bad] 66 (0, 0)) := by rw [heap_setCell_same wc t 3 _ _ _ hb2]; rfl
    have hr3 := hr2.apart (noBytes_it hb2) (Ne.symm htg) hgS
    have ho3 := ho2.trans ((Only.of_grown hgS).mono (T := [t, g]) (fun i h => by simp at h; simp [h]))
    have HO3 := Lib.hid ho3
    have HMM := Lib.hid hM
    have HT2 := Lib.hid HT.out
    have htx := textS_small o1
    have hol1 := textS_len (most := 65536) (o := o1) hln
    clear HM HT hM hX ho2 ho3 hr2 hgS HO1 hx hx0 t0 t1 hLb hb1 hb1d hrg1d hlt1 hb2 hlt2 hol hlt0
    go_upto_region 3 with fail
    generalize wc.setCell ⟨t, 3, none⟩ (.int .i64 M) = w3 at hb3 hr3 HO3 ⊢
    have HTx := Lib.hid (stext g o1 w3 hr3 hln)
    generalize hTX : textS 65536 o1 = TX at HTx HT2 htx hol1
    obtain ⟨tx, o2⟩ := TX
    simp only at HTx HT2 htx hol1
    have kc := fun (w : World) => Lib.run_convert_string_bytes (P := Try.prog) w 9 23 5 (str tx) Try.underlying9 Try.underlying23 Try.underlying5
    have k0 : w3.cell? ⟨t, 0, none⟩ = some (.pointer (some ⟨g, 0, none⟩)) := blk_cell hb3
    have hlt3 : t < w3.heap.size := blk_lt hb3
    clear k2 k3 f3 qm qm2 hr3 hTX
    have hszT : (str tx).size = tx.length := str_size tx
    have hbyT : (str tx).data.toList = tx := str_toList tx
    have HSz := Lib.hid hszT
    have HBy := Lib.hid hbyT
    clear hszT hbyT
    go_wp2_with (first
      | (go_at_call 52; refine HTx.out.mono ?_; rintro e4 w4 ⟨rfl, hr4, hg4⟩
         have hb4 := (hg4.block t hlt3 (by simpa using htg)).trans hb3
         have hbY := Joins.below_bytesWorld w4.heap.size w4 5 (str tx) (Nat.le_refl _)
         have hRB := rb_bytes w4 (str tx)
         rw [HBy.out] at hRB
         have HRd := readok (some ⟨w4.heap.size, 0, none⟩) (grownCap w4 (str tx).size 0 5) tx _ (by omega) (by simp) hRB
         rw [← HSz.out] at HRd
         have HRd := Lib.hid HRd)
      | (go_at_call 33; refine HRd.out.mono ?_; rintro e5 w5 ⟨r', rfl, hr5, hrs5, hb5'⟩
         have hb45 : Below w4.heap.size w4 w5 := hbY.trans (hb5'.mono hbY.size)
         have hb5 := (hb45.block t (blk_lt hb4)).trans hb4
         have k1 : w5.cell? ⟨t, 1, none⟩ = some (.pointer (some ⟨r, 0, none⟩)) := blk_cell hb5
         have f1 : w5.frozen? ⟨t, 1, none⟩ = false := blk_free hb5
         have hg45 := hr4.below hb45
         have hgS := Lib.grownBy_setCell w5 t 1 (.pointer (some ⟨r', 0, none⟩))
         have hb6 : (w5.setCell ⟨t, 1, none⟩ (.pointer (some ⟨r', 0, none⟩))).heap[t]? = some (.cells #[.pointer (some ⟨g, 0, none⟩), .pointer (some ⟨r', 0, none⟩), .int .i64 L, .int .i64 M, .int .i64 T, .int .i64 X, .bool it.bad] 66 (0, 0)) := by rw [heap_setCell_same w5 t 1 _ _ _ hb5]; rfl
         have hg6 := hg45.apart (noBytes_it hb5) (Ne.symm htg) hgS
         have hw4r : w4.heap.size ≤ r' := Nat.le_trans hbY.size hrs5
         have htr : t ≠ r' := by have := blk_lt hb4; omega
         have hr6 : RdS (w5.setCell ⟨t, 1, none⟩ (.pointer (some ⟨r', 0, none⟩))) r' (some tx) := RdS.apart (o := some tx) hr5 (noBytes_it hb5) (Ne.symm htr) hgS
         have ho6 := ((HO3.out.trans ((Only.of_grown hg4).mono (T := [t, g]) (fun i h => by simp at h; simp [h]))).trans (Only.of_below hb45 _)).trans ((Only.of_grown hgS).mono (T := [t, g]) (fun i h => by simp at h; simp [h]))
         have k06 : (w5.setCell ⟨t, 1, none⟩ (.pointer (some ⟨r', 0, none⟩))).cell? ⟨t, 0, none⟩ = some (.pointer (some ⟨g, 0, none⟩)) := blk_cell hb6
         have k66 : (w5.setCell ⟨t, 1, none⟩ (.pointer (some ⟨r', 0, none⟩))).cell? ⟨t, 6, none⟩ = some (.bool it.bad) := blk_cell hb6
         have f66 : (w5.setCell ⟨t, 1, none⟩ (.pointer (some ⟨r', 0, none⟩))).frozen? ⟨t, 6, none⟩ = false := blk_free hb6
         have HEr := Lib.hid (serr g o2 _ hg6))
      | (go_at_call 39; refine HEr.out.mono ?_; rintro e7 w7 ⟨c7, rfl, hz, hp, rfl⟩))
    have hb7 := heap_setCell_same (w5.setCell ⟨t, 1, none⟩ (.pointer (some ⟨r', 0, none⟩))) t 6 _ _ (.bool ((c7 : Int) != 0)) hb6
    have hgS7 := Lib.grownBy_setCell (w5.setCell ⟨t, 1, none⟩ (.pointer (some ⟨r', 0, none⟩))) t 6 (.bool ((c7 : Int) != 0))
    have hbd : ((c7 : Int) != 0) = !o2.isSome := by
      cases ho : o2.isSome with
      | true => rw [hz ho]; rfl
      | false => have := hp ho; simp; omega
    have hsz : w.heap.size ≤ w4.heap.size := Nat.le_trans HO3.out.size hg4.size
    refine bodyPost_end (results_none rfl _ _ _) rfl ?_
    refine ⟨r', rfl, ?_, Nat.le_trans hsz hw4r, ho6.trans ((Only.of_grown hgS7).mono (T := [t, g]) (fun i h => by simp at h; simp [h]))⟩
    rw [HT2.out]
    refine ⟨?_, hg6.apart (noBytes_it hb6) (Ne.symm htg) hgS7, RdS.apart hr6 (noBytes_it hb6) (Ne.symm htr) hgS7, htg, htr, ?_⟩
    · rw [hb7, hbd, ← HL.out]
      simp only [HMM.out]
      rfl
    · have := hr4.lt; omega
end Go.Proofs.Ytbeejmedekgjjaa
