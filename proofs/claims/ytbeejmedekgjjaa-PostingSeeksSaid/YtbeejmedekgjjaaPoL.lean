/- One that goes through postings: the walks of skip and Open. -/
import Derived.Test.YtbeejmedekgjjaaPoK
namespace Go.Proofs.Ytbeejmedekgjjaa
open Go.RowKit
set_option linter.unusedVariables false
set_option linter.unusedSimpArgs false
set_option maxRecDepth 100000 in
set_option maxHeartbeats 3200000 in
theorem skip_any (t g r : Nat) (it : It) (w : World) (h : ItAt w t g r it) (ho : it.Ok) :
    Calls Try.prog 38 #[.pointer (some ⟨t, 0, none⟩)] w fun e w' => ∃ r', e = .returned (.tuple #[]) ∧ ItAt w' t g r' it.skip ∧ w.heap.size ≤ r' ∧ Only w w' [t, g] := by
  obtain ⟨T, hT⟩ : ∃ T, it.top = T := ⟨_, rfl⟩
  obtain ⟨L, hL⟩ : ∃ L : Int, (it.left : Int) = L := ⟨_, rfl⟩
  obtain ⟨I, hI⟩ : ∃ I : Int, (it.inn : Int) = I := ⟨_, rfl⟩
  have hblk := h.blk
  rw [hT, hL, hI] at hblk
  have il := ho.il
  have l1 := ho.l
  have hw : IntKind.i64.wrap (L - I) = L - I := by go_arith
  have HLI := Lib.hid (show L - I = ((it.left - it.inn : Nat) : Int) by omega)
  have HT := Lib.hid (show it.skip = { runs := it.runs, run := some [], left := it.left - it.inn, inn := 0, last := T, top := T, bad := it.bad } from by rw [← hT]; rfl)
  have h2 : w.cell? ⟨t, 2, none⟩ = some (.int .i64 L) := blk_cell hblk
  have f2 : w.frozen? ⟨t, 2, none⟩ = false := blk_free hblk
  have h3 : w.cell? ⟨t, 3, none⟩ = some (.int .i64 I) := blk_cell hblk
  have htg := h.tg
  have hgr := h.rg
  have hlt := blk_lt hblk
  have hb1 : (w.setCell ⟨t, 2, none⟩ (.int .i64 (L - I))).heap[t]? = some (.cells #[.pointer (some ⟨g, 0, none⟩), .pointer (some ⟨r, 0, none⟩), .int .i64 (L - I), .int .i64 I, .int .i64 it.last, .int .i64 T, .bool it.bad] 66 (0, 0)) := by rw [heap_setCell_same w t 2 _ _ _ hblk]; rfl
  have hg1 := Lib.grownBy_setCell w t 2 (.int .i64 (L - I))
  have hr1 := hgr.apart (noBytes_it hblk) (Ne.symm htg) hg1
  have ho1 := (Only.of_grown hg1).mono (T := [t, g]) (fun i h => by simp at h; simp [h])
  clear h ho hT hL hI il l1 hblk hgr hg1
  go_enter Try.func38, Try.ntmps38
  go_wp2_with fail
  go_region
  have hb1d : (w.setCell ⟨t, 2, none⟩ (.int .i64 (L - I))).drew.heap[t]? = _ := hb1
  have hr1d : RdS (w.setCell ⟨t, 2, none⟩ (.int .i64 (L - I))).drew g it.runs := hr1.below (Below.refl _ _).drew
  have hO1 := Lib.hid (ho1.trans (Only.of_below (Below.refl (w.setCell ⟨t, 2, none⟩ (.int .i64 (L - I))).heap.size (w.setCell ⟨t, 2, none⟩ (.int .i64 (L - I)))).drew [t, g]))
  clear h2 f2 h3 hb1 hr1 ho1 hw
  generalize (w.setCell ⟨t, 2, none⟩ (.int .i64 (L - I))).drew = w1 at hb1d hr1d hO1 ⊢
  have hg2 := Lib.grownBy_setCell w1 t 3 (.int .i64 0)
  have hb2 : (w1.setCell ⟨t, 3, none⟩ (.int .i64 0)).heap[t]? = some (.cells #[.pointer (some ⟨g, 0, none⟩), .pointer (some ⟨r, 0, none⟩), .int .i64 (L - I), .int .i64 0, .int .i64 it.last, .int .i64 T, .bool it.bad] 66 (0, 0)) := by rw [heap_setCell_same w1 t 3 _ _ _ hb1d]; rfl
  have hg3 := Lib.grownBy_setCell (w1.setCell ⟨t, 3, none⟩ (.int .i64 0)) t 4 (.int .i64 T)
  have hb3 : ((w1.setCell ⟨t, 3, none⟩ (.int .i64 0)).setCell ⟨t, 4, none⟩ (.int .i64 T)).heap[t]? = some (.cells #[.pointer (some ⟨g, 0, none⟩), .pointer (some ⟨r, 0, none⟩), .int .i64 (L - I), .int .i64 0, .int .i64 T, .int .i64 T, .bool it.bad] 66 (0, 0)) := by rw [heap_setCell_same _ t 4 _ _ _ hb2]; rfl
  have hr3 := (hr1d.apart (noBytes_it hb1d) (Ne.symm htg) hg2).apart (noBytes_it hb2) (Ne.symm htg) hg3
  have hO3 := Lib.hid ((hO1.out.trans ((Only.of_grown hg2).mono (T := [t, g]) (fun i h => by simp at h; simp [h]))).trans ((Only.of_grown hg3).mono (T := [t, g]) (fun i h => by simp at h; simp [h])))
  have k3 : w1.cell? ⟨t, 3, none⟩ = some (.int .i64 I) := blk_cell hb1d
  have f3 : w1.frozen? ⟨t, 3, none⟩ = false := blk_free hb1d
  have k5 : (w1.setCell ⟨t, 3, none⟩ (.int .i64 0)).cell? ⟨t, 5, none⟩ = some (.int .i64 T) := blk_cell hb2
  have k4 : (w1.setCell ⟨t, 3, none⟩ (.int .i64 0)).cell? ⟨t, 4, none⟩ = some (.int .i64 it.last) := blk_cell hb2
  have f4 : (w1.setCell ⟨t, 3, none⟩ (.int .i64 0)).frozen? ⟨t, 4, none⟩ = false := blk_free hb2
  have HR := Lib.hid (readok none 0 [] ((w1.setCell ⟨t, 3, none⟩ (.int .i64 0)).setCell ⟨t, 4, none⟩ (.int .i64 T)) (by simp) (fun _ => rfl) (fun k v hk => by simp at hk))
  clear hb1d hr1d hO1 hg2 hb2 hg3
  go_wp2_with (go_at_call 33; refine HR.out.mono ?_; rintro e4 w4 ⟨r', rfl, hr4, hrs, hb34⟩
               have hb4 := (hb34.block t (blk_lt hb3)).trans hb3
               have k1 : w4.cell? ⟨t, 1, none⟩ = some (.pointer (some ⟨r, 0, none⟩)) := blk_cell hb4
               have f1 : w4.frozen? ⟨t, 1, none⟩ = false := blk_free hb4)
  refine bodyPost_end (results_none rfl _ _ _) rfl ?_
  have hg5 := Lib.grownBy_setCell w4 t 1 (.pointer (some ⟨r', 0, none⟩))
  have hlt3 := blk_lt hb3
  have hs3 := hO3.out.size
  have hlr := hr3.lt
  have htr : t ≠ r' := by omega
  refine ⟨r', rfl, ?_, by omega, (hO3.out.trans (Only.of_below hb34 _)).trans ((Only.of_grown hg5).mono (T := [t, g]) (fun i h => by simp at h; simp [h]))⟩
  rw [HT.out]
  refine ⟨?_, (hr3.below hb34).apart (noBytes_it hb4) (Ne.symm htg) hg5, RdS.apart (o := some []) hr4 (noBytes_it hb4) (Ne.symm htr) hg5, htg, htr, by omega⟩
  rw [heap_setCell_same _ t 1 _ _ _ hb4, HLI.out]
  rfl
set_option maxRecDepth 100000 in
theorem open_any (A : Option Addr) (c : Nat) (bs : List UInt8) (w : World) (hm : bs.length ≤ 140737488355300) (hA : A = none → c = 0) (hr : RB w A bs) :
    Calls Try.prog 16 #[.slice A bs.length c] w fun e w' => ∃ t g r, e = .returned (.pointer (some ⟨t, 0, none⟩)) ∧ ItAt w' t g r { runs := (numS 65536 (some bs)).2, run := some [], left := (numS 65536 (some bs)).1, inn := 0, last := -1, top := -1, bad := false } ∧ w.heap.size ≤ t ∧ w.heap.size ≤ g ∧ w.heap.size ≤ r ∧ Below w.heap.size w w' := by
  have HR := Lib.hid (readok A c bs w (by omega) hA hr)
  go_enter Try.func16, Try.ntmps16
  go_wp2_with (first
    | (go_at_call 33; refine HR.out.mono ?_; rintro e1 w1 ⟨g, rfl, hg1, hge, hb1⟩
       have HR2 := Lib.hid (readok none 0 [] w1 (by simp) (fun _ => rfl) (fun k v hk => by simp at hk)))
    | (go_at_call 33; refine HR2.out.mono ?_; rintro e2 w2 ⟨r, rfl, hr2, hre, hb2⟩
       have HN := Lib.hid (snum g 65536 (some bs) w2 (RdS.below hg1 hb2) (fun b hb => by cases hb; omega)))
    | (go_at_call 34; refine HN.out.mono ?_; rintro e3 w3 ⟨rfl, hg3, hgb⟩))
  go_returns
  have hb12 : Below w.heap.size w w2 := hb1.trans (hb2.mono hb1.size)
  have hb23 : Below w.heap.size w2 w3 := (Below.refl _ _).grown hgb hb12.size (by intro k hk; injection hk with hk; omega)
  have hs3 := hb23.size
  have hs2 := hb2.size
  have hl2 : r < w2.heap.size := RdOk.lt hr2
  have hl1 : g < w1.heap.size := RdOk.lt hg1
  have hal := (Below.refl w3.heap.size w3).alloc (Nat.le_refl _)
  have hr3 : RdS w3 r (some []) := RdS.apart (o := some []) hr2 (RdS.noBytes (o := some bs) (RdS.below (o := some bs) hg1 hb2)) (by omega) hgb
  have hss := hgb.size
  have hs1 := hb1.size
  refine ⟨w3.heap.size, g, r, rfl, ⟨heap_alloc_new _ _, hg3.below (hal _), hr3.below (hal _), by omega, by omega, by omega⟩, by omega, hge, by omega, (hb12.trans hb23).alloc (by omega) _⟩
end Go.Proofs.Ytbeejmedekgjjaa
