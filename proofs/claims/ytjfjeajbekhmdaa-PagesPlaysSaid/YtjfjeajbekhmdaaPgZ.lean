/- An act done to both devices: the walk. -/
import Derived.Test.YtjfjeajbekhmdaaPgY
namespace Go.Proofs.Ytjfjeajbekhmdaa
open Go.RowKit Go.Maps
set_option linter.unusedVariables false
set_option linter.unusedSimpArgs false
/-- Both devices in memory, apart. -/
structure Two (w : World) (G K M C g a b c x y z : Nat) (d d2 : Dsk) : Prop where
  ours : DkAt w G K M C d
  its : RfAt w g a b c x y z d2
  ok2 : d2.Ok
  gg : G ∉ [g, a, b, c]
  kk : K ∉ [g, a, b, c]
  mm : M ∉ [g, a, b, c]
theorem Two.rev {w : World} {G K M C g a b c x y z : Nat} {d d2 : Dsk} (h : Two w G K M C g a b c x y z d d2) : g ∉ [G, K, M] ∧ a ∉ [G, K, M] ∧ b ∉ [G, K, M] ∧ c ∉ [G, K, M] := by
  have h1 := h.gg
  have h2 := h.kk
  have h3 := h.mm
  simp only [List.mem_cons, List.not_mem_nil, or_false, not_or] at h1 h2 h3 ⊢
  omega
theorem Two.below {w w' : World} {G K M C g a b c x y z : Nat} {d d2 : Dsk} (h : Two w G K M C g a b c x y z d d2) (hb : Below w.heap.size w w') : Two w' G K M C g a b c x y z d d2 :=
  ⟨h.ours.below hb, Rf.below h.its hb, h.ok2, h.gg, h.kk, h.mm⟩
theorem fused_at {w : World} {g a b c x y z : Nat} {d : Dsk} {n : Int} (hh : Rf w g a b c x y z d.kept.length d.nows d.hads d.iss (d.fused n).leftI (d.fused n).dead) : RfAt w g a b c x y z (d.fused n) := by
  have e1 : (d.fused n).kept = d.kept := by unfold Dsk.fused; split <;> rfl
  have e2 : (d.fused n).loose = d.loose := by unfold Dsk.fused; split <;> rfl
  unfold RfAt Dsk.nows Dsk.hads Dsk.iss Dsk.now at *
  rw [e1, e2]
  exact hh
theorem RB.take {w : World} {A : Option Addr} {bs : List UInt8} (h : RB w A bs) (n : Nat) : RB w A (bs.take n) := by
  intro i v hi
  rw [List.map_take, List.getElem?_take] at hi
  split at hi
  · exact h i v hi
  · cases hi
set_option maxRecDepth 100000 in
set_option maxHeartbeats 3200000 in
theorem does_any (G K M C g a b c x y z : Nat) (d d2 : Dsk) (k : Deed) (A B : Option Addr) (cc kc : Nat) (w : World) (h : Two w G K M C g a b c x y z d d2)
    (hr : RB w A k.b) (hcc : k.b.length ≤ cc) (hl : k.b.length ≤ 9223372036854775807) (hAk : ∀ p, A = some p → k.b ≠ [] → p.block ∉ [G, K, M, g, a, b, c])
    (hs : Lies w B (k.keep.map (Value.int .i64))) (hkl : k.keep.length ≤ 9223372036854775807) (hBk : ∀ p, B = some p → k.keep ≠ [] → p.block ∉ [G, K, M, g, a, b, c])
    (hn : k.n ≤ 9223372036854775807) (hn0 : -9223372036854775808 ≤ k.n) :
    Calls Try.prog 11 #[.pointer (some ⟨G, 0, none⟩), .pointer (some ⟨g, 0, none⟩), .agg #[.int .i64 k.op, .int .i64 k.i, .int .i64 k.n, .slice A k.b.length cc, .slice B k.keep.length kc]] w fun e w' => (∃ v, e = .returned (.bool v) ∧ (d = d2 → v = true)) ∧ Two w' G K M C g a b c x y z (d.did k) (d2.did k) ∧ Only w w' [G, K, M, g, a, b, c] := by
  obtain ⟨q, hq1, hq2⟩ : ∃ q : Nat, (if (200 : Int) < (k.b.length : Int) then 200 else (k.b.length : Int)) = (q : Int) ∧ q = (k.b.take 200).length := ⟨(k.b.take 200).length, by rw [List.length_take]; split <;> omega, rfl⟩
  have hq0 : (0 : Int) ≤ (q : Int) := by omega
  have hq3 : (q : Int) ≤ (cc : Int) := by rw [List.length_take] at hq2; omega
  obtain ⟨md, hmd⟩ : ∃ md, md = k.kind := ⟨_, rfl⟩
  have hmd2 := hmd
  unfold Deed.kind at hmd2
  have hb0 : Below w.heap.size w (w.alloc (.cells #[.int .i64 k.op, .int .i64 k.i, .int .i64 k.n, .slice A k.b.length cc, .slice B k.keep.length kc] 35)) := (Below.refl _ _).alloc (Nat.le_refl _) _
  have h1 := h.below hb0
  by_cases e3 : md = 3
  · have hdid : ∀ d : Dsk, d.did k = d.synced := fun d => by unfold Dsk.did; rw [← hmd, if_pos e3]
    rw [hdid, hdid]
    have hok := h.ok2.synced
    have hmq : ((IntKind.u64.wrap k.op).tmod 6 == 3) = true := by rw [← hmd2, beq_iff_eq]; exact e3
    have HS := Lib.hid (sync_any G K M C d _ h1.ours)
    have HR := Lib.hid (fun w2 hh => rsync_any g a b c x y z d2 w2 hh h1.ok2)
    have HT := Lib.hid h1
    have HB := Lib.hid (Only.of_below hb0 [G, K, M, g, a, b, c])
    clear h hr hs h1 hb0 hdid hmd hmd2 e3 hq2
    go_enter Try.func11, Try.ntmps11
    go_wp2_with (first
      | (go_at_call 9; refine HS.out.mono ?_; rintro e w1 ⟨rfl, hd1, ho1⟩
         obtain ⟨r1, r2, r3, r4⟩ := HT.out.rev
         have hi1 := Rf.only HT.out.its ho1 r1 r2 r3 r4)
      | (go_at_call 26; refine (HR.out _ hi1).mono ?_; rintro e w2 ⟨rfl, hd2, ho2⟩))
    go_returns
    have hT := HT.out
    have n1 : ∀ i ∈ [g, b, c], i ∈ [g, a, b, c] := fun i h => by simp at h ⊢; omega
    exact ⟨⟨_, rfl, fun e => by subst e; first | rfl | simp⟩, ⟨hd1.only ho2 (fun e => hT.gg (n1 _ e)) (fun e => hT.kk (n1 _ e)) (fun e => hT.mm (n1 _ e)), hd2, hok, hT.gg, hT.kk, hT.mm⟩, (HB.out.trans (ho1.mono (fun i h => by simp at h ⊢; omega))).trans (ho2.mono (fun i h => by simp at h ⊢; omega))⟩
  · by_cases e4 : md = 4
    · have hdid : ∀ d : Dsk, d.did k = d.crashed k.keep k.i k.n := fun d => by unfold Dsk.did; rw [← hmd, if_neg e3, if_pos e4]
      rw [hdid, hdid]
      have hok := h.ok2.crashed k.keep k.i k.n
      have hmq : ((IntKind.u64.wrap k.op).tmod 6 == 3) = false := by rw [← hmd2, beq_eq_false_iff_ne]; exact e3
      have hmr : ((IntKind.u64.wrap k.op).tmod 6 == 4) = true := by rw [← hmd2, beq_iff_eq]; exact e4
      have hs1 := Lies.below hs hb0
      have HR := Lib.hid (rcrash_any g a b c x y z d2 B kc k.keep k.i k.n _ h1.its h1.ok2 hs1 (fun p hp e0 hh => hBk p hp e0 (by simp at hh ⊢; omega)) hkl)
      have HS := Lib.hid (fun w2 hh hs2 => crash_any G K M C d B kc k.keep k.i k.n w2 hh hs2 (fun p hp e0 hh => hBk p hp e0 (by simp at hh ⊢; omega)) hkl)
      have HL := Lib.hid hs1
      have HT := Lib.hid h1
      have HB := Lib.hid (Only.of_below hb0 [G, K, M, g, a, b, c])
      have HBk : Hid (∀ p, B = some p → k.keep.map (Value.int .i64) ≠ [] → p.block ∉ [g, a, b, c]) := fun p hp e0 hh => hBk p hp (fun e1 => e0 (by rw [e1]; rfl)) (by simp at hh ⊢; omega)
      have hlt := Rf.lt h.its
      have HX : Hid (w.heap.size ∉ [g, a, b, c]) := fun hh => by simp at hh; omega
      clear h hr hs h1 hb0 hdid hmd hmd2 e3 e4 hq2 hs1
      go_enter Try.func11, Try.ntmps11
      go_wp2_with (first
        | (go_at_call 27; refine HR.out.mono ?_; rintro e w1 ⟨rfl, hd1, ho1⟩
           have hbx := (ho1.block w.heap.size (by simp) HX.out).trans (heap_alloc_new w _)
           have bx1 : w1.cell? ⟨w.heap.size, 1, none⟩ = some (.int .i64 k.i) := blk_cell hbx
           have bx2 : w1.cell? ⟨w.heap.size, 2, none⟩ = some (.int .i64 k.n) := blk_cell hbx
           have bx4 : w1.cell? ⟨w.heap.size, 4, none⟩ = some (.slice B k.keep.length kc) := blk_cell hbx
           have hD1 := HT.out.ours.only ho1 HT.out.gg HT.out.kk HT.out.mm
           have hs2 := lies_only HL.out ho1 HBk.out)
        | (go_at_call 12; refine (HS.out _ hD1 hs2).mono ?_; rintro e w2 ⟨rfl, hd2, ho2⟩))
      go_returns
      obtain ⟨r1, r2, r3, r4⟩ := HT.out.rev
      have hT := HT.out
      exact ⟨⟨_, rfl, fun e => by subst e; first | rfl | simp⟩, ⟨hd2, Rf.only hd1 ho2 r1 r2 r3 r4, hok, hT.gg, hT.kk, hT.mm⟩, (HB.out.trans (ho1.mono (fun i h => by simp at h ⊢; omega))).trans (ho2.mono (fun i h => by simp at h ⊢; omega))⟩
    · by_cases e5 : md = 5
      · have hdid : ∀ d : Dsk, d.did k = d.fused k.n := fun d => by unfold Dsk.did; rw [← hmd, if_neg e3, if_neg e4, if_pos e5]
        rw [hdid, hdid]
        have hok := h.ok2.fused hn
        have hmq : ((IntKind.u64.wrap k.op).tmod 6 == 3) = false := by rw [← hmd2, beq_eq_false_iff_ne]; exact e3
        have hmr : ((IntKind.u64.wrap k.op).tmod 6 == 4) = false := by rw [← hmd2, beq_eq_false_iff_ne]; exact e4
        have hms : ((IntKind.u64.wrap k.op).tmod 6 == 5) = true := by rw [← hmd2, beq_iff_eq]; exact e5
        have HF := Lib.hid (fun w2 hh => fuse_any G K M C d k.n w2 hh hn hn0)
        have HRf := Lib.hid (fun w2 hh => rfuse_any g a b c x y z d2.kept.length d2.nows d2.hads d2.iss d2 k.n w2 hh hn hn0)
        have hTd := h1.below (Below.refl _ _).drew
        have HT := Lib.hid hTd
        have HB := Lib.hid ((Only.of_below hb0 [G, K, M, g, a, b, c]).alike (Below.refl _ _).drew)
        have hlt := Rf.lt h.its
        have hlt2 := h.ours.lt
        have HX1 : Hid (w.heap.size ∉ [G]) := fun hh => by simp at hh; omega
        have HX2 : Hid (w.heap.size ∉ [g]) := fun hh => by simp at hh; omega
        have hbx := Lib.hid (show (w.alloc (.cells #[.int .i64 k.op, .int .i64 k.i, .int .i64 k.n, .slice A k.b.length cc, .slice B k.keep.length kc] 35)).drew.heap[w.heap.size]? = some (.cells #[.int .i64 k.op, .int .i64 k.i, .int .i64 k.n, .slice A k.b.length cc, .slice B k.keep.length kc] 35 (0, 0)) from heap_alloc_new w _)
        have hsz := Lib.hid (show w.heap.size < (w.alloc (.cells #[.int .i64 k.op, .int .i64 k.i, .int .i64 k.n, .slice A k.b.length cc, .slice B k.keep.length kc] 35)).drew.heap.size by simp)
        clear h hr hs h1 hb0 hdid hmd hmd2 e3 e4 e5 hq2 hTd
        go_enter Try.func11, Try.ntmps11
        go_wp2_with fail
        go_region_law (first
          | (go_simp; go_at_call 16; refine (HF.out _ hO2).mono ?_; rintro e w3 ⟨rfl, hd3, ho3⟩)
          | (go_simp; go_at_call 28; refine (HRf.out _ hI1).mono ?_; rintro e w3 ⟨rfl, hd3, ho3⟩)
          | (go_simp; go_at_call 16; refine (HF.out _ HT.out.ours).mono ?_; rintro e w1 ⟨rfl, hd1, ho1⟩
             have cx1 : w1.cell? ⟨w.heap.size, 2, none⟩ = some (.int .i64 k.n) := blk_cell ((ho1.block w.heap.size hsz.out HX1.out).trans hbx.out)
             have hI1 : Rf w1 g a b c x y z d2.kept.length d2.nows d2.hads d2.iss d2.leftI d2.dead := Rf.only HT.out.its ho1 (fun e => HT.out.rev.1 (by simp at e ⊢; omega)) (fun e => HT.out.rev.2.1 (by simp at e ⊢; omega)) (fun e => HT.out.rev.2.2.1 (by simp at e ⊢; omega)) (fun e => HT.out.rev.2.2.2 (by simp at e ⊢; omega)))
          | (go_simp; go_at_call 28; refine (HRf.out _ HT.out.its).mono ?_; rintro e w1 ⟨rfl, hd1, ho1⟩
             have cx1 : w1.cell? ⟨w.heap.size, 2, none⟩ = some (.int .i64 k.n) := blk_cell ((ho1.block w.heap.size hsz.out HX2.out).trans hbx.out)
             have hO2 : DkAt w1 G K M C d := HT.out.ours.only ho1 (fun e => HT.out.gg (by simp at e ⊢; omega)) (fun e => HT.out.kk (by simp at e ⊢; omega)) (fun e => HT.out.mm (by simp at e ⊢; omega))))
        all_goals try simp only [Act.put, List.getElem_toArray, List.getElem_cons_succ, List.getElem_cons_zero, List.setIfInBounds_toArray, List.set_cons_zero, List.set_cons_succ]
        all_goals go_wp2_with fail
        all_goals go_returns
        all_goals first
          | exact ⟨⟨_, rfl, fun e => by subst e; first | rfl | simp⟩, ⟨hd1.only ho3 (fun e => HT.out.gg (by simp at e ⊢; omega)) (fun e => HT.out.kk (by simp at e ⊢; omega)) (fun e => HT.out.mm (by simp at e ⊢; omega)), fused_at hd3, hok, HT.out.gg, HT.out.kk, HT.out.mm⟩, (HB.out.trans (ho1.mono (fun i h => by simp at h ⊢; omega))).trans (ho3.mono (fun i h => by simp at h ⊢; omega))⟩
          | exact ⟨⟨_, rfl, fun e => by subst e; first | rfl | simp⟩, ⟨hd3, fused_at (Rf.only hd1 ho3 (fun e => HT.out.rev.1 (by simp at e ⊢; omega)) (fun e => HT.out.rev.2.1 (by simp at e ⊢; omega)) (fun e => HT.out.rev.2.2.1 (by simp at e ⊢; omega)) (fun e => HT.out.rev.2.2.2 (by simp at e ⊢; omega))), hok, HT.out.gg, HT.out.kk, HT.out.mm⟩, (HB.out.trans (ho1.mono (fun i h => by simp at h ⊢; omega))).trans (ho3.mono (fun i h => by simp at h ⊢; omega))⟩
          | trace_state
      · have hdid : ∀ d : Dsk, d.did k = d.wrote k.i (k.b.take 200) := fun d => by unfold Dsk.did; rw [← hmd, if_neg e3, if_neg e4, if_neg e5]
        rw [hdid, hdid]
        have hok := h.ok2.wrote k.i (k.b.take 200)
        have hr2 := (hr.below hb0).take 200
        obtain ⟨bs, hbs⟩ : ∃ bs, k.b.take 200 = bs := ⟨_, rfl⟩
        rw [hbs] at hq2 hr2 hok ⊢
        have hAk1 : ∀ p, A = some p → bs ≠ [] → p.block ≠ G := fun p hp e0 e => hAk p hp (fun e1 => e0 (by rw [← hbs, e1]; rfl)) (by rw [e]; simp)
        have hAk2 : ∀ p, A = some p → bs ≠ [] → p.block ≠ g := fun p hp e0 e => hAk p hp (fun e1 => e0 (by rw [← hbs, e1]; rfl)) (by rw [e]; simp)
        have hbl : bs.length ≤ 9223372036854775807 := by rw [← hbs, List.length_take]; omega
        have hmq : ((IntKind.u64.wrap k.op).tmod 6 == 3) = false := by rw [← hmd2, beq_eq_false_iff_ne]; exact e3
        have hmr : ((IntKind.u64.wrap k.op).tmod 6 == 4) = false := by rw [← hmd2, beq_eq_false_iff_ne]; exact e4
        have hms : ((IntKind.u64.wrap k.op).tmod 6 == 5) = false := by rw [← hmd2, beq_eq_false_iff_ne]; exact e5
        have HF := Lib.hid (fun w2 hh hb2 => write_any G K M C d k.i A cc bs w2 hh hb2 hAk1 hbl)
        have HRf := Lib.hid (fun w2 hh hb2 => rwrite_any g a b c x y z d2 k.i A cc bs w2 hh h.ok2 hb2 hAk2 hbl)
        rw [← hq2] at HF HRf
        have hTd := h1.below (Below.refl _ _).drew
        have HT := Lib.hid hTd
        have HB := Lib.hid ((Only.of_below hb0 [G, K, M, g, a, b, c]).alike (Below.refl _ _).drew)
        have hRd := Lies.below hr2 (Below.refl _ _).drew
        have HRB : Hid (RB _ A bs) := hRd
        have hlt := Rf.lt h.its
        have hlt2 := h.ours.lt
        have HX1 : Hid (w.heap.size ∉ [G, M]) := fun hh => by simp at hh; omega
        have HX2 : Hid (w.heap.size ∉ [g, a, c]) := fun hh => by simp at hh; omega
        have HA1 : Hid (∀ p, A = some p → bs.map vb ≠ [] → p.block ∉ [G, M]) := fun p hp e0 hh => hAk p hp (fun e1 => e0 (by rw [← hbs, e1]; rfl)) (by simp at hh ⊢; omega)
        have HA2 : Hid (∀ p, A = some p → bs.map vb ≠ [] → p.block ∉ [g, a, c]) := fun p hp e0 hh => hAk p hp (fun e1 => e0 (by rw [← hbs, e1]; rfl)) (by simp at hh ⊢; omega)
        have hbx := Lib.hid (show (w.alloc (.cells #[.int .i64 k.op, .int .i64 k.i, .int .i64 k.n, .slice A k.b.length cc, .slice B k.keep.length kc] 35)).drew.heap[w.heap.size]? = some (.cells #[.int .i64 k.op, .int .i64 k.i, .int .i64 k.n, .slice A k.b.length cc, .slice B k.keep.length kc] 35 (0, 0)) from heap_alloc_new w _)
        have hsz := Lib.hid (show w.heap.size < (w.alloc (.cells #[.int .i64 k.op, .int .i64 k.i, .int .i64 k.n, .slice A k.b.length cc, .slice B k.keep.length kc] 35)).drew.heap.size by simp)
        clear h hr hs h1 hb0 hdid hmd hmd2 e3 e4 e5 hq2 hTd hr2 hRd hbs
        go_enter Try.func11, Try.ntmps11
        go_wp2_with fail
        go_region_law (first
          | (go_simp; go_at_call 8; refine (HF.out _ hO2 hB1).mono ?_; rintro e w3 ⟨rfl, hd3, ho3⟩)
          | (go_simp; go_at_call 29; refine (HRf.out _ hI1 hB1).mono ?_; rintro e w3 ⟨rfl, hd3, ho3⟩)
          | (go_simp; go_at_call 8; refine (HF.out _ HT.out.ours HRB.out).mono ?_; rintro e w1 ⟨rfl, hd1, ho1⟩
             have cx1 : w1.cell? ⟨w.heap.size, 1, none⟩ = some (.int .i64 k.i) := blk_cell ((ho1.block w.heap.size hsz.out HX1.out).trans hbx.out)
             have hB1 : RB w1 A bs := lies_only HRB.out ho1 HA1.out
             have hI1 : RfAt w1 g a b c x y z d2 := Rf.only HT.out.its ho1 (fun e => HT.out.rev.1 (by simp at e ⊢; omega)) (fun e => HT.out.rev.2.1 (by simp at e ⊢; omega)) (fun e => HT.out.rev.2.2.1 (by simp at e ⊢; omega)) (fun e => HT.out.rev.2.2.2 (by simp at e ⊢; omega)))
          | (go_simp; go_at_call 29; refine (HRf.out _ HT.out.its HRB.out).mono ?_; rintro e w1 ⟨rfl, hd1, ho1⟩
             have cx1 : w1.cell? ⟨w.heap.size, 1, none⟩ = some (.int .i64 k.i) := blk_cell ((ho1.block w.heap.size hsz.out HX2.out).trans hbx.out)
             have hB1 : RB w1 A bs := lies_only HRB.out ho1 HA2.out
             have hO2 : DkAt w1 G K M C d := HT.out.ours.only ho1 (fun e => HT.out.gg (by simp at e ⊢; omega)) (fun e => HT.out.kk (by simp at e ⊢; omega)) (fun e => HT.out.mm (by simp at e ⊢; omega))))
        all_goals go_wp2_with fail
        all_goals go_returns
        all_goals first
          | exact ⟨⟨_, rfl, fun e => by subst e; first | rfl | simp⟩, ⟨hd1.only ho3 (fun e => HT.out.gg (by simp at e ⊢; omega)) (fun e => HT.out.kk (by simp at e ⊢; omega)) (fun e => HT.out.mm (by simp at e ⊢; omega)), hd3, hok, HT.out.gg, HT.out.kk, HT.out.mm⟩, (HB.out.trans (ho1.mono (fun i h => by simp at h ⊢; omega))).trans (ho3.mono (fun i h => by simp at h ⊢; omega))⟩
          | exact ⟨⟨_, rfl, fun e => by subst e; first | rfl | simp⟩, ⟨hd3, Rf.only hd1 ho3 (fun e => HT.out.rev.1 (by simp at e ⊢; omega)) (fun e => HT.out.rev.2.1 (by simp at e ⊢; omega)) (fun e => HT.out.rev.2.2.1 (by simp at e ⊢; omega)) (fun e => HT.out.rev.2.2.2 (by simp at e ⊢; omega)), hok, HT.out.gg, HT.out.kk, HT.out.mm⟩, (HB.out.trans (ho1.mono (fun i h => by simp at h ⊢; omega))).trans (ho3.mono (fun i h => by simp at h ⊢; omega))⟩
          | trace_state
end Go.Proofs.Ytjfjeajbekhmdaa
