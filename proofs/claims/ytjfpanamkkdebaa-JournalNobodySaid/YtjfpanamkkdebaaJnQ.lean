/- A log's Save, Snapshot, Sure, Records. -/
import Derived.Test.YtjfpanamkkdebaaJnP
namespace Go.Proofs.Ytjfpanamkkdebaa
open Go.RowKit
set_option linter.unusedVariables false
set_option linter.unusedSimpArgs false
def saveP (L : Lg) (s : List UInt8) : Nat × Lg :=
  if L.d.dead then (9, L)
  else if 262144 < s.length then (1, L)
  else
    let R := layP L.hf L.ep L.sl L.d s []
    if R.e ≠ 0 then (R.e, { L with d := R.d })
    else (0, ⟨1 - L.hf, R.ep, 1 - L.sl, R.pg, [], R.d, s, [], 0⟩)
set_option maxRecDepth 100000 in
set_option maxHeartbeats 3200000 in
theorem save_any (l g k m c : Nat) (q : Option Nat) (L : Lg) (As : Option Addr) (cs : Nat) (s : List UInt8) (w : World) (h : JLog w l g k m c q L) (hf : L.Fit) (hs : RB w As s) (hAs : As = none → cs = 0) (hsc : s.length ≤ cs) (hsm : s.length ≤ 9223372036854775807) :
    Calls Try.prog 26 #[.pointer (some ⟨l, 0, none⟩), .slice As s.length cs] w fun e w' => e = .returned (.int .i64 (saveP L s).1) ∧ (∃ q', JLog w' l g k m c q' (saveP L s).2 ∧ (q' = q ∨ q' = none)) ∧ Only w w' [l, g, k, m] := by
  have HM := Lib.hid (may_any l g k m c q L w h)
  have HJ := Lib.hid h
  obtain ⟨vs, rv, rs, hlg, hsn, hrs, hre⟩ := h
  obtain ⟨bv, hc, hbv⟩ := hlg.cells
  have hdk := hlg.dk
  obtain ⟨L', hL'⟩ : ∃ L', saveP L s = L' := ⟨_, rfl⟩
  rw [hL']
  have HL := Lib.hid hL'
  unfold saveP at HL
  have hfit := hf
  obtain ⟨lf, le, ls, lp, lb, ld, lsn, lrc, lsu⟩ := L
  obtain ⟨f1, f2, f3, f4, f5, f6⟩ := hfit
  dsimp only at *
  have HC := Lib.hid (⟨hlg, hc, hbv, hsn, hrs, hre⟩ : _ ∧ _ ∧ _ ∧ _ ∧ _ ∧ _)
  clear hL' hlg hc hbv hsn hrs hre hf
  cases hdd : ld.dead with
  | true =>
    rw [hdd] at HM HL
    simp only [if_true] at HM HL
    clear hdd
    go_enter Try.func26, Try.ntmps26
    go_wp2_with (go_at_call 47; refine HM.out.mono ?_; rintro e w' ⟨rfl, rfl⟩)
    go_ret
    rw [← HL.out]
    exact ⟨rfl, ⟨q, HJ.out, .inl rfl⟩, Only.refl _ _⟩
  | false =>
    rw [hdd] at HM HL
    simp only [Bool.false_eq_true, if_false] at HM HL
    clear hdd
    by_cases hbg : 262144 < s.length
    · have h82 : decide ((s.length : Int) > 262144) = true := decide_eq_true (by omega)
      have h83 : decide ((262144 : Int) < (s.length : Int)) = true := decide_eq_true (by omega)
      have h84 : decide (262144 < s.length) = true := decide_eq_true hbg
      rw [if_pos hbg] at HL
      go_enter Try.func26, Try.ntmps26
      go_wp2_with (go_at_call 47; refine HM.out.mono ?_; rintro e w' ⟨rfl, rfl⟩)
      go_ret
      rw [← HL.out]
      exact ⟨rfl, ⟨q, HJ.out, .inl rfl⟩, Only.refl _ _⟩
    · have h82 : decide ((s.length : Int) > 262144) = false := decide_eq_false (by omega)
      have h83 : decide ((262144 : Int) < (s.length : Int)) = false := decide_eq_false (by omega)
      have h84 : decide (262144 < s.length) = false := decide_eq_false hbg
      rw [if_neg hbg] at HL
      have hal : (allP s (([] : List RSl).map RSl.bs)).length ≤ 1073741824 := by
        have := framedP_le s (by omega)
        simp only [allP, List.map_nil, List.flatMap_nil, List.append_nil]
        omega
      have hLy := lay_any l lf le ls lp bv g k m c ld vs rv lsu As cs s (.slice none 0 0) [] w HC.out.2.1 hdk f4 f1 f2 f3 hs hAs hsc (by omega) ⟨RowFrom.nil _ _, by simp⟩ (by simp) hal
      have HLy := Lib.hid hLy
      clear hLy hal hs
      go_enter Try.func26, Try.ntmps26
      go_wp2_with (go_at_call 47; refine HM.out.mono ?_; rintro e w' ⟨rfl, rfl⟩)
      refine HLy.out.mono ?_
      rintro e w7 ⟨R2, hR2, hd7, ho7, hcase⟩
      rw [List.map_nil] at hR2
      rw [hR2] at HL
      obtain ⟨hlg, hc, hbv, hsn, hrs, hre⟩ := HC.out
      have hlno : l ∉ [g, k, m] := by have := hlg.lg; have := hlg.lk; have := hlg.lm; simp; omega
      have hl7 := (ho7.block l hlg.lt hlno).trans hc.blk
      rcases hcase with ⟨hne, rfl⟩ | ⟨h0, x, vs7, rfl, hx, hlg7, hob⟩
      · have hz2 : ¬ ((R2.e : Int) = 0) := by omega
        have hz3 : ((R2.e : Int) == 0) = false := by rw [beq_eq_false_iff_ne]; omega
        try dsimp only at HL
        rw [if_pos hne] at HL
        have HF := Lib.hid (⟨hlg.disk hd7 ho7, OB.disk hsn hdk ho7, hrs.disk hdk ho7, hre, ho7⟩ : _ ∧ _ ∧ _ ∧ _ ∧ _)
        clear hlg hc hbv hsn hrs hre hd7 ho7 hl7 hlno HC HLy HM hR2
        go_wp2_with fail
        go_ret
        rw [← HL.out]
        exact ⟨rfl, ⟨q, ⟨vs, rv, rs, HF.out.1, HF.out.2.1, HF.out.2.2.1, HF.out.2.2.2.1⟩, .inl rfl⟩, HF.out.2.2.2.2.mono (by simp)⟩
      · try dsimp only at HL
        rw [if_neg (by omega)] at HL
        obtain ⟨bv7, hc7, hbv7⟩ := hlg7.cells
        obtain ⟨Av, cv, rfl, -⟩ := OB.form hob
        obtain ⟨Ab, cb, rfl, -⟩ := OB.form hbv7
        obtain ⟨Ar, cr, rfl, -⟩ := hrs.1.form
        obtain ⟨A0, c0', rfl, -⟩ := OB.form hsn
        obtain ⟨A1, c1', rfl, -⟩ := OB.form hbv
        have hlx : l ≠ x := by have := hlg.lt; omega
        have x0 : w7.cell? ⟨x, 0, none⟩ = some (.int .i64 (1 - lf : Nat)) := blk_cell hc7.blk
        have x1 : w7.cell? ⟨x, 1, none⟩ = some (.int .i64 R2.ep) := blk_cell hc7.blk
        have x2 : w7.cell? ⟨x, 2, none⟩ = some (.int .i64 (1 - ls : Nat)) := blk_cell hc7.blk
        have x3 : w7.cell? ⟨x, 3, none⟩ = some (.int .i64 R2.pg) := blk_cell hc7.blk
        have x4 : w7.cell? ⟨x, 4, none⟩ = some (.slice Ab 0 cb) := blk_cell hc7.blk
        have x5 : w7.cell? ⟨x, 5, none⟩ = some (.pointer (some ⟨g, 0, none⟩)) := blk_cell hc7.blk
        have x6 : w7.cell? ⟨x, 6, none⟩ = some (.slice Av s.length cv) := blk_cell hc7.blk
        have x7 : w7.cell? ⟨x, 7, none⟩ = some (.slice none 0 0) := blk_cell hc7.blk
        have x8 : w7.cell? ⟨x, 8, none⟩ = some (.int .i64 0) := blk_cell hc7.blk
        have l0 : w7.cell? ⟨l, 0, none⟩ = some (.int .i64 lf) := blk_cell hl7
        have l1 : w7.cell? ⟨l, 1, none⟩ = some (.int .i64 le) := blk_cell hl7
        have l2 : w7.cell? ⟨l, 2, none⟩ = some (.int .i64 ls) := blk_cell hl7
        have l3 : w7.cell? ⟨l, 3, none⟩ = some (.int .i64 lp) := blk_cell hl7
        have l4 : w7.cell? ⟨l, 4, none⟩ = some (.slice A1 lb.length c1') := blk_cell hl7
        have l5 : w7.cell? ⟨l, 5, none⟩ = some (.pointer (some ⟨g, 0, none⟩)) := blk_cell hl7
        have l6 : w7.cell? ⟨l, 6, none⟩ = some (.slice A0 lsn.length c0') := blk_cell hl7
        have l7 : w7.cell? ⟨l, 7, none⟩ = some (.slice Ar (rs.map RSl.v).length cr) := blk_cell hl7
        have l8 : w7.cell? ⟨l, 8, none⟩ = some (.int .i64 lsu) := blk_cell hl7
        have fr : ∀ i, w7.frozen? ⟨l, i, none⟩ = false := fun i => blk_free hl7
        have fr0 := fr 0
        have fr1 := fr 1
        have fr2 := fr 2
        have fr3 := fr 3
        have fr4 := fr 4
        have fr5 := fr 5
        have fr6 := fr 6
        have fr7 := fr 7
        have fr8 := fr 8
        have HF := Lib.hid (⟨hl7, hd7, ho7, hlg7, hob, hbv7⟩ : _ ∧ _ ∧ _ ∧ _ ∧ _ ∧ _)
        have HNe := Lib.hid (⟨hlg.lg, hlg.lk, hlg.lm⟩ : l ≠ g ∧ l ≠ k ∧ l ≠ m)
        generalize 1 - lf = nf at *
        generalize 1 - ls = ns at *
        clear fr hlg hc hbv hsn hrs hre hd7 ho7 hl7 hlno HC HLy HM hR2 hlg7 hob hbv7 hc7 HJ
        go_wp2_with fail
        go_ret
        rw [← HL.out]
        obtain ⟨hl7, hd7, ho7, hlg7, hob, hbv7⟩ := HF.out
        have h90 : (w7.setCell ⟨l, 0, none⟩ (.int .i64 nf)).heap[l]? = some (.cells #[.int .i64 nf, .int .i64 le, .int .i64 ls, .int .i64 lp, .slice A1 lb.length c1', .pointer (some ⟨g, 0, none⟩), .slice A0 lsn.length c0', .slice Ar (rs.map RSl.v).length cr, .int .i64 lsu] 65 (0, 0)) := heap_setCell_same _ _ 0 _ _ (.int .i64 nf) hl7
        have h91 : ((w7.setCell ⟨l, 0, none⟩ (.int .i64 nf)).setCell ⟨l, 1, none⟩ (.int .i64 R2.ep)).heap[l]? = some (.cells #[.int .i64 nf, .int .i64 R2.ep, .int .i64 ls, .int .i64 lp, .slice A1 lb.length c1', .pointer (some ⟨g, 0, none⟩), .slice A0 lsn.length c0', .slice Ar (rs.map RSl.v).length cr, .int .i64 lsu] 65 (0, 0)) := heap_setCell_same _ _ 1 _ _ (.int .i64 R2.ep) h90
        have h92 : (((w7.setCell ⟨l, 0, none⟩ (.int .i64 nf)).setCell ⟨l, 1, none⟩ (.int .i64 R2.ep)).setCell ⟨l, 2, none⟩ (.int .i64 ns)).heap[l]? = some (.cells #[.int .i64 nf, .int .i64 R2.ep, .int .i64 ns, .int .i64 lp, .slice A1 lb.length c1', .pointer (some ⟨g, 0, none⟩), .slice A0 lsn.length c0', .slice Ar (rs.map RSl.v).length cr, .int .i64 lsu] 65 (0, 0)) := heap_setCell_same _ _ 2 _ _ (.int .i64 ns) h91
        have h93 : ((((w7.setCell ⟨l, 0, none⟩ (.int .i64 nf)).setCell ⟨l, 1, none⟩ (.int .i64 R2.ep)).setCell ⟨l, 2, none⟩ (.int .i64 ns)).setCell ⟨l, 3, none⟩ (.int .i64 R2.pg)).heap[l]? = some (.cells #[.int .i64 nf, .int .i64 R2.ep, .int .i64 ns, .int .i64 R2.pg, .slice A1 lb.length c1', .pointer (some ⟨g, 0, none⟩), .slice A0 lsn.length c0', .slice Ar (rs.map RSl.v).length cr, .int .i64 lsu] 65 (0, 0)) := heap_setCell_same _ _ 3 _ _ (.int .i64 R2.pg) h92
        have h94 : (((((w7.setCell ⟨l, 0, none⟩ (.int .i64 nf)).setCell ⟨l, 1, none⟩ (.int .i64 R2.ep)).setCell ⟨l, 2, none⟩ (.int .i64 ns)).setCell ⟨l, 3, none⟩ (.int .i64 R2.pg)).setCell ⟨l, 4, none⟩ (.slice Ab 0 cb)).heap[l]? = some (.cells #[.int .i64 nf, .int .i64 R2.ep, .int .i64 ns, .int .i64 R2.pg, .slice Ab 0 cb, .pointer (some ⟨g, 0, none⟩), .slice A0 lsn.length c0', .slice Ar (rs.map RSl.v).length cr, .int .i64 lsu] 65 (0, 0)) := heap_setCell_same _ _ 4 _ _ (.slice Ab 0 cb) h93
        have h95 : ((((((w7.setCell ⟨l, 0, none⟩ (.int .i64 nf)).setCell ⟨l, 1, none⟩ (.int .i64 R2.ep)).setCell ⟨l, 2, none⟩ (.int .i64 ns)).setCell ⟨l, 3, none⟩ (.int .i64 R2.pg)).setCell ⟨l, 4, none⟩ (.slice Ab 0 cb)).setCell ⟨l, 5, none⟩ (.pointer (some ⟨g, 0, none⟩))).heap[l]? = some (.cells #[.int .i64 nf, .int .i64 R2.ep, .int .i64 ns, .int .i64 R2.pg, .slice Ab 0 cb, .pointer (some ⟨g, 0, none⟩), .slice A0 lsn.length c0', .slice Ar (rs.map RSl.v).length cr, .int .i64 lsu] 65 (0, 0)) := heap_setCell_same _ _ 5 _ _ (.pointer (some ⟨g, 0, none⟩)) h94
        have h96 : (((((((w7.setCell ⟨l, 0, none⟩ (.int .i64 nf)).setCell ⟨l, 1, none⟩ (.int .i64 R2.ep)).setCell ⟨l, 2, none⟩ (.int .i64 ns)).setCell ⟨l, 3, none⟩ (.int .i64 R2.pg)).setCell ⟨l, 4, none⟩ (.slice Ab 0 cb)).setCell ⟨l, 5, none⟩ (.pointer (some ⟨g, 0, none⟩))).setCell ⟨l, 6, none⟩ (.slice Av s.length cv)).heap[l]? = some (.cells #[.int .i64 nf, .int .i64 R2.ep, .int .i64 ns, .int .i64 R2.pg, .slice Ab 0 cb, .pointer (some ⟨g, 0, none⟩), .slice Av s.length cv, .slice Ar (rs.map RSl.v).length cr, .int .i64 lsu] 65 (0, 0)) := heap_setCell_same _ _ 6 _ _ (.slice Av s.length cv) h95
        have h97 : ((((((((w7.setCell ⟨l, 0, none⟩ (.int .i64 nf)).setCell ⟨l, 1, none⟩ (.int .i64 R2.ep)).setCell ⟨l, 2, none⟩ (.int .i64 ns)).setCell ⟨l, 3, none⟩ (.int .i64 R2.pg)).setCell ⟨l, 4, none⟩ (.slice Ab 0 cb)).setCell ⟨l, 5, none⟩ (.pointer (some ⟨g, 0, none⟩))).setCell ⟨l, 6, none⟩ (.slice Av s.length cv)).setCell ⟨l, 7, none⟩ (.slice none 0 0)).heap[l]? = some (.cells #[.int .i64 nf, .int .i64 R2.ep, .int .i64 ns, .int .i64 R2.pg, .slice Ab 0 cb, .pointer (some ⟨g, 0, none⟩), .slice Av s.length cv, .slice none 0 0, .int .i64 lsu] 65 (0, 0)) := heap_setCell_same _ _ 7 _ _ (.slice none 0 0) h96
        have h98 : (((((((((w7.setCell ⟨l, 0, none⟩ (.int .i64 nf)).setCell ⟨l, 1, none⟩ (.int .i64 R2.ep)).setCell ⟨l, 2, none⟩ (.int .i64 ns)).setCell ⟨l, 3, none⟩ (.int .i64 R2.pg)).setCell ⟨l, 4, none⟩ (.slice Ab 0 cb)).setCell ⟨l, 5, none⟩ (.pointer (some ⟨g, 0, none⟩))).setCell ⟨l, 6, none⟩ (.slice Av s.length cv)).setCell ⟨l, 7, none⟩ (.slice none 0 0)).setCell ⟨l, 8, none⟩ (.int .i64 0)).heap[l]? = some (.cells #[.int .i64 nf, .int .i64 R2.ep, .int .i64 ns, .int .i64 R2.pg, .slice Ab 0 cb, .pointer (some ⟨g, 0, none⟩), .slice Av s.length cv, .slice none 0 0, .int .i64 0] 65 (0, 0)) := heap_setCell_same _ _ 8 _ _ (.int .i64 0) h97
        have hl9 := h98
        have hg9 := (Lib.grownBy_trans (Lib.grownBy_trans (Lib.grownBy_trans (Lib.grownBy_trans (Lib.grownBy_trans (Lib.grownBy_trans (Lib.grownBy_trans (Lib.grownBy_trans (Lib.grownBy_setCell w7 l 0 (.int .i64 nf)) (Lib.grownBy_setCell _ l 1 (.int .i64 R2.ep))) (Lib.grownBy_setCell _ l 2 (.int .i64 ns))) (Lib.grownBy_setCell _ l 3 (.int .i64 R2.pg))) (Lib.grownBy_setCell _ l 4 (.slice Ab 0 cb))) (Lib.grownBy_setCell _ l 5 (.pointer (some ⟨g, 0, none⟩)))) (Lib.grownBy_setCell _ l 6 (.slice Av s.length cv))) (Lib.grownBy_setCell _ l 7 (.slice none 0 0))) (Lib.grownBy_setCell _ l 8 (.int .i64 0)))
        have hoS := Only.of_grown hg9
        have hapart : ∀ j cs e f, w7.heap[j]? = some (.cells cs e f) → e = 5 ∨ e = 29 → j ∉ [l] := by
          intro j cs e f hj he hjl
          rw [List.mem_singleton.1 hjl, hl7] at hj
          injection hj with hj
          injection hj with _ hj
          rcases he with rfl | rfl <;> exact absurd hj (by decide)
        have ob : ∀ B v b, OB w7 B v b → OB _ B v b := fun B v b h => own_only h hoS (fun j hj => by obtain ⟨cs, hc⟩ := own_blk h j hj; exact hapart _ _ _ _ hc (.inl rfl))
        refine ⟨rfl, ⟨none, ⟨_, _, [], ⟨⟨_, ⟨hl9⟩, (ob _ _ _ hbv7)⟩, hd7.only hoS (by simpa using HNe.out.1.symm) (by simpa using HNe.out.2.1.symm) (by simpa using HNe.out.2.2.symm), HNe.out.1, HNe.out.2.1, HNe.out.2.2⟩, own_mono_base (ob _ _ _ hob) (Nat.zero_le _), ⟨RowFrom.nil _ _, by simp⟩, rfl, rfl⟩, .inr rfl⟩, (ho7.mono (by simp)).trans (hoS.mono (by simp))⟩
theorem snapshot_any (l g k m c : Nat) (q : Option Nat) (L : Lg) (w : World) (h : JLog w l g k m c q L) (hm : L.snap.length ≤ 1073741824) :
    Calls Try.prog 15 #[.pointer (some ⟨l, 0, none⟩)] w fun e w' => ∃ v, e = .returned v ∧ OB w' w.heap.size v L.snap ∧ Below w.heap.size w w' := by
  obtain ⟨vs, rv, rs, hlg, hsn, hrs, hre⟩ := h
  obtain ⟨bv, hc, hbv⟩ := hlg.cells
  obtain ⟨A, cc, rfl, hl, hA⟩ := OB.form hsn
  have k6 : w.cell? ⟨l, 6, none⟩ = some (.slice A L.snap.length cc) := blk_cell hc.blk
  have HC := Lib.hid (bclone_wide A cc L.snap w (by omega) hA (RB.of_own hsn))
  clear hlg hsn hrs hre hc hbv
  go_enter Try.func15, Try.ntmps15
  go_wp2_with (go_at_call 40; refine HC.out.mono ?_; rintro e w' ⟨v, rfl, ho, hb⟩)
  go_ret
  exact ⟨v, rfl, ho, hb⟩
theorem sure_any (l g k m c : Nat) (q : Option Nat) (L : Lg) (w : World) (h : JLog w l g k m c q L) :
    Calls Try.prog 25 #[.pointer (some ⟨l, 0, none⟩)] w fun e w' => e = .returned (.int .i64 L.su) ∧ w = w' := by
  obtain ⟨vs, rv, rs, hlg, hsn, hrs, hre⟩ := h
  obtain ⟨bv, hc, hbv⟩ := hlg.cells
  have k8 : w.cell? ⟨l, 8, none⟩ = some (.int .i64 L.su) := blk_cell hc.blk
  clear hlg hsn hrs hre hc hbv
  go_enter Try.func25, Try.ntmps25
  go_wp2
  go_ret
  exact ⟨rfl, rfl⟩
set_option maxRecDepth 100000 in
set_option maxHeartbeats 3200000 in
theorem records_any (l g k m c : Nat) (q : Option Nat) (L : Lg) (w : World) (h : JLog w l g k m c q L) (hm : ∀ r ∈ L.recs, r.length ≤ 1073741824) (hfew : L.recs.length ≤ 1000000) :
    Calls Try.prog 17 #[.pointer (some ⟨l, 0, none⟩)] w fun e w' =>
      ∃ (v : Value) (rs : List RSl), e = .returned v ∧ w'.ownsRow w.heap.size 29 1 v rs.length (rs.map RSl.v) ∧ (∀ r ∈ rs, OB w' w.heap.size r.v r.bs) ∧ rs.map RSl.bs = L.recs ∧ Below w.heap.size w w' := by
  obtain ⟨vs, rv, rs, hlg, hsn, hrs, hre⟩ := h
  obtain ⟨bv, hc, hbv⟩ := hlg.cells
  obtain ⟨A, cc, rfl, hcc, hA, hlies⟩ := hrs.1.form
  rw [List.length_map] at *
  have hlen : rs.length = L.recs.length := by rw [← hre.1, List.length_map]
  have k7 : w.cell? ⟨l, 7, none⟩ = some (.slice A rs.length cc) := blk_cell hc.blk
  have hrl : rs.length ≤ 1000000 := by omega
  have HL := Lib.hid hlies
  have HR := Lib.hid hrs.2
  have HE := Lib.hid hre.1
  rw [← hre.1] at hm
  clear hlg hsn hrs hre hc hbv hlies hlen
  go_enter Try.func17, Try.ntmps17
  go_wp2_with fail
  go_loopg [3, 13] rs.length (fun r s3 s13 wr => ∃ (j : Nat) (qs : List RSl), j + r = rs.length ∧ s13 = .int .i64 j ∧ wr.ownsRow w.heap.size 29 1 s3 j (qs.map RSl.v) ∧ (∀ q ∈ qs, OB wr w.heap.size q.v q.bs) ∧ qs.length = j ∧ qs.map RSl.bs = (rs.take j).map RSl.bs ∧ Below w.heap.size w wr)
  case atStart => exact ⟨0, [], by omega, rfl, World.ownsRow_nil _ _ _ _, by simp, rfl, rfl, Below.refl _ _⟩
  case round =>
    obtain ⟨j, qs, hj, rfl, hown, hok, hql, hqe, hb⟩ := hrel
    obtain ⟨Av, cv, rfl, -⟩ := own_form hown
    by_cases hjl : j < rs.length
    · have hj1 : decide ((j : Int) < (rs.length : Int)) = true := decide_eq_true (by omega)
      have hj2 : (j : Int) < (rs.length : Int) := by omega
      have hj0 : (0 : Int) ≤ (j : Int) := by omega
      obtain ⟨a, rfl, hcj⟩ := (HL.out.below hb).at (k := j) (by rw [List.length_map]; exact hjl)
      rw [List.getElem_map] at hcj
      have hokj := OB.below (HR.out rs[j] (List.getElem_mem hjl)) hb
      have hmj := hm rs[j].bs (List.mem_map_of_mem (List.getElem_mem hjl))
      have htk : (rs.take (j + 1)).map RSl.bs = (rs.take j).map RSl.bs ++ [rs[j].bs] := by rw [List.take_succ_eq_append_getElem hjl, List.map_append]; rfl
      generalize rs[j] = rj at *
      obtain ⟨Ar, cr2, br⟩ := rj
      unfold RSl.v at hokj hcj
      dsimp only at hokj hcj hmj htk
      obtain ⟨Ar', cr', er, hlr, hAr'⟩ := OB.form hokj
      injection er with er1 er2 er3
      subst er1 er3
      have HCl := Lib.hid (bclone_wide Ar cr2 br wr (by omega) hAr' (RB.of_own hokj))
      have HTk := Lib.hid (⟨htk, hqe⟩ : _ ∧ _)
      have HQ := Lib.hid (⟨hown, hok, hb⟩ : _ ∧ _ ∧ _)
      have HML : Hid (maxLen = 9223372036854775807) := rfl
      clear htk hqe hokj hown hok hb
      go_wp2_with fail
      refine HCl.out.mono ?_
      rintro e w5 ⟨v5, rfl, ho5, hb5⟩
      obtain ⟨A5, c5, rfl, hl5, hA5⟩ := OB.form ho5
      have hal5 : Below wr.heap.size wr (w5.alloc (.cells #[.slice A5 br.length c5] 29)) := hb5.alloc hb5.size _
      have ho5A : OB (w5.alloc (.cells #[.slice A5 br.length c5] 29)) wr.heap.size (.slice A5 br.length c5) br := ho5.below ((Below.refl _ _).alloc (Nat.le_refl _) _)
      have HA5 := Lib.hid (⟨hal5, ho5A⟩ : _ ∧ _)
      clear hal5 ho5 hb5 HCl ho5A
      go_wp2_with (at_builtin; refine wpList_one rfl _ _ 22 rfl w.heap.size 29 _ 24 Try.underlying22 info_bs rfl (.slice Av j cv) j (qs.map RSl.v) rfl (OS_below HQ.out.1 HA5.out.1) _ (.slice A5 br.length c5) rfl (tmp_here _ _ _) rfl ?c6 ?c7 ?c8 ?_)
      case c6 => rw [HML.out]; omega
      case c7 => omega
      case c8 => exact Nat.le_trans HQ.out.2.2.size HA5.out.1.size
      intro g6 cap6 w6 hown6 hg6 hor hlt6
      have hownA := OS_below HQ.out.1 HA5.out.1
      have hokA : ∀ (v : Value) (b2 : List UInt8) (B : Nat), OB (w5.alloc (.cells #[.slice A5 br.length c5] 29)) B v b2 → OB w6 B v b2 := fun v b2 B hA => by
        refine own_kept2 hA hg6 (fun j hj e => ?_)
        obtain ⟨cs, hc⟩ := own_blk hownA j e
        obtain ⟨cs2, hc2⟩ := own_blk hA j hj
        rw [hc] at hc2
        injection hc2 with hc2
        injection hc2 with _ hc2
        exact absurd hc2 (by decide)
      have hbF : Below w.heap.size w w6 := (HQ.out.2.2.trans (HA5.out.1.mono HQ.out.2.2.size)).grown hg6 (Nat.le_trans HQ.out.2.2.size HA5.out.1.size) (fun j hj => (World.ownsRow.lt hownA j hj).1)
      have HFF := Lib.hid (⟨hbF, hown6, (fun q hq => hokA _ _ _ ((HQ.out.2.1 q hq).below HA5.out.1) : ∀ q ∈ qs, OB w6 w.heap.size q.v q.bs), OB.mono (hokA _ _ _ HA5.out.2) HQ.out.2.2.size⟩ : _ ∧ _ ∧ _ ∧ _)
      clear hbF hown6 hokA hownA hg6 HQ HA5
      go_wp2_with fail
      go_roundg (rs.length - (j + 1))
      case measure => omega
      case rel =>
        obtain ⟨k1, k3, k4, k5⟩ := HFF.out
        refine ⟨j + 1, qs ++ [(⟨A5, c5, br⟩ : RSl)], by omega, by go_num, by rw [List.map_append]; exact k3, ?_, by rw [List.length_append, List.length_singleton]; omega, by rw [List.map_append, HTk.out.1, HTk.out.2]; rfl, k1⟩
        intro q hq
        rcases List.mem_append.1 hq with hq | hq
        · exact k4 q hq
        · rw [List.mem_singleton.1 hq]
          exact k5
    · obtain rfl : j = rs.length := by omega
      have hj1 : decide ((rs.length : Int) < (rs.length : Int)) = false := decide_eq_false (by omega)
      rw [List.take_length, HE.out] at hqe
      have HF := Lib.hid (⟨hown, hok, hqe, hb⟩ : _ ∧ _ ∧ _ ∧ _)
      have HQl := Lib.hid hql
      clear hown hok hqe hb hql
      go_wp2_with fail
      go_ret
      exact ⟨_, qs, rfl, by rw [HQl.out]; exact HF.out.1, HF.out.2.1, HF.out.2.2.1, HF.out.2.2.2⟩
end Go.Proofs.Ytjfpanamkkdebaa
