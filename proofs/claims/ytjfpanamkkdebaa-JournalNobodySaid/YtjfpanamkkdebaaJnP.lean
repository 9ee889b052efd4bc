/- A log in memory, whole; may, Sync, Save, Snapshot, Sure. -/
import Derived.Test.YtjfpanamkkdebaaJnO
namespace Go.Proofs.Ytjfpanamkkdebaa
open Go.RowKit
set_option linter.unusedVariables false
set_option linter.unusedSimpArgs false
/-- A log, plain. -/
structure Lg where
  hf : Nat
  ep : Nat
  sl : Nat
  pg : Nat
  bs : List UInt8
  d : Dsk
  snap : List UInt8
  recs : List (List UInt8)
  su : Nat
structure Lg.Fit (L : Lg) : Prop where
  hf : L.hf ≤ 1
  sl : L.sl ≤ 1
  ep : L.ep < 4294967296
  dk : 8 ≤ L.d.kept.length
  few : L.recs.length ≤ 1000000
  bs : L.d.dead = false → L.bs.length < 113 ∧ L.pg ≤ L.d.room
/-- A log in memory. -/
def JLog (w : World) (l g k m c : Nat) (q : Option Nat) (L : Lg) : Prop :=
  ∃ vs rv rs, LgAt w l L.hf L.ep L.sl L.pg L.bs g k m c L.d vs rv L.su ∧ OB w 0 vs L.snap ∧ RecsAt w rv rs ∧ rs.map RSl.bs = L.recs ∧ rv.ownBlock = q
theorem JLog.only {w w' : World} {l g k m c : Nat} {q : Option Nat} {L : Lg} {S : List Nat} (h : JLog w l g k m c q L) (ho : Only w w' S) (hl : l ∉ S) (hg : g ∉ S) (hk : k ∉ S) (hm : m ∉ S) (hS : ∀ j cs e f, w.heap[j]? = some (.cells cs e f) → e = 5 ∨ e = 29 → j ∉ S) : JLog w' l g k m c q L := by
  obtain ⟨vs, rv, rs, hlg, hs, hr, he⟩ := h
  obtain ⟨bv, hc, hb⟩ := hlg.cells
  have ob : ∀ v b, OB w 0 v b → OB w' 0 v b := fun v b h => own_only h ho (fun j hj => by obtain ⟨cs, hc⟩ := own_blk h j hj; exact hS _ _ _ _ hc (.inl rfl))
  exact ⟨vs, rv, rs, ⟨⟨bv, ⟨(ho.block l (blk_lt hc.blk) hl).trans hc.blk⟩, ob _ _ hb⟩, hlg.dk.only ho hg hk hm, hlg.lg, hlg.lk, hlg.lm⟩, ob _ _ hs, hr.only ho hS, he⟩
theorem JLog.below {w w' : World} {l g k m c : Nat} {q : Option Nat} {L : Lg} (h : JLog w l g k m c q L) (hb : Below w.heap.size w w') : JLog w' l g k m c q L :=
  h.only (.of_below hb []) List.not_mem_nil List.not_mem_nil List.not_mem_nil List.not_mem_nil (fun _ _ _ _ _ _ => List.not_mem_nil)
theorem JLog.dk {w : World} {l g k m c : Nat} {q : Option Nat} {L : Lg} (h : JLog w l g k m c q L) : DkAt w g k m c L.d := by
  obtain ⟨vs, rv, rs, hlg, _⟩ := h
  exact hlg.dk
theorem JLog.lt {w : World} {l g k m c : Nat} {q : Option Nat} {L : Lg} (h : JLog w l g k m c q L) : l < w.heap.size := by
  obtain ⟨vs, rv, rs, hlg, _⟩ := h
  exact hlg.lt
theorem JLog.ne {w : World} {l g k m c : Nat} {q : Option Nat} {L : Lg} (h : JLog w l g k m c q L) : l ≠ g ∧ l ≠ k ∧ l ≠ m := by
  obtain ⟨vs, rv, rs, hlg, _⟩ := h
  exact ⟨hlg.lg, hlg.lk, hlg.lm⟩
set_option maxHeartbeats 800000 in
theorem may_any (l g k m c : Nat) (q : Option Nat) (L : Lg) (w : World) (h : JLog w l g k m c q L) :
    Calls Try.prog 47 #[.pointer (some ⟨l, 0, none⟩)] w fun e w' => e = .returned (.int .i64 (if L.d.dead then 9 else 0 : Nat)) ∧ w = w' := by
  obtain ⟨vs, rv, rs, hlg, _⟩ := h
  obtain ⟨bv, hc, _⟩ := hlg.cells
  have k5 : w.cell? ⟨l, 5, none⟩ = some (.pointer (some ⟨g, 0, none⟩)) := blk_cell hc.blk
  have HD := Lib.hid (dead_any g k m c L.d w hlg.dk)
  clear hlg hc
  cases hd : L.d.dead with
  | true =>
    rw [hd] at HD
    clear hd
    go_enter Try.func47, Try.ntmps47
    go_wp2_with (go_at_call 35; refine HD.out.mono ?_; rintro e w' ⟨rfl, rfl⟩)
    go_ret
    exact ⟨rfl, rfl⟩
  | false =>
    rw [hd] at HD
    clear hd
    go_enter Try.func47, Try.ntmps47
    go_wp2_with (go_at_call 35; refine HD.out.mono ?_; rintro e w' ⟨rfl, rfl⟩)
    go_ret
    exact ⟨rfl, rfl⟩
def syncP (L : Lg) : Nat × Lg :=
  if L.d.dead then (9, L)
  else if L.d.actE ≠ 0 then (L.d.actE, { L with d := L.d.synced })
  else (0, { L with d := L.d.synced, su := L.recs.length, pg := if 0 < L.bs.length then L.pg + 1 else L.pg, bs := [] })
set_option maxHeartbeats 1600000 in
theorem lsync_any (l g k m c : Nat) (q : Option Nat) (L : Lg) (w : World) (h : JLog w l g k m c q L) (hf : L.Fit) :
    Calls Try.prog 22 #[.pointer (some ⟨l, 0, none⟩)] w fun e w' => e = .returned (.int .i64 (syncP L).1) ∧ JLog w' l g k m c q (syncP L).2 ∧ Only w w' [l, g, k, m] := by
  have HM := Lib.hid (may_any l g k m c q L w h)
  have HJ := Lib.hid h
  obtain ⟨vs, rv, rs, hlg, hsn, hrs, hre⟩ := h
  obtain ⟨bv, hc, hbv⟩ := hlg.cells
  obtain ⟨Ab, cb, rfl, -⟩ := OB.form hbv
  obtain ⟨Ar, cr, rfl, -⟩ := hrs.1.form
  have hrl : (rs.map RSl.v).length = L.recs.length := by rw [← hre.1, List.length_map, List.length_map]
  rw [hrl] at hlg hc hrs hre
  have hdk := hlg.dk
  have HSy := Lib.hid (sync_any g k m c L.d w hdk)
  have k5 : w.cell? ⟨l, 5, none⟩ = some (.pointer (some ⟨g, 0, none⟩)) := blk_cell hc.blk
  obtain ⟨L', hL'⟩ : ∃ L', syncP L = L' := ⟨_, rfl⟩
  rw [hL']
  have HL := Lib.hid hL'
  unfold syncP at HL
  obtain ⟨lf, le, ls, lp, lb, ld, lsn, lrc, lsu⟩ := L
  dsimp only at *
  have hbs := hf.bs
  have HC := Lib.hid (⟨hlg, hc, hbv, hsn, hrs, hre⟩ : _ ∧ _ ∧ _ ∧ _ ∧ _ ∧ _)
  dsimp only at hbs
  clear hL' hlg hc hbv hsn hrs hre hf
  cases hdd : ld.dead with
  | true =>
    rw [hdd] at HM HL
    simp only [if_true] at HM HL
    clear hdd
    go_enter Try.func22, Try.ntmps22
    go_wp2_with (go_at_call 47; refine HM.out.mono ?_; rintro e w' ⟨rfl, rfl⟩)
    go_ret
    rw [← HL.out]
    exact ⟨rfl, HJ.out, Only.refl _ _⟩
  | false =>
    rw [hdd] at HM HL
    simp only [Bool.false_eq_true, if_false] at HM HL
    have hbs2 := hbs hdd
    have hrl := ld.room_le hdk.ok.most
    obtain ⟨E, hE⟩ : ∃ E, ld.actE = E := ⟨_, rfl⟩
    rw [hE] at HL HSy
    clear hdd hE hbs hdk
    by_cases hz : E = 0
    · subst hz
      simp only [ne_eq, not_true_eq_false, if_false] at HL
      go_enter Try.func22, Try.ntmps22
      go_wp2_with (go_at_call 47; refine HM.out.mono ?_; rintro e w' ⟨rfl, rfl⟩)
      refine HSy.out.mono ?_
      rintro e w1 ⟨rfl, hd1, ho1⟩
      obtain ⟨hlg, hc, hbv, hsn, hrs, hre⟩ := HC.out
      have hlg1 := hlg.disk hd1 ho1
      have hl1 : w1.heap[l]? = _ := (ho1.block l hlg.lt (by have := hlg.lg; have := hlg.lk; have := hlg.lm; simp; omega)).trans hc.blk
      have hbv1 := OB.disk hbv hlg.dk ho1
      have hsn1 := OB.disk hsn hlg.dk ho1
      have hrs1 := hrs.disk hlg.dk ho1
      have k7 : w1.cell? ⟨l, 7, none⟩ = some (.slice Ar lrc.length cr) := blk_cell hl1
      have k8 : w1.cell? ⟨l, 8, none⟩ = some (.int .i64 lsu) := blk_cell hl1
      have f8 : w1.frozen? ⟨l, 8, none⟩ = false := blk_free hl1
      have k4 : (w1.setCell ⟨l, 8, none⟩ (.int .i64 lrc.length)).cell? ⟨l, 4, none⟩ = some (.slice Ab lb.length cb) := blk_cell (heap_setCell_same _ _ 8 _ _ (.int .i64 lrc.length) hl1)
      have hl2 : (w1.setCell ⟨l, 8, none⟩ (.int .i64 lrc.length)).heap[l]? = some (.cells #[.int .i64 lf, .int .i64 le, .int .i64 ls, .int .i64 lp, .slice Ab lb.length cb, .pointer (some ⟨g, 0, none⟩), vs, .slice Ar lrc.length cr, .int .i64 lrc.length] 65 (0, 0)) := heap_setCell_same _ _ 8 _ _ (.int .i64 lrc.length) hl1
      have hoS := Only.of_grown (Lib.grownBy_setCell w1 l 8 (.int .i64 lrc.length))
      have hne := hlg.lg
      have hne2 := hlg.lk
      have hne3 := hlg.lm
      have hapart : ∀ j cs e f, w1.heap[j]? = some (.cells cs e f) → e = 5 ∨ e = 29 → j ∉ [l] := by
        intro j cs e f hj he hjl
        rw [List.mem_singleton.1 hjl, hl1] at hj
        injection hj with hj
        injection hj with _ hj
        rcases he with rfl | rfl <;> exact absurd hj (by decide)
      have hd2 := hd1.only hoS (by simp; omega) (by simp; omega) (by simp; omega)
      have hsn2 := own_only hsn1 hoS (fun j hj => by obtain ⟨cs, hc⟩ := own_blk hsn1 j hj; exact hapart _ _ _ _ hc (.inl rfl))
      have hbv2 := own_only hbv1 hoS (fun j hj => by obtain ⟨cs, hc⟩ := own_blk hbv1 j hj; exact hapart _ _ _ _ hc (.inl rfl))
      have hrs2 := hrs1.only hoS hapart
      have hoE : Only w (w1.setCell ⟨l, 8, none⟩ (.int .i64 lrc.length)) [l, g, k, m] := (ho1.mono (by simp)).trans (hoS.mono (by simp))
      have HE := Lib.hid (⟨hl2, hd2, hsn2, hbv2, hrs2, hoE, hre⟩ : _ ∧ _ ∧ _ ∧ _ ∧ _ ∧ _ ∧ _)
      have HNe := Lib.hid (⟨hne, hne2, hne3⟩ : l ≠ g ∧ l ≠ k ∧ l ≠ m)
      clear hlg hc hbv hsn hrs hre hlg1 hbv1 hsn1 hrs1 hd1 ho1 hd2 hsn2 hbv2 hrs2 hoE hoS hapart hl1 hne hne2 hne3 HC HSy HM
      have HT := Lib.hid (turn_any l lf le ls lp _ g _ _ _ _ ⟨hl2⟩ (by omega))
      clear hl2
      by_cases hpl : 0 < lb.length
      · have hp1 : decide ((lb.length : Int) > 0) = true := decide_eq_true (by omega)
        have hp2 : decide (0 < lb.length) = true := decide_eq_true hpl
        go_wp2_with (go_at_call 52; refine HT.out.mono ?_; rintro e w4 ⟨rfl, hc4, ho4⟩)
        go_ret
        rw [← HL.out]
        obtain ⟨hl2, hd2, hsn2, hbv2, hrs2, hoE, hre⟩ := HE.out
        have hapart : ∀ j cs e f, (w1.setCell ⟨l, 8, none⟩ (.int .i64 lrc.length)).heap[j]? = some (.cells cs e f) → e = 5 ∨ e = 29 → j ∉ [l] := by
          intro j cs e f hj he hjl
          rw [List.mem_singleton.1 hjl, hl2] at hj
          injection hj with hj
          injection hj with _ hj
          rcases he with rfl | rfl <;> exact absurd hj (by decide)
        refine ⟨rfl, ⟨vs, _, rs, ⟨⟨_, by rw [if_pos hpl]; exact hc4, World.ownsRow_nil _ _ _ _⟩, hd2.only ho4 (by simpa using HNe.out.1.symm) (by simpa using HNe.out.2.1.symm) (by simpa using HNe.out.2.2.symm), HNe.out.1, HNe.out.2.1, HNe.out.2.2⟩, own_only hsn2 ho4 (fun j hj => by obtain ⟨cs, hc⟩ := own_blk hsn2 j hj; exact hapart _ _ _ _ hc (.inl rfl)), hrs2.only ho4 hapart, hre⟩, hoE.trans (ho4.mono (by simp))⟩
      · have hp1 : decide ((lb.length : Int) > 0) = false := decide_eq_false (by omega)
        have hp2 : decide (0 < lb.length) = false := decide_eq_false hpl
        go_wp2_with fail
        go_ret
        rw [← HL.out]
        obtain ⟨hl2, hd2, hsn2, hbv2, hrs2, hoE, hre⟩ := HE.out
        have hb0 : lb = [] := List.eq_nil_of_length_eq_zero (by omega)
        refine ⟨rfl, ⟨vs, _, rs, ⟨⟨_, by rw [if_neg hpl]; exact ⟨hl2⟩, by rw [← hb0]; exact hbv2⟩, hd2, HNe.out.1, HNe.out.2.1, HNe.out.2.2⟩, hsn2, hrs2, hre⟩, hoE⟩
    · have hz2 : ¬ ((E : Int) = 0) := by omega
      have hz3 : ((E : Int) == 0) = false := by rw [beq_eq_false_iff_ne]; omega
      simp only [ne_eq, hz, not_false_eq_true, if_true] at HL
      go_enter Try.func22, Try.ntmps22
      go_wp2_with (first
        | (go_at_call 47; refine HM.out.mono ?_; rintro e w' ⟨rfl, rfl⟩)
        | (go_at_call 29; refine HSy.out.mono ?_; rintro e w1 ⟨rfl, hd1, ho1⟩))
      go_ret
      rw [← HL.out]
      obtain ⟨hlg, hc, hbv, hsn, hrs, hre⟩ := HC.out
      exact ⟨rfl, ⟨vs, _, rs, hlg.disk hd1 ho1, OB.disk hsn hlg.dk ho1, hrs.disk hlg.dk ho1, hre⟩, ho1.mono (by simp)⟩
end Go.Proofs.Ytjfpanamkkdebaa
