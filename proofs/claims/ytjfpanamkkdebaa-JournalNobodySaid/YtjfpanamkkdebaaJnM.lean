/- Where the newest log stands; its bytes. -/
import Derived.Test.YtjfpanamkkdebaaJnL
namespace Go.Proofs.Ytjfpanamkkdebaa
open Go.RowKit
set_option linter.unusedVariables false
set_option linter.unusedSimpArgs false
structure Plc where
  hf : Nat
  ep : Nat
  sl : Nat
def Dsk.slotP (d : Dsk) (n : Nat) (p : Plc) : Plc :=
  if (d.sheet (n : Nat)).whole = true ∧ (d.sheet (n : Nat)).bytes.length = 1 ∧ ((d.sheet (n : Nat)).bytes.getD 0 0).toNat < 2 ∧ p.ep < (d.sheet (n : Nat)).epoch then ⟨((d.sheet (n : Nat)).bytes.getD 0 0).toNat, (d.sheet (n : Nat)).epoch, n⟩ else p
/-- The place that the first slots tell. -/
def Dsk.foundS (d : Dsk) : Nat → Plc
  | 0 => ⟨0, 0, 0⟩
  | n + 1 => d.slotP n (d.foundS n)
theorem Dsk.foundS_ok (d : Dsk) : ∀ n, (d.foundS n).hf ≤ 1 ∧ (d.foundS n).ep < 4294967296 ∧ ((d.foundS n).sl < n ∨ (d.foundS n).sl = 0)
  | 0 => by unfold Dsk.foundS; exact ⟨by decide, by decide, .inr rfl⟩
  | n + 1 => by
    have ih := d.foundS_ok n
    have he := d.sheet_epoch (n : Nat)
    unfold Dsk.foundS Dsk.slotP
    split
    · rename_i h
      exact ⟨by dsimp only; omega, he, .inl (by dsimp only; omega)⟩
    · exact ⟨ih.1, ih.2.1, by omega⟩
set_option maxRecDepth 100000 in
set_option maxHeartbeats 3200000 in
theorem found_any (g k m c : Nat) (d : Dsk) (w : World) (h : DkAt w g k m c d) (hn : 8 ≤ d.kept.length) (ha : d.dead = false) :
    Calls Try.prog 36 #[.pointer (some ⟨g, 0, none⟩)] w fun e w' =>
      e = .returned (.tuple #[.agg #[.int .i64 (d.foundS 2).hf, .int .i64 (d.foundS 2).ep, .int .i64 (d.foundS 2).sl], .bool (decide (0 < (d.foundS 2).ep))]) ∧ Below w.heap.size w w' := by
  have HSee := Lib.hid (fun (i : Int) W (hb : Below w.heap.size w W) => see_any g k m c d i W (h.below hb))
  have hRE : ∀ i : Nat, i < 2 → d.readE (i : Int) = 0 := fun i hi => by rw [d.readE_in i (by omega), ha]; rfl
  obtain ⟨T, hT⟩ : ∃ T : Nat → Plc, d.foundS = T := ⟨_, rfl⟩
  have hT0 : T 0 = ⟨0, 0, 0⟩ := by rw [← hT]; rfl
  have hTs : ∀ n, T (n + 1) = d.slotP n (T n) := by intro n; rw [← hT]; rfl
  have hTk : ∀ n, (T n).hf ≤ 1 ∧ (T n).ep < 4294967296 ∧ ((T n).sl < n ∨ (T n).sl = 0) := by intro n; rw [← hT]; exact d.foundS_ok n
  rw [hT]
  have HTs := Lib.hid (⟨hT0, hTs, hTk, hRE⟩ : T 0 = ⟨0, 0, 0⟩ ∧ (∀ n, T (n + 1) = d.slotP n (T n)) ∧ (∀ n, (T n).hf ≤ 1 ∧ (T n).ep < 4294967296 ∧ ((T n).sl < n ∨ (T n).sl = 0)) ∧ _)
  clear hT0 hTs hTk hT hRE h hn ha
  go_enter Try.func36, Try.ntmps36
  go_wp2_with fail
  have hb0 : Below w.heap.size w ((w.alloc (.cells #[.int .i64 0, .int .i64 0, .int .i64 0] 61)).alloc (.cells #[.int .i64 0, .int .i64 0, .int .i64 0] 61)) := ((Below.refl _ _).alloc (Nat.le_refl _) _).alloc (by simp) _
  have hz2 : ((w.alloc (.cells #[.int .i64 0, .int .i64 0, .int .i64 0] 61)).alloc (.cells #[.int .i64 0, .int .i64 0, .int .i64 0] 61)).heap[w.heap.size]? = some (.cells #[.int .i64 0, .int .i64 0, .int .i64 0] 61 (0, 0)) := blk_alloc (heap_alloc_new w _)
  have hz4 : ((w.alloc (.cells #[.int .i64 0, .int .i64 0, .int .i64 0] 61)).alloc (.cells #[.int .i64 0, .int .i64 0, .int .i64 0] 61)).heap[w.heap.size + 1]? = some (.cells #[.int .i64 0, .int .i64 0, .int .i64 0] 61 (0, 0)) := by
    have := heap_alloc_new (w.alloc (.cells #[.int .i64 0, .int .i64 0, .int .i64 0] 61)) (.cells #[.int .i64 0, .int .i64 0, .int .i64 0] 61)
    have e : (w.alloc (.cells #[.int .i64 0, .int .i64 0, .int .i64 0] 61)).heap.size = w.heap.size + 1 := by simp
    rw [e] at this
    exact this
  generalize (w.alloc (.cells #[.int .i64 0, .int .i64 0, .int .i64 0] 61)).alloc (.cells #[.int .i64 0, .int .i64 0, .int .i64 0] 61) = wB at *
  go_loopg [9] 2 (fun r s9 wr => ∃ j : Nat, j + r = 2 ∧ s9 = .int .i64 j ∧ Below w.heap.size w wr ∧ wr.heap[w.heap.size]? = some (.cells #[.int .i64 0, .int .i64 0, .int .i64 0] 61 (0, 0)) ∧ wr.heap[w.heap.size + 1]? = some (.cells #[.int .i64 (T j).hf, .int .i64 (T j).ep, .int .i64 (T j).sl] 61 (0, 0)))
  case atStart => exact ⟨0, by omega, rfl, hb0, hz2, by rw [HTs.out.1]; exact hz4⟩
  case round =>
    obtain ⟨j, hj, rfl, hb, hX2, hX4⟩ := hrel
    clear hb0 hz2 hz4
    by_cases hjl : j < 2
    · have hj1 : decide ((j : Int) < 2) = true := decide_eq_true (by omega)
      have hj2 : (j : Int) < 2 := by omega
      have HS1 := Lib.hid (HSee.out (j : Nat) wr hb)
      have hre := HTs.out.2.2.2 j hjl
      have hTs := HTs.out.2.1 j
      have hTk := HTs.out.2.2.1 j
      rw [hre] at HS1
      have hse := d.sheet_epoch (j : Nat)
      unfold Dsk.slotP at hTs
      obtain ⟨S, hS⟩ : ∃ S, d.sheet (j : Nat) = S := ⟨_, rfl⟩
      rw [hS] at HS1 hTs hse
      clear hS hre
      obtain ⟨p1, p2, bs, wh, tl⟩ := S
      obtain ⟨pj, hpj⟩ : ∃ p, T j = p := ⟨_, rfl⟩
      rw [hpj] at hTs hTk hX4
      clear hpj
      obtain ⟨ph, pe, ps⟩ := pj
      unfold shv at HS1
      dsimp only at HS1 hTs hse hTk hX4
      have HTT := Lib.hid hTs
      have HB := Lib.hid hb
      have l2 := blk_lt hX2
      have l4 := blk_lt hX4
      have HX := Lib.hid (⟨hX2, hX4⟩ : _ ∧ _)
      clear hTs hb HSee hX2 hX4
      go_wp2_with fail
      refine HS1.out.mono ?_
      rintro e w' ⟨v, rfl, ho, hb⟩
      obtain ⟨A2, c2, rfl, hc2, hA2⟩ := OB.form ho
      have hbC : Below wr.heap.size wr (w'.alloc (.cells #[.int .i64 p1, .int .i64 p2, .slice A2 bs.length c2, .bool wh, .int .u32 tl] 97)) := hb.alloc hb.size _
      have hx2 := (hbC.block w.heap.size l2).trans HX.out.1
      have hx4 := (hbC.block (w.heap.size + 1) l4).trans HX.out.2
      have hoC := OB.below ho ((Below.refl w'.heap.size w').alloc (Nat.le_refl _) (.cells #[.int .i64 p1, .int .i64 p2, .slice A2 bs.length c2, .bool wh, .int .u32 tl] 97))
      have q1 : (w'.alloc (.cells #[.int .i64 p1, .int .i64 p2, .slice A2 bs.length c2, .bool wh, .int .u32 tl] 97)).cell? ⟨w.heap.size + 1, 1, none⟩ = some (.int .i64 pe) := blk_cell hx4
      have hbE : Below w.heap.size w (w'.alloc (.cells #[.int .i64 p1, .int .i64 p2, .slice A2 bs.length c2, .bool wh, .int .u32 tl] 97)) := HB.out.trans (hbC.mono HB.out.size)
      have HE := Lib.hid (⟨hbE, hx2, hx4⟩ : _ ∧ _ ∧ _)
      clear hbE hx2 hx4 hb ho HB hbC HS1
      have done : ∀ W, Hid (Below w.heap.size w W ∧ W.heap[w.heap.size]? = some (.cells #[.int .i64 0, .int .i64 0, .int .i64 0] 61 (0, 0)) ∧ W.heap[w.heap.size + 1]? = some (.cells #[.int .i64 ph, .int .i64 pe, .int .i64 ps] 61 (0, 0))) → T (j + 1) = ⟨ph, pe, ps⟩ →
          ∃ j1 : Nat, j1 + (2 - (j + 1)) = 2 ∧ Value.int .i64 ((j : Int) + 1) = .int .i64 (j1 : Int) ∧ Below w.heap.size w W ∧ W.heap[w.heap.size]? = some (.cells #[.int .i64 0, .int .i64 0, .int .i64 0] 61 (0, 0)) ∧ W.heap[w.heap.size + 1]? = some (.cells #[.int .i64 (T j1).hf, .int .i64 (T j1).ep, .int .i64 (T j1).sl] 61 (0, 0)) :=
        fun W h e => ⟨j + 1, by omega, by push_cast; rfl, h.out.1, h.out.2.1, by rw [e]; exact h.out.2.2⟩
      have Done := Lib.hid done
      clear done
      cases wh with
      | false =>
        have HT2 := Lib.hid (show T (j + 1) = ⟨ph, pe, ps⟩ by rw [HTT.out, if_neg (by simp)])
        clear HTT
        go_wp2_with fail
        go_roundg (2 - (j + 1))
        case measure => omega
        case rel => exact Done.out _ HE HT2.out
      | true =>
        by_cases h1 : bs.length = 1
        · obtain ⟨b0, rfl⟩ := List.length_eq_one_iff.1 h1
          obtain ⟨g2, c3, eg, hg2, -⟩ := own_pos hoC (by simp)
          injection eg with e1 e2 e3
          subst e1 e3
          have hlt0 := b0.toNat_lt
          have hb0 : (w'.alloc (.cells #[.int .i64 p1, .int .i64 p2, .slice (some ⟨g2, 0, none⟩) 1 c2, .bool true, .int .u32 tl] 97)).cell? ⟨g2, 0, none⟩ = some (.int .u8 (b0.toNat : Int)) := hoC.cellAt 0 (by simp)
          have hgd : ([b0].getD 0 0) = b0 := rfl
          rw [hgd] at HTT
          have c1 : 1 ≤ c2 := hc2
          have HE : Hid (Below w.heap.size w (w'.alloc (.cells #[.int .i64 p1, .int .i64 p2, .slice (some ⟨g2, 0, none⟩) 1 c2, .bool true, .int .u32 tl] 97)) ∧ (w'.alloc (.cells #[.int .i64 p1, .int .i64 p2, .slice (some ⟨g2, 0, none⟩) 1 c2, .bool true, .int .u32 tl] 97)).heap[w.heap.size]? = some (.cells #[.int .i64 0, .int .i64 0, .int .i64 0] 61 (0, 0)) ∧ (w'.alloc (.cells #[.int .i64 p1, .int .i64 p2, .slice (some ⟨g2, 0, none⟩) 1 c2, .bool true, .int .u32 tl] 97)).heap[w.heap.size + 1]? = some (.cells #[.int .i64 ph, .int .i64 pe, .int .i64 ps] 61 (0, 0))) := HE
          have q1 : (w'.alloc (.cells #[.int .i64 p1, .int .i64 p2, .slice (some ⟨g2, 0, none⟩) 1 c2, .bool true, .int .u32 tl] 97)).cell? ⟨w.heap.size + 1, 1, none⟩ = some (.int .i64 pe) := q1
          simp only [List.length_singleton]
          generalize b0.toNat = b at *
          have hq0 : (0 : Int) < 1 := by decide
          clear hoC e2 hA2 hg2 h1
          rename_i q1' HE'
          clear q1'
          by_cases h2 : b < 2
          · have h2a : decide ((b : Int) < 2) = true := decide_eq_true (by omega)
            by_cases h3 : pe < p1
            · have h3a : decide ((p1 : Int) > (pe : Int)) = true := decide_eq_true (by omega)
              have h3b : decide ((pe : Int) < (p1 : Int)) = true := decide_eq_true (by omega)
              have HT2 := Lib.hid (show T (j + 1) = ⟨b, p1, j⟩ by rw [HTT.out, if_pos ⟨rfl, rfl, h2, h3⟩])
              have hbw : IntKind.i64.wrap (b : Int) = (b : Int) := by go_arith
              clear HTT
              go_wp2_with fail
              have hx6 := heap_alloc_new w' (.cells #[.int .i64 p1, .int .i64 p2, .slice (some ⟨g2, 0, none⟩) 1 c2, .bool true, .int .u32 tl] 97)
              have l4' := blk_lt HE.out.2.2
              have hne : w.heap.size + 1 < w'.heap.size := by
                simp at l4'
                rcases Nat.lt_or_ge (w.heap.size + 1) w'.heap.size with h | h
                · exact h
                · have e : w.heap.size + 1 = w'.heap.size := by omega
                  have h4 := HE.out.2.2
                  rw [e, hx6] at h4
                  injection h4 with h4
                  injection h4 with _ h4
                  cases h4
              have t0 : (w'.alloc (.cells #[.int .i64 p1, .int .i64 p2, .slice (some ⟨g2, 0, none⟩) 1 c2, .bool true, .int .u32 tl] 97)).cell? ⟨w'.heap.size, 0, none⟩ = some (.int .i64 p1) := blk_cell hx6
              have t2 : (w'.alloc (.cells #[.int .i64 p1, .int .i64 p2, .slice (some ⟨g2, 0, none⟩) 1 c2, .bool true, .int .u32 tl] 97)).cell? ⟨w'.heap.size, 2, none⟩ = some (.slice (some ⟨g2, 0, none⟩) 1 c2) := blk_cell hx6
              have q0 : (w'.alloc (.cells #[.int .i64 p1, .int .i64 p2, .slice (some ⟨g2, 0, none⟩) 1 c2, .bool true, .int .u32 tl] 97)).cell? ⟨w.heap.size + 1, 0, none⟩ = some (.int .i64 ph) := blk_cell HE.out.2.2
              have q2 : (w'.alloc (.cells #[.int .i64 p1, .int .i64 p2, .slice (some ⟨g2, 0, none⟩) 1 c2, .bool true, .int .u32 tl] 97)).cell? ⟨w.heap.size + 1, 2, none⟩ = some (.int .i64 ps) := blk_cell HE.out.2.2
              have f0 : (w'.alloc (.cells #[.int .i64 p1, .int .i64 p2, .slice (some ⟨g2, 0, none⟩) 1 c2, .bool true, .int .u32 tl] 97)).frozen? ⟨w.heap.size + 1, 0, none⟩ = false := blk_free HE.out.2.2
              have f1 : (w'.alloc (.cells #[.int .i64 p1, .int .i64 p2, .slice (some ⟨g2, 0, none⟩) 1 c2, .bool true, .int .u32 tl] 97)).frozen? ⟨w.heap.size + 1, 1, none⟩ = false := blk_free HE.out.2.2
              have f2 : (w'.alloc (.cells #[.int .i64 p1, .int .i64 p2, .slice (some ⟨g2, 0, none⟩) 1 c2, .bool true, .int .u32 tl] 97)).frozen? ⟨w.heap.size + 1, 2, none⟩ = false := blk_free HE.out.2.2
              generalize w'.alloc (.cells #[.int .i64 p1, .int .i64 p2, .slice (some ⟨g2, 0, none⟩) 1 c2, .bool true, .int .u32 tl] 97) = wC at *
              generalize w'.heap.size = X6 at *
              go_region
              all_goals go_wp2_with fail
              go_roundg (2 - (j + 1))
              case measure => omega
              case rel =>
                have hB := (((HE.out.1.setCell (p := ⟨w.heap.size + 1, 0, none⟩) (Nat.le_succ _) (.int .i64 b)).setCell (p := ⟨w.heap.size + 1, 1, none⟩) (Nat.le_succ _) (.int .i64 p1)).setCell (p := ⟨w.heap.size + 1, 2, none⟩) (Nat.le_succ _) (.int .i64 j)).drew
                have hg := Lib.grownBy_trans (Lib.grownBy_trans (Lib.grownBy_setCell wC (w.heap.size + 1) 0 (.int .i64 b)) (Lib.grownBy_setCell _ (w.heap.size + 1) 1 (.int .i64 p1))) (Lib.grownBy_setCell _ (w.heap.size + 1) 2 (.int .i64 j))
                have h2 := (hg.block w.heap.size (by omega) (by intro e; injection e with e; omega)).trans HE.out.2.1
                have h4 := heap_setCell_same _ _ 2 _ _ (.int .i64 j) (heap_setCell_same _ _ 1 _ _ (.int .i64 p1) (heap_setCell_same wC _ 0 _ _ (.int .i64 b) HE.out.2.2))
                exact ⟨j + 1, by omega, by go_num, hB, h2, by rw [HT2.out]; exact h4⟩
            · have h3a : decide ((p1 : Int) > (pe : Int)) = false := decide_eq_false (by omega)
              have h3b : decide ((pe : Int) < (p1 : Int)) = false := decide_eq_false (by omega)
              have HT2 := Lib.hid (show T (j + 1) = ⟨ph, pe, ps⟩ by rw [HTT.out, if_neg (by simp [h3])])
              clear HTT
              go_wp2_with fail
              go_roundg (2 - (j + 1))
              case measure => omega
              case rel => exact Done.out _ HE HT2.out
          · have h2a : decide ((b : Int) < 2) = false := decide_eq_false (by omega)
            have HT2 := Lib.hid (show T (j + 1) = ⟨ph, pe, ps⟩ by rw [HTT.out, if_neg (by simp [h2])])
            clear HTT
            go_wp2_with fail
            go_roundg (2 - (j + 1))
            case measure => omega
            case rel => exact Done.out _ HE HT2.out
        · have hq : ((bs.length : Int) == 1) = false := by rw [beq_eq_false_iff_ne]; omega
          have hq2 : ¬ ((bs.length : Int) = 1) := by omega
          have HT2 := Lib.hid (show T (j + 1) = ⟨ph, pe, ps⟩ by rw [HTT.out, if_neg (by simp [h1])])
          clear HTT
          go_wp2_with fail
          go_roundg (2 - (j + 1))
          case measure => omega
          case rel => exact Done.out _ HE HT2.out
    · obtain rfl : j = 2 := by omega
      have hj1 : decide (((2 : Nat) : Int) < 2) = false := by decide
      have hTk := HTs.out.2.2.1 2
      obtain ⟨p, hp⟩ : ∃ p, T 2 = p := ⟨_, rfl⟩
      rw [hp] at hX4 hTk
      have Hp := Lib.hid hp
      clear hp
      obtain ⟨ph, pe, ps⟩ := p
      dsimp only at hX4 hTk ⊢
      have q0 : wr.cell? ⟨w.heap.size + 1, 0, none⟩ = some (.int .i64 ph) := blk_cell hX4
      have q1 : wr.cell? ⟨w.heap.size + 1, 1, none⟩ = some (.int .i64 pe) := blk_cell hX4
      have q2 : wr.cell? ⟨w.heap.size + 1, 2, none⟩ = some (.int .i64 ps) := blk_cell hX4
      have r0 : wr.cell? ⟨w.heap.size, 0, none⟩ = some (.int .i64 0) := blk_cell hX2
      have r1 : wr.cell? ⟨w.heap.size, 1, none⟩ = some (.int .i64 0) := blk_cell hX2
      have r2 : wr.cell? ⟨w.heap.size, 2, none⟩ = some (.int .i64 0) := blk_cell hX2
      have f0 : wr.frozen? ⟨w.heap.size, 0, none⟩ = false := blk_free hX2
      have f1 : wr.frozen? ⟨w.heap.size, 1, none⟩ = false := blk_free hX2
      have f2 : wr.frozen? ⟨w.heap.size, 2, none⟩ = false := blk_free hX2
      clear HTs HSee
      go_wp2_with fail
      go_region
      go_wp2_with fail
      have hz5 := heap_setCell_same _ _ 2 _ _ (.int .i64 ps) (heap_setCell_same _ _ 1 _ _ (.int .i64 pe) (heap_setCell_same wr _ 0 _ _ (.int .i64 ph) hX2))
      refine bodyPost_ret (results_row_tmp rfl _ _ w.heap.size 61 _ (0, 0) _ (.bool (decide (0 < pe))) rfl rfl hz5 Try.underlying61 rfl (by kernel_rfl)) rfl ?_
      rw [Hp.out]
      exact ⟨rfl, (((hb.setCell (p := ⟨w.heap.size, 0, none⟩) (Nat.le_refl _) (.int .i64 ph)).setCell (p := ⟨w.heap.size, 1, none⟩) (Nat.le_refl _) (.int .i64 pe)).setCell (p := ⟨w.heap.size, 2, none⟩) (Nat.le_refl _) (.int .i64 ps)).drew⟩
/-- May a page of a half go on with its bytes? -/
def Dsk.goodAt (d : Dsk) (hf ep i : Nat) : Prop := (d.sheet (d.place hf i : Nat)).whole = true ∧ (d.sheet (d.place hf i : Nat)).epoch = ep ∧ (d.sheet (d.place hf i : Nat)).index = i
instance (d : Dsk) (hf ep i : Nat) : Decidable (d.goodAt hf ep i) := by unfold Dsk.goodAt; exact inferInstance
def Dsk.streamFrom (d : Dsk) (hf ep : Nat) : Nat → Nat → List UInt8
  | 0, _ => []
  | n + 1, i => if d.goodAt hf ep i then (d.sheet (d.place hf i : Nat)).bytes ++ d.streamFrom hf ep n (i + 1) else []
theorem Dsk.sheet_bytes (d : Dsk) (i : Int) : (d.sheet i).bytes.length ≤ 255 := by
  unfold Dsk.sheet
  split
  · unfold lookP
    dsimp only
    split
    · rw [List.length_take]
      have := ((pad (d.now i.toNat)).getD 10 0).toNat_lt
      omega
    · simp
  · simp
set_option maxRecDepth 100000 in
set_option maxHeartbeats 3200000 in
theorem stream_any (g k m c : Nat) (d : Dsk) (hf ep sl : Nat) (w : World) (h : DkAt w g k m c d) (hn : 8 ≤ d.kept.length) (ha : d.dead = false) (h1 : hf ≤ 1) (hep : ep < 4294967296) :
    Calls Try.prog 38 #[.pointer (some ⟨g, 0, none⟩), .agg #[.int .i64 hf, .int .i64 ep, .int .i64 sl]] w fun e w' =>
      ∃ v, e = .returned v ∧ OB w' w.heap.size v (d.streamFrom hf ep d.room 0) ∧ Below w.heap.size w w' := by
  have HRm := Lib.hid (fun W (hb : Below w.heap.size w W) => room_any g k m c d W (h.below hb))
  have HA := Lib.hid (fun i (hi : i ≤ 65536) W (hb : Below w.heap.size w W) => at_any g k m c d hf i W (h.below hb) h1 hi)
  have HSee := Lib.hid (fun (i : Int) W (hb : Below w.heap.size w W) => see_any g k m c d i W (h.below hb))
  have hrl := d.room_le h.ok.most
  have hRE : ∀ i, i < d.room → d.readE (d.place hf i : Nat) = 0 := fun i hi => by rw [d.readE_in _ (d.place_lt hf i hn h1 hi), ha]; rfl
  obtain ⟨all, hall⟩ : ∃ all, d.streamFrom hf ep d.room 0 = all := ⟨_, rfl⟩
  rw [hall]
  have HAll := Lib.hid hall
  have HRE := Lib.hid hRE
  have HDk := Lib.hid h
  obtain ⟨R, hR⟩ : ∃ R, d.room = R := ⟨_, rfl⟩
  rw [hR] at HRm HRE HAll hrl
  clear hall hRE h hn ha hR
  go_enter Try.func38, Try.ntmps38
  go_wp2_with fail
  have hb0 : Below w.heap.size w (w.alloc (.cells #[.int .i64 hf, .int .i64 ep, .int .i64 sl] 61)) := (Below.refl _ _).alloc (Nat.le_refl _) _
  have hz0 := heap_alloc_new w (.cells #[.int .i64 hf, .int .i64 ep, .int .i64 sl] 61)
  have hs0 : (w.alloc (.cells #[.int .i64 hf, .int .i64 ep, .int .i64 sl] 61)).heap.size = w.heap.size + 1 := by simp
  generalize w.alloc (.cells #[.int .i64 hf, .int .i64 ep, .int .i64 sl] 61) = wB at *
  refine (HRm.out wB hb0).mono ?_
  rintro e w' ⟨rfl, rfl⟩
  go_wp2_with fail
  go_loopg [5, 11] R (fun r s5 s11 wr => ∃ (j : Nat) (pre : List UInt8), j + r = R ∧ s11 = .int .i64 j ∧ OB wr (w.heap.size + 1) s5 pre ∧ pre ++ d.streamFrom hf ep r j = all ∧ pre.length ≤ 255 * j ∧ Below w.heap.size w wr ∧ wr.heap[w.heap.size]? = some (.cells #[.int .i64 hf, .int .i64 ep, .int .i64 sl] 61 (0, 0)))
  case atStart => exact ⟨0, [], by omega, rfl, World.ownsRow_nil _ _ _ _, HAll.out, by simp, hb0, hz0⟩
  case round =>
    obtain ⟨j, pre, hj, rfl, ho5, hall, hpl, hb, hX3⟩ := hrel
    obtain ⟨A5, c5, rfl, hc5, hA5⟩ := OB.form ho5
    clear hb0 hz0 hs0
    by_cases hjl : j < R
    · obtain ⟨n, rfl⟩ : ∃ n, gk = n + 1 := ⟨gk - 1, by omega⟩
      have hj1 : decide ((j : Int) < (R : Int)) = true := decide_eq_true (by omega)
      have hj2 : (j : Int) < (R : Int) := by omega
      have HA1 := Lib.hid (HA.out j (by omega) wr hb)
      have HS1 := Lib.hid (HSee.out (d.place hf j : Nat) wr hb)
      have hre := HRE.out j hjl
      have hsb := d.sheet_bytes (d.place hf j : Nat)
      have hse := d.sheet_epoch (d.place hf j : Nat)
      have ha1 : d.goodAt hf ep j → pre ++ ((d.sheet (d.place hf j : Nat)).bytes ++ d.streamFrom hf ep n (j + 1)) = all := fun h => by unfold Dsk.streamFrom at hall; rwa [if_pos h] at hall
      have ha2 : ¬ d.goodAt hf ep j → pre = all := fun h => by unfold Dsk.streamFrom at hall; rwa [if_neg h, List.append_nil] at hall
      clear hall
      unfold Dsk.goodAt at ha1 ha2
      rw [hre] at HS1
      generalize d.place hf j = pl at *
      obtain ⟨S, hS⟩ : ∃ S, d.sheet (pl : Nat) = S := ⟨_, rfl⟩
      rw [hS] at HS1 ha1 ha2 hsb hse
      clear hS hre
      obtain ⟨p1, p2, bs, wh, tl⟩ := S
      unfold shv at HS1
      dsimp only at HS1 ha1 ha2 hsb hse
      have HAl := Lib.hid (⟨ha1, ha2⟩ : _ ∧ _)
      have HB := Lib.hid hb
      have HO5 := Lib.hid ho5
      have lX := blk_lt hX3
      have HX := Lib.hid hX3
      have q0 : wr.cell? ⟨w.heap.size, 0, none⟩ = some (.int .i64 hf) := blk_cell hX3
      clear ha1 ha2 hb ho5 hX3 HA HSee
      go_wp2_with (go_at_call 61; refine HA1.out.mono ?_; rintro e w' ⟨rfl, rfl⟩)
      refine HS1.out.mono ?_
      rintro e w' ⟨v, rfl, ho, hb⟩
      obtain ⟨A2, c2, rfl, hc2, hA2⟩ := OB.form ho
      have hbC : Below wr.heap.size wr (w'.alloc (.cells #[.int .i64 p1, .int .i64 p2, .slice A2 bs.length c2, .bool wh, .int .u32 tl] 97)) := hb.alloc hb.size _
      have hx3 := (hbC.block w.heap.size lX).trans HX.out
      have hoC := OB.below ho ((Below.refl w'.heap.size w').alloc (Nat.le_refl _) (.cells #[.int .i64 p1, .int .i64 p2, .slice A2 bs.length c2, .bool wh, .int .u32 tl] 97))
      have ho5C := HO5.out.below hbC
      have q1 : (w'.alloc (.cells #[.int .i64 p1, .int .i64 p2, .slice A2 bs.length c2, .bool wh, .int .u32 tl] 97)).cell? ⟨w.heap.size, 1, none⟩ = some (.int .i64 ep) := blk_cell hx3
      have hbE : Below w.heap.size w (w'.alloc (.cells #[.int .i64 p1, .int .i64 p2, .slice A2 bs.length c2, .bool wh, .int .u32 tl] 97)) := HB.out.trans (hbC.mono HB.out.size)
      have HE := Lib.hid (⟨hbE, hx3, ho5C, hoC⟩ : _ ∧ _ ∧ _ ∧ _)
      clear hbE hx3 ho5C hoC hb ho HB hbC HS1 HA1 HO5
      cases wh with
      | false =>
        have HT2 := Lib.hid (HAl.out.2 (by simp))
        go_wp2_with fail
        go_ret
        obtain ⟨hbE, hx3, ho5C, hoC⟩ := HE.out
        rw [← HT2.out]
        exact ⟨_, rfl, ho5C.mono (Nat.le_succ _), hbE⟩
      | true =>
        by_cases h1 : p1 = ep
        · by_cases h2 : p2 = j
          · have hq : ((p1 : Int) != (ep : Int)) = false := by simp [h1]
            have hq2 : ((p2 : Int) != (j : Int)) = false := by simp [h2]
            have hq3 : ((p1 : Int) == (ep : Int)) = true := by simp [h1]
            have hq4 : ((p2 : Int) == (j : Int)) = true := by simp [h2]
            have HT2 := Lib.hid (show (pre ++ bs) ++ d.streamFrom hf ep n (j + 1) = all by rw [← HAl.out.1 ⟨rfl, h1, h2⟩, List.append_assoc])
            have HML : Hid (maxLen = 9223372036854775807) := rfl
            have HN := Lib.hid (⟨h1, h2⟩ : p1 = ep ∧ p2 = j)
            clear HAl h1 h2
            go_wp2_with (at_builtin; refine wpList_app _ rfl _ _ 29 rfl (w.heap.size + 1) 5 _ 1 1 Try.underlying29 info_u8 rfl (by decide) (.slice A5 pre.length c5) pre.length (pre.map vb) rfl HE.out.2.2.1 A2 bs.length c2 (bs.map vb) rfl (by simp) (RB.of_own HE.out.2.2.2) (vbs_one _) hA2 ?c6 ?c7 ?c8 ?_)
            case c6 => rw [HML.out]; omega
            case c7 => omega
            case c8 => exact blk_lt HE.out.2.1
            intro v5 w5 hown5 hg5 _
            obtain ⟨hbE, hx3, ho5C, hoC⟩ := HE.out
            have ho6 := (OB.mk hown5 (by simp) (by simp) : OB w5 (w.heap.size + 1) v5 (pre ++ bs))
            have hblk := World.ownsRow.lt ho5C
            have hbF := hbE.grown hg5 hbE.size (fun k hk => by have := (hblk k hk).1; omega)
            have hxF := (hg5.block w.heap.size (blk_lt hx3) (by intro e; have := (hblk _ e.symm).1; omega)).trans hx3
            have HF := Lib.hid (⟨ho6, hbF, hxF⟩ : _ ∧ _ ∧ _)
            clear ho6 hbF hxF hown5 hg5 hbE hx3 ho5C hoC HE hblk q1
            go_wp2_with fail
            go_roundg n
            case measure => omega
            case rel => exact ⟨j + 1, pre ++ bs, by omega, by go_num, HF.out.1, HT2.out, by rw [List.length_append]; omega, HF.out.2.1, HF.out.2.2⟩
          · have hq : ((p2 : Int) != (j : Int)) = true := by simp; omega
            have hq2 : ((p2 : Int) == (j : Int)) = false := by rw [beq_eq_false_iff_ne]; omega
            have hq3 : ¬ ((p2 : Int) = (j : Int)) := by omega
            have hq5 : ((p1 : Int) != (ep : Int)) = false := by simp [h1]
            have HN := Lib.hid h1
            have HT2 := Lib.hid (HAl.out.2 (by simp [h2]))
            clear HAl h1
            go_wp2_with fail
            go_ret
            obtain ⟨hbE, hx3, ho5C, hoC⟩ := HE.out
            rw [← HT2.out]
            exact ⟨_, rfl, ho5C.mono (Nat.le_succ _), hbE⟩
        · have hq : ((p1 : Int) != (ep : Int)) = true := by simp; omega
          have hq2 : ((p1 : Int) == (ep : Int)) = false := by rw [beq_eq_false_iff_ne]; omega
          have hq3 : ¬ ((p1 : Int) = (ep : Int)) := by omega
          have HT2 := Lib.hid (HAl.out.2 (by simp [h1]))
          clear HAl
          go_wp2_with fail
          go_ret
          obtain ⟨hbE, hx3, ho5C, hoC⟩ := HE.out
          rw [← HT2.out]
          exact ⟨_, rfl, ho5C.mono (Nat.le_succ _), hbE⟩
    · obtain rfl : j = R := by omega
      obtain rfl : gk = 0 := by omega
      have hj1 : decide ((j : Int) < (j : Int)) = false := decide_eq_false (by omega)
      have HT2 := Lib.hid (show pre = all by rw [← hall]; unfold Dsk.streamFrom; rw [List.append_nil])
      clear hall HAll
      go_wp2_with fail
      go_ret
      rw [← HT2.out]
      exact ⟨_, rfl, ho5.mono (Nat.le_succ _), hb⟩
end Go.Proofs.Ytjfpanamkkdebaa
