/- dots.Within. -/
import Derived.Test.YtokcohepkajloaaRb
namespace Go.Proofs.Ytokcohepkajloaa
open Go.RowKit
set_option linter.unusedVariables false
set_option linter.unusedSimpArgs false
set_option maxHeartbeats 1600000 in
theorem dwithin_any (a b : List Int) (w : World) (ha : a.length = 64) (hb : b.length = 64) :
    Calls Try.prog 25 #[vv a, vv b] w fun e w' => e = .returned (.bool (inb a b)) ∧ Below w.heap.size w w' := by
  have hjl := joinv_length ha hb
  have heq : ∀ w, (Op.equalIn 10000 27 (vv (joinv a b)) (vv b)).run Try.prog w = .ok (inb a b) w := fun w =>
    run_equalIn_vec (P := Try.prog) w 9998 27 3 64 (joinv a b) b Try.underlying27 Try.underlying3 Try.isAgg3 Try.sizeOf3 hjl hb
  have HJ := fun w => join_any a b w ha hb
  unfold vv at HJ heq
  have HJ := Lib.hid HJ
  have HG := guard_vec
  generalize inb a b = z at heq
  generalize joinv a b = y at heq HJ
  clear hjl
  go_enter Try.func25, Try.ntmps25
  unfold vv
  go_upto_region 1 with fail
  have hbW : Below w.heap.size w ((w.alloc (.cells (ic a).toArray 27)).alloc (.cells (ic b).toArray 27)) := ((Below.refl _ _).alloc (Nat.le_refl _) _).alloc (by simp) _
  have h0 := heap_alloc2_old w (.cells (ic a).toArray 27) (.cells (ic b).toArray 27)
  have h1 := heap_alloc2_new w (.cells (ic a).toArray 27) (.cells (ic b).toArray 27)
  generalize (w.alloc (.cells (ic a).toArray 27)).alloc (.cells (ic b).toArray 27) = W at h0 h1 hbW
  have hra : W.drew.rangeAt w.heap.size 0 (ic a) := by
    intro y v hy
    simp only [World.cell?, heap_drew, h0, Nat.zero_add, List.getElem?_toArray]
    exact hy
  have hrb : W.drew.rangeAt (w.heap.size + 1) 0 (ic b) := by
    intro y v hy
    simp only [World.cell?, heap_drew, h1, Nat.zero_add, List.getElem?_toArray]
    exact hy
  have hbd : Below w.heap.size w W.drew := hbW.drew
  obtain ⟨ag, hag⟩ : ∃ ag : Sem Bool, ag = isAgg 27 := ⟨_, rfl⟩
  obtain ⟨so, hso⟩ : ∃ so : Sem Nat, so = sizeOf 27 := ⟨_, rfl⟩
  obtain ⟨N, hN⟩ : ∃ N : Nat, N = 64 := ⟨_, rfl⟩
  have hag1 : isAgg 27 = ag := hag.symm
  have hso1 : sizeOf 27 = so := hso.symm
  have hag2 : ∀ w, ag.run Try.prog w = .ok true w := fun w => by rw [hag]; exact Try.isAgg27 w
  have hso2 : ∀ w, so.run Try.prog w = .ok N w := fun w => by rw [hso, hN]; exact Try.sizeOf27 w
  have hl2 : ∀ (q : Nat) (l : List Int) (w' : World), l.length = 64 → w'.rangeAt q 0 (ic l) → (loadCellsFrom ⟨q, 0, none⟩ 0 N #[]).run Try.prog w' = .ok (ic l).toArray w' := by
    intro q l w' hl hr
    have := run_loadCells_list (P := Try.prog) w' ⟨q, 0, none⟩ (ic l) (fun j x hj => by rw [Addr.add_mid]; exact hr j x hj)
    rw [ic_size, hl] at this
    rw [hN]
    exact this
  have la := hl2 _ a W.drew ha hra
  have lb := hl2 _ b W.drew hb hrb
  have HLb := Lib.hid (fun w2 (h : Below W.drew.heap.size W.drew w2) => hl2 _ b w2 hb (range_below hrb h))
  clear hag hso hN hl2 h0 h1 hra hrb ha hb hbW
  go_region_law (first | (go_simp; go_at_call 24; refine (HJ.out _).mono ?_; rintro e w2 ⟨rfl, hb2⟩; have lb2 := HLb.out w2 hb2))
  all_goals go_wp2
  all_goals go_ret
  all_goals exact ⟨rfl, hbd.trans (hb2.mono hbd.size)⟩
end Go.Proofs.Ytokcohepkajloaa
