/- A matrix told what was heard (Note). -/
import Derived.Test.YtokcohepkajloaaMx
import Derived.Lib.BufferOwn
namespace Go.Proofs.Ytokcohepkajloaa
open Go.RowKit
set_option linter.unusedVariables false
set_option linter.unusedSimpArgs false
theorem note_out (p : Option Addr) (n : Nat) (rep : Int) (v : List Int) (w : World) (hv : v.length = 64) (hs : ∀ w', Below w.heap.size w w' → Calls Try.prog 12 #[.pointer p] w' fun e w'' => e = .returned (.int .i64 n) ∧ w' = w'') (hr : rep < 0 ∨ (n : Int) ≤ rep) :
    Calls Try.prog 9 #[.pointer p, .int .i64 rep, vv v] w fun e w' => e = .returned (.bool false) ∧ Below w.heap.size w w' := by
  have HS := Lib.hid hs
  clear hs
  have hb : Below w.heap.size w (w.alloc (.cells (ic v).toArray 27)) := (Below.refl _ _).alloc (Nat.le_refl _) _
  by_cases hn : rep < 0
  · go_enter Try.func9, Try.ntmps9
    unfold vv
    go_wp2
    go_ret
    exact ⟨rfl, hb⟩
  · have hge : (n : Int) ≤ rep := by omega
    have hq : decide ((n : Int) ≤ rep) = true := decide_eq_true hge
    go_enter Try.func9, Try.ntmps9
    unfold vv
    go_wp2_with (go_at_call 12; refine (HS.out _ hb).mono ?_; rintro e w' ⟨rfl, rfl⟩)
    go_ret
    exact ⟨rfl, hb⟩
theorem below_of_drew {W w2 : World} (h : Below W.drew.heap.size W.drew w2) : Below W.heap.size W w2 := ((Below.refl _ _).drew).trans h
set_option maxHeartbeats 1600000 in
theorem note_in (g R i : Nat) (rows : List (List Int)) (v : List Int) (w : World) (h : Mat w g R rows) (hi : i < rows.length) (hv : v.length = 64) :
    Calls Try.prog 9 #[.pointer (some ⟨g, 0, none⟩), .int .i64 i, vv v] w fun e w' => e = .returned (.bool true) ∧ Mat w' g R (rows.set i (joinv rows[i] v)) ∧ w.grownBy w' (some R) := by
  have hrl := h.wide _ (List.getElem_mem hi)
  have hjl := joinv_length hrl hv
  have hir := Lib.hid (info_row hrl)
  have hij := Lib.hid (info_of hjl)
  have hj1 := Lib.hid (ic_one (joinv rows[i] v))
  have hvi := Lib.hid (info_row hv)
  have HJ := fun w => join_any rows[i] v w hrl hv
  unfold vv at HJ
  have HJ := Lib.hid HJ
  have hjs : (ic (joinv rows[i] v)).toArray.size = 64 := by rw [ic_arr, hjl]
  go_enter Try.func9, Try.ntmps9
  unfold vv
  go_upto_region 1 with fail
  have hb : Below w.heap.size w (w.alloc (.cells (ic v).toArray 27)) := (Below.refl _ _).alloc (Nat.le_refl _) _
  have hv0 : (w.alloc (.cells (ic v).toArray 27)).rangeAt w.heap.size 0 (ic v) := by
    intro j x hx
    simp only [World.cell?, heap_alloc_new, Nat.zero_add, List.getElem?_toArray]
    exact hx
  have hM := h.below hb
  have hg1 : w.grownBy (w.alloc (.cells (ic v).toArray 27)) (some R) := World.grownBy_alloc _ _ _
  generalize w.alloc (.cells (ic v).toArray 27) = W at hb hM hv0 hg1
  have h0 := hM.gcell
  have hL := Lib.hid (hM.lies i hi)
  have hV := Lib.hid hv0
  have hq : decide ((rows.length : Int) ≤ (i : Int)) = false := decide_eq_false (by omega)
  have hi1 : ((i : Nat) : Int) < rows.length := by omega
  clear hv0
  go_wp2_with (go_at_call 12; refine (size_any g R rows W hM).mono ?_; rintro e w' ⟨rfl, rfl⟩)
  obtain ⟨ag, hag⟩ : ∃ ag : Sem Bool, ag = isAgg 27 := ⟨_, rfl⟩
  obtain ⟨so, hso⟩ : ∃ so : Sem Nat, so = sizeOf 27 := ⟨_, rfl⟩
  obtain ⟨N, hN⟩ : ∃ N : Nat, N = 64 := ⟨_, rfl⟩
  have hag1 : isAgg 27 = ag := hag.symm
  have hso1 : sizeOf 27 = so := hso.symm
  have hag2 : ∀ w, ag.run Try.prog w = .ok true w := fun w => by rw [hag]; exact Try.isAgg27 w
  have hso2 : ∀ w, so.run Try.prog w = .ok N w := fun w => by rw [hso, hN]; exact Try.sizeOf27 w
  have hl2 : (loadCellsFrom ⟨R, i * N, none⟩ 0 N #[]).run Try.prog W.drew = .ok (ic rows[i]).toArray W.drew := by
    have := run_loadCells_list (P := Try.prog) W.drew ⟨R, i * 64, none⟩ (ic rows[i]) (fun j x hj => by rw [Addr.add_mid]; exact hL.out j x hj)
    rw [ic_size, hrl] at this
    rw [hN]
    exact this
  have hl3 : (loadCellsFrom ⟨w.heap.size, 0, none⟩ 0 N #[]).run Try.prog W.drew = .ok (ic v).toArray W.drew := by
    have := run_loadCells_list (P := Try.prog) W.drew ⟨w.heap.size, 0, none⟩ (ic v) (fun j x hj => by rw [Addr.add_mid]; exact hV.out j x hj)
    rw [ic_size, hv] at this
    rw [hN]
    exact this
  have hcz : (ic (joinv rows[i] v)).length = N := by rw [ic_size, hjl, hN]
  have HM : Hid (∀ w2, Mat w2 g R rows → Mat (w2.setCells R (i * N) (ic (joinv rows[i] v))) g R (rows.set i (joinv rows[i] v))) := by
    show ∀ w2, _
    intro w2 hM2
    rw [hN]
    exact hM2.put i hi (joinv rows[i] v) hjl
  have HS : Hid (∀ w2, Mat w2 g R rows → (storeCells ⟨R, i * N, none⟩ (ic (joinv rows[i] v)) 0).run Try.prog w2 = .ok () (w2.setCells R (i * N) (ic (joinv rows[i] v)))) := by
    show ∀ w2, _
    intro w2 h2
    have hlen : (ic (joinv rows[i] v)).length = 64 := by rw [ic_size, hjl]
    have := run_storeCells_cells (P := Try.prog) R (i * 64) (ic (joinv rows[i] v)) 0 w2 (fun j hj => by have := h2.free (i * 64 + j) (by omega); rw [Nat.zero_add] at this; exact this.1) (fun j hj => by have := h2.free (i * 64 + j) (by omega); rw [Nat.zero_add] at this; exact this.2) (fun x hx => by obtain ⟨y, _, rfl⟩ := List.mem_map.1 hx; rfl)
    rw [hN]
    exact this
  have HN := Lib.hid hN
  have hgR : Hid (∀ w2, Below W.heap.size W w2 → w.grownBy (w2.setCells R (i * N) (ic (joinv rows[i] v))) (some R)) := by
    show ∀ w2, _
    intro w2 h2
    exact Lib.grownBy_trans (Lib.grownBy_below hg1 h2) (grownBy_setCells w2 R _ _)
  clear hag hso hN hjs hjl hrl hir hij hj1 hvi hL hV
  have HMW := Lib.hid hM
  clear hM
  generalize hze : joinv rows[i] v = z at HJ HM HS hgR hcz
  have HZ := Lib.hid hze
  clear hze
  generalize hre : rows[i] = r at hl2 HJ
  clear hre
  go_region_law (first | (go_simp; go_at_call 24; refine (HJ.out W.drew).mono ?_; rintro e w2 ⟨rfl, hb2⟩; have hM2 := Mat.below (HMW.out) (w' := w2) (below_of_drew hb2); have h0' := hM2.gcell; have hst := HS.out w2 hM2))
  all_goals go_wp2
  all_goals go_ret
  all_goals exact ⟨rfl, by rw [HZ.out]; exact HM.out _ hM2, hgR.out _ (below_of_drew hb2)⟩
end Go.Proofs.Ytokcohepkajloaa
