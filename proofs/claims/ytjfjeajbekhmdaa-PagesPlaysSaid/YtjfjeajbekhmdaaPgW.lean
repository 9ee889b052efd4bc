/- The document's New: the walk. -/
import Derived.Test.YtjfjeajbekhmdaaPgV
namespace Go.Proofs.Ytjfjeajbekhmdaa
open Go.RowKit Go.Maps
set_option linter.unusedVariables false
set_option linter.unusedSimpArgs false
theorem info_b : (Try.prog.info? 4).map (fun i => (i.zero, i.size, i.bytes)) = some (some (.bool false), 1, 1) := by kernel_rfl
theorem rnew_not (n : Int) (w : World) (h : n < 1 ∨ 4096 < n) :
    Calls Try.prog 10 #[.int .i64 n] w fun e w' => e = .returned (.tuple #[.pointer none, .int .i64 1]) ∧ w = w' := by
  by_cases h1 : n < 1
  · have hq : decide (n < 1) = true := decide_eq_true h1
    go_enter Try.func10, Try.ntmps10
    go_wp2
    go_ret2
    exact ⟨rfl, rfl⟩
  · have hq : decide (n < 1) = false := decide_eq_false h1
    have hq2 : decide (n > 4096) = true := decide_eq_true (by omega)
    have hq3 : decide (4096 < n) = true := decide_eq_true (by omega)
    go_enter Try.func10, Try.ntmps10
    go_wp2
    go_ret2
    exact ⟨rfl, rfl⟩
theorem below_push {w wr w1 : World} {o : Obj} {e : TypeId} {v : Value} {n : Nat} {xs : List Value} (hb : Below w.heap.size w wr) (rn : wr.ownsRow (w.heap.size + 1) e 1 v n xs) (hg : (wr.alloc o).grownBy w1 v.ownBlock) (i : Nat) (u : Value) : Below w.heap.size w (w1.setCell ⟨w.heap.size, i, none⟩ u) := by
  have h1 := (hb.alloc hb.size o).grown hg (by have := hb.size; simp; omega) (fun k hk => by have := (World.ownsRow.lt rn k hk).1; omega)
  exact h1.grown (Lib.grownBy_setCell w1 w.heap.size i u) h1.size (fun k hk => by injection hk with hk; omega)
theorem tmp_set (w : World) (g i : Nat) (v u : Value) (e : TypeId) : ((w.setCell ⟨g, i, none⟩ v).alloc (.cells #[u] e)).cell? ⟨w.heap.size, 0, none⟩ = some u := by
  have h := tmp_here (w.setCell ⟨g, i, none⟩ v) u e
  have hs : (w.setCell ⟨g, i, none⟩ v).heap.size = w.heap.size := by simp [World.setCell]
  rwa [hs] at h
/-- The document's device while it is made: its three rows. -/
structure Mk (w : World) (g p q r : Nat) (vN vH vI : Value) : Prop where
  blk : w.heap[g]? = some (.cells #[vN, vH, vI, .int .i64 (-1), .bool false] 64 (0, 0))
  rn : w.ownsRow (g + 1) 9 1 vN p (List.replicate p (vs (pad [])))
  rh : w.ownsRow (g + 1) 9 1 vH q (List.replicate q (vs (pad [])))
  ri : w.ownsRow (g + 1) 4 1 vI r (List.replicate r (.bool false))
  nh : ∀ k, vN.ownBlock = some k → vH.ownBlock ≠ some k
  ni : ∀ k, vN.ownBlock = some k → vI.ownBlock ≠ some k
  hi : ∀ k, vH.ownBlock = some k → vI.ownBlock ≠ some k
/-- A row that the call itself made, behind an append to another one and a store into block g. -/
theorem own_past {w w3 : World} {g : Nat} {o : Obj} {e : TypeId} {v v2 : Value} {n : Nat} {xs : List Value} (h : w.ownsRow (g + 1) e 1 v n xs) (hg : (w.alloc o).grownBy w3 v2.ownBlock) (hne : ∀ k, v2.ownBlock = some k → v.ownBlock ≠ some k) (i : Nat) (u : Value) : (w3.setCell ⟨g, i, none⟩ u).ownsRow (g + 1) e 1 v n xs := by
  have h1 := World.ownsRow.alloc h o
  have h2 : w3.ownsRow (g + 1) e 1 v n xs := World.ownsRow.kept h1 hg (by
    cases hv : v.ownBlock with
    | none => exact .inl rfl
    | some k => exact .inr (fun e2 => hne k e2.symm hv))
  exact World.ownsRow.kept h2 (Lib.grownBy_setCell w3 g i u) (by
    cases hv : v.ownBlock with
    | none => exact .inl rfl
    | some k => exact .inr (fun e2 => by injection e2 with e2; have := (World.ownsRow.lt h2 k hv).1; omega))
theorem own_apart {w : World} {b g' : Nat} {o : Obj} {e e2 : TypeId} {v v2 : Value} {n m : Nat} {xs ys : List Value} (h : w.ownsRow b e 1 v n xs) (hat : v2.ownBlock = some g' ∨ g' = (w.alloc o).heap.size) (hne : ∀ k, v2.ownBlock = some k → v.ownBlock ≠ some k) : v.ownBlock ≠ some g' := by
  rcases hat with hat | rfl
  · exact hne g' hat
  · intro hv
    have := (World.ownsRow.lt h _ hv).2
    simp at this
    omega
theorem head_kept {w w3 : World} {g : Nat} {o : Obj} {e : TypeId} {v2 : Value} {n : Nat} {xs : List Value} {cs : Array Value} {t : TypeId} (hb : w.heap[g]? = some (.cells cs t (0, 0))) (h : w.ownsRow (g + 1) e 1 v2 n xs) (hg : (w.alloc o).grownBy w3 v2.ownBlock) : w3.heap[g]? = some (.cells cs t (0, 0)) := by
  have hl := blk_lt hb
  exact (hg.block g (by simp; omega) (fun e => by have := (World.ownsRow.lt h g e.symm).1; omega)).trans (blk_alloc hb)
theorem head_past {w w3 : World} {g : Nat} {o : Obj} {e : TypeId} {v2 : Value} {n : Nat} {xs : List Value} {cs : Array Value} {t : TypeId} (hb : w.heap[g]? = some (.cells cs t (0, 0))) (h : w.ownsRow (g + 1) e 1 v2 n xs) (hg : (w.alloc o).grownBy w3 v2.ownBlock) (i : Nat) (u : Value) : (w3.setCell ⟨g, i, none⟩ u).heap[g]? = some (.cells (cs.setIfInBounds i u) t (0, 0)) := by
  have hl := blk_lt hb
  have h3 : w3.heap[g]? = some (.cells cs t (0, 0)) := (hg.block g (by simp; omega) (fun e => by have := (World.ownsRow.lt h g e.symm).1; omega)).trans (blk_alloc hb)
  exact heap_setCell_same w3 g i _ _ _ h3
section
variable {w w3 : World} {g p q r g' c' : Nat} {vN vH vI : Value} {o : Obj}
theorem ob (g' n c' : Nat) : (Value.slice (some ⟨g', 0, none⟩) n c').ownBlock = some g' := rfl
theorem Mk.pushN (h : Mk w g p q r vN vH vI) (hown : w3.ownsRow (g + 1) 9 1 (.slice (some ⟨g', 0, none⟩) (p + 1) c') (p + 1) (List.replicate p (vs (pad [])) ++ [vs (pad [])])) (hg : (w.alloc o).grownBy w3 vN.ownBlock) (hat : vN.ownBlock = some g' ∨ g' = (w.alloc o).heap.size) :
    Mk (w3.setCell ⟨g, 0, none⟩ (.slice (some ⟨g', 0, none⟩) (p + 1) c')) g (p + 1) q r (.slice (some ⟨g', 0, none⟩) (p + 1) c') vH vI := by
  refine ⟨head_past h.blk h.rn hg 0 _, ?_, own_past h.rh hg h.nh 0 _, own_past h.ri hg h.ni 0 _, ?_, ?_, h.hi⟩
  · rw [List.replicate_succ']
    exact World.ownsRow.kept hown (Lib.grownBy_setCell w3 g 0 _) (.inr (fun e2 => by rw [ob] at e2; injection e2 with e2; have e3 : g' = g := e2; have := (World.ownsRow.lt hown g' rfl).1; omega))
  · intro k hk; rw [ob] at hk; injection hk with hk; subst hk; exact own_apart (e2 := 0) (m := 0) (ys := []) h.rh hat h.nh
  · intro k hk; rw [ob] at hk; injection hk with hk; subst hk; exact own_apart (e2 := 0) (m := 0) (ys := []) h.ri hat h.ni
theorem Mk.pushH (h : Mk w g p q r vN vH vI) (hown : w3.ownsRow (g + 1) 9 1 (.slice (some ⟨g', 0, none⟩) (q + 1) c') (q + 1) (List.replicate q (vs (pad [])) ++ [vs (pad [])])) (hg : (w.alloc o).grownBy w3 vH.ownBlock) (hat : vH.ownBlock = some g' ∨ g' = (w.alloc o).heap.size) :
    Mk (w3.setCell ⟨g, 1, none⟩ (.slice (some ⟨g', 0, none⟩) (q + 1) c')) g p (q + 1) r vN (.slice (some ⟨g', 0, none⟩) (q + 1) c') vI := by
  have hn : ∀ k, vH.ownBlock = some k → vN.ownBlock ≠ some k := fun k h1 h2 => h.nh k h2 h1
  refine ⟨head_past h.blk h.rh hg 1 _, own_past h.rn hg hn 1 _, ?_, own_past h.ri hg h.hi 1 _, ?_, h.ni, ?_⟩
  · rw [List.replicate_succ']
    exact World.ownsRow.kept hown (Lib.grownBy_setCell w3 g 1 _) (.inr (fun e2 => by rw [ob] at e2; injection e2 with e2; have e3 : g' = g := e2; have := (World.ownsRow.lt hown g' rfl).1; omega))
  · intro k hk h2; rw [ob] at h2; injection h2 with h2; subst h2; exact own_apart (e2 := 0) (m := 0) (ys := []) h.rn hat hn hk
  · intro k hk; rw [ob] at hk; injection hk with hk; subst hk; exact own_apart (e2 := 0) (m := 0) (ys := []) h.ri hat h.hi
theorem Mk.pushI (h : Mk w g p q r vN vH vI) (hown : w3.ownsRow (g + 1) 4 1 (.slice (some ⟨g', 0, none⟩) (r + 1) c') (r + 1) (List.replicate r (.bool false) ++ [.bool false])) (hg : (w.alloc o).grownBy w3 vI.ownBlock) (hat : vI.ownBlock = some g' ∨ g' = (w.alloc o).heap.size) :
    Mk (w3.setCell ⟨g, 2, none⟩ (.slice (some ⟨g', 0, none⟩) (r + 1) c')) g p q (r + 1) vN vH (.slice (some ⟨g', 0, none⟩) (r + 1) c') := by
  have hn : ∀ k, vI.ownBlock = some k → vN.ownBlock ≠ some k := fun k h1 h2 => h.ni k h2 h1
  have hh : ∀ k, vI.ownBlock = some k → vH.ownBlock ≠ some k := fun k h1 h2 => h.hi k h2 h1
  refine ⟨head_past h.blk h.ri hg 2 _, own_past h.rn hg hn 2 _, own_past h.rh hg hh 2 _, ?_, h.nh, ?_, ?_⟩
  · rw [List.replicate_succ']
    exact World.ownsRow.kept hown (Lib.grownBy_setCell w3 g 2 _) (.inr (fun e2 => by rw [ob] at e2; injection e2 with e2; have e3 : g' = g := e2; have := (World.ownsRow.lt hown g' rfl).1; omega))
  · intro k hk h2; rw [ob] at h2; injection h2 with h2; subst h2; exact own_apart (e2 := 0) (m := 0) (ys := []) h.rn hat hn hk
  · intro k hk h2; rw [ob] at h2; injection h2 with h2; subst h2; exact own_apart (e2 := 0) (m := 0) (ys := []) h.rh hat hh hk
end
set_option maxHeartbeats 3200000 in
theorem rnew_any (n : Nat) (w : World) (h1 : 1 ≤ n) (h2 : n ≤ 4096) :
    Calls Try.prog 10 #[.int .i64 n] w fun e w' => ∃ vN vH vI, e = .returned (.tuple #[.pointer (some ⟨w.heap.size, 0, none⟩), .int .i64 0]) ∧ Mk w' w.heap.size n n n vN vH vI ∧ Below w.heap.size w w' := by
  have hq : decide ((n : Int) < 1) = false := decide_eq_false (by omega)
  have hq2 : decide ((n : Int) > 4096) = false := decide_eq_false (by omega)
  have hq3 : decide ((4096 : Int) < n) = false := decide_eq_false (by omega)
  have HPg := Lib.hid (fun w' => page_any none 0 [] w' (fun k v hk => by simp at hk) (by decide))
  go_enter Try.func10, Try.ntmps10
  go_wp2_with (go_at_call 14; refine (HPg.out _).mono ?_; rintro e w1 ⟨rfl, rfl⟩)
  have HML : Hid (maxLen = 9223372036854775807) := rfl
  have hb0 : Below w.heap.size w (w.alloc (.cells #[.slice none 0 0, .slice none 0 0, .slice none 0 0, .int .i64 (-1), .bool false] 64)) := (Below.refl _ _).alloc (Nat.le_refl _) _
  have hm0 : Mk (w.alloc (.cells #[.slice none 0 0, .slice none 0 0, .slice none 0 0, .int .i64 (-1), .bool false] 64)) w.heap.size 0 0 0 (.slice none 0 0) (.slice none 0 0) (.slice none 0 0) :=
    ⟨heap_alloc_new w _, World.ownsRow_nil _ _ _ _, World.ownsRow_nil _ _ _ _, World.ownsRow_nil _ _ _ _, fun k hk => (by cases hk), fun k hk => (by cases hk), fun k hk => (by cases hk)⟩
  clear HPg
  go_loopg [16] n (fun r i wr => ∃ (j : Nat) (vN vH vI : Value), j + r = n ∧ i = .int .i64 j ∧ Mk wr w.heap.size j j j vN vH vI ∧ Below w.heap.size w wr)
  case atStart => exact ⟨0, _, _, _, by omega, rfl, hm0, hb0⟩
  case round =>
    clear hm0 hb0
    obtain ⟨j, vN, vH, vI, hj, rfl, hm, hb⟩ := hrel
    by_cases hjn : j < n
    · have hj1 : decide ((j : Int) < (n : Int)) = true := decide_eq_true (by omega)
      have q0 : wr.cell? ⟨w.heap.size, 0, none⟩ = some vN := blk_cell hm.blk
      have rn := hm.rn
      have hz := blk_lt hm.blk
      go_wp2_with (first
        | (at_builtin; refine wpList_one rfl _ _ 48 rfl (w.heap.size + 1) 9 _ 16 Try.underlying48 info_str rfl _ j _ rfl (World.ownsRow.alloc rn _) ⟨_, 0, none⟩ (vs (pad [])) rfl (tmp_here _ _ _) rfl (by rw [HML.out]; omega) (by omega) (by first | omega | exact Nat.le_trans hz (size_alloc_le _ _)) ?_; intro g1 c1 w1 hown1 hg1 hat1 hlt1
           have hB1 := head_kept hm.blk rn hg1
           have cB1 : w1.cell? ⟨w.heap.size, 0, none⟩ = _ := blk_cell hB1
           have fB1 : w1.frozen? ⟨w.heap.size, 0, none⟩ = false := blk_free hB1
           have hm1 := hm.pushN hown1 hg1 hat1
           have hz1 := blk_lt hm1.blk
           have rh1 := hm1.rh
           have qq1 : (w1.setCell ⟨w.heap.size, 0, none⟩ (.slice (some ⟨g1, 0, none⟩) (j + 1) c1)).cell? ⟨w.heap.size, 1, none⟩ = some vH := blk_cell hm1.blk)
        | (at_builtin; refine wpList_one rfl _ _ 48 rfl (w.heap.size + 1) 9 _ 16 Try.underlying48 info_str rfl _ j _ rfl (World.ownsRow.alloc rh1 _) ⟨w1.heap.size, 0, none⟩ (vs (pad [])) rfl (tmp_set w1 w.heap.size 0 _ _ _) rfl (by rw [HML.out]; omega) (by omega) (by first | omega | exact Nat.le_trans hz1 (size_alloc_le _ _)) ?_; intro g2 c2 w2 hown2 hg2 hat2 hlt2
           have hB2 := head_kept hm1.blk rh1 hg2
           have cB2 : w2.cell? ⟨w.heap.size, 1, none⟩ = _ := blk_cell hB2
           have fB2 : w2.frozen? ⟨w.heap.size, 1, none⟩ = false := blk_free hB2
           have hm2 := hm1.pushH hown2 hg2 hat2
           have hz2 := blk_lt hm2.blk
           have ri2 := hm2.ri
           have qq2 : (w2.setCell ⟨w.heap.size, 1, none⟩ (.slice (some ⟨g2, 0, none⟩) (j + 1) c2)).cell? ⟨w.heap.size, 2, none⟩ = some vI := blk_cell hm2.blk)
        | (at_builtin; refine wpList_one rfl _ _ 62 rfl (w.heap.size + 1) 4 _ 1 Try.underlying62 info_b rfl _ j _ rfl (World.ownsRow.alloc ri2 _) ⟨w2.heap.size, 0, none⟩ (.bool false) rfl (tmp_set w2 w.heap.size 1 _ _ _) rfl (by rw [HML.out]; omega) (by omega) (by first | omega | exact Nat.le_trans hz2 (size_alloc_le _ _)) ?_; intro g3 c3 w3 hown3 hg3 hat3 hlt3
           have hB3 := head_kept hm2.blk ri2 hg3
           have cB3 : w3.cell? ⟨w.heap.size, 2, none⟩ = _ := blk_cell hB3
           have fB3 : w3.frozen? ⟨w.heap.size, 2, none⟩ = false := blk_free hB3
           have hm3 := hm2.pushI hown3 hg3 hat3
           have hz3 := blk_lt hm3.blk))
      go_roundg (n - (j + 1))
      case measure => omega
      case rel => exact ⟨j + 1, _, _, _, by omega, by go_num, hm3, below_push (below_push (below_push hb rn hg1 _ _) rh1 hg2 _ _) ri2 hg3 _ _⟩
    · obtain rfl : j = n := by omega
      go_wp2
      go_ret2
      exact ⟨_, _, _, rfl, hm, hb⟩
end Go.Proofs.Ytjfjeajbekhmdaa
