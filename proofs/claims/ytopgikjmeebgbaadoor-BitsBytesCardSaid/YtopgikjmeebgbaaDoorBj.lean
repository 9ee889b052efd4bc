/- The document's set. -/
import Derived.Test.YtopgikjmeebgbaaDoorBi
namespace Go.Proofs.YtopgikjmeebgbaaDoor
open Go.RowKit
set_option linter.unusedVariables false
set_option linter.unusedSimpArgs false
theorem info_bool : (Tryd.prog.info? 4).map (fun i => (i.zero, i.size, i.bytes)) = some (some (.bool false), 1, 1) := by kernel_rfl
/-- The document's set in memory. -/
structure RefAt (w : World) (g R : Nat) (bs : List Bool) : Prop where
  box : w.heap[g]? = some (.cells #[.slice (some ⟨R, 0, none⟩) bs.length bs.length] 68 (0, 0))
  bit : ∀ k (h : k < bs.length), w.cell? ⟨R, k, none⟩ = some (.bool bs[k])
  free : ∀ k, k < bs.length → w.frozen? ⟨R, k, none⟩ = false
  lt : R < g
  small : bs.length ≤ 65536
theorem RefAt.glt {w : World} {g R : Nat} {bs : List Bool} (h : RefAt w g R bs) : g < w.heap.size := (Array.getElem?_eq_some_iff.1 h.box).1
theorem RefAt.blocks {w w' : World} {g R : Nat} {bs : List Bool} (h : RefAt w g R bs) (hg : w'.heap[g]? = w.heap[g]?) (hW : w'.heap[R]? = w.heap[R]?) : RefAt w' g R bs :=
  ⟨by rw [hg]; exact h.box, fun k hk => by rw [World.cell?_of_block hW]; exact h.bit k hk, fun k hk => by rw [World.frozen?_of_block hW]; exact h.free k hk, h.lt, h.small⟩
theorem RefAt.below {w w' : World} {g R : Nat} {bs : List Bool} (h : RefAt w g R bs) (hb : Below w.heap.size w w') : RefAt w' g R bs :=
  h.blocks (hb.block g h.glt) (hb.block R (Nat.lt_trans h.lt h.glt))
theorem RefAt.c0 {w : World} {g R : Nat} {bs : List Bool} (h : RefAt w g R bs) : w.cell? ⟨g, 0, none⟩ = some (.slice (some ⟨R, 0, none⟩) bs.length bs.length) := by simp [World.cell?, h.box]
theorem RefAt.put {w : World} {g R : Nat} {bs : List Bool} (h : RefAt w g R bs) (i : Nat) (hi : i < bs.length) (b : Bool) : RefAt (w.setCell ⟨R, i, none⟩ (.bool b)) g R (bs.set i b) := by
  have hl := h.lt
  refine ⟨?_, fun k hk => ?_, fun k hk => ?_, hl, by rw [List.length_set]; exact h.small⟩
  · rw [heap_setCell_other _ _ _ _ (show g ≠ R by omega), List.length_set]; exact h.box
  · have hk' : k < bs.length := by rw [List.length_set] at hk; exact hk
    by_cases e : k = i
    · subst e
      rw [List.getElem_set_self]
      exact World.cell?_setCell_same _ _ _ (h.bit _ hk')
    · rw [World.cell?_setCell_other _ _ _ _ (by intro e2; injection e2 with _ e3 _; exact e e3.symm), List.getElem_set_ne (by omega)]; exact h.bit k hk'
  · rw [List.length_set] at hk
    rw [World.frozen?_setCell]; exact h.free k hk
theorem ref_made (w' : World) (m R g N : Nat) (hN : N = m) (hR : w'.heap[R]? = some (.cells (madeCells #[.bool false] N) 4 (0, 0))) (hg : w'.heap[g]? = some (.cells #[.slice (some ⟨R, 0, none⟩) m m] 68 (0, 0))) (hlt : R < g) (hm : m ≤ 65536) :
    RefAt w' g R (List.replicate m false) := by
  refine ⟨by rw [List.length_replicate]; exact hg, fun k hk => ?_, fun k hk => ?_, hlt, by rw [List.length_replicate]; exact hm⟩
  · rw [List.length_replicate] at hk
    rw [List.getElem_replicate]
    simp only [World.cell?, hR]
    exact made_one _ _ _ (by omega)
  · simp [World.frozen?, hR]
set_option maxHeartbeats 800000 in
theorem rnew_any (n : Int) (w : World) :
    Calls Tryd.prog 43 #[.int .i64 n] w fun e w' => ∃ g R, e = .returned (.pointer (some ⟨g, 0, none⟩)) ∧ RefAt w' g R (List.replicate (clip n) false) ∧ w.heap.size ≤ R ∧ Below w.heap.size w w' := by
  have key : ∀ (m : Nat) (bs : List Bool), m = clip n → Hid (bs = List.replicate m false) → Calls Tryd.prog 43 #[.int .i64 n] w fun e w' => ∃ g R, e = .returned (.pointer (some ⟨g, 0, none⟩)) ∧ RefAt w' g R bs ∧ w.heap.size ≤ R ∧ Below w.heap.size w w' := by
    intro m bs hm HB
    unfold clip at hm
    by_cases h1 : n < 0
    · obtain rfl : m = 0 := by omega
      clear hm
      go_enter Tryd.func43, Tryd.ntmps43
      go_wp2_with (refine wpList_mkz rfl (.tmp 5) (.tmp 5) 66 rfl 4 _ 1 1 Tryd.underlying66 info_bool #[.bool false] rfl .i64 .i64 _ _ 0 0 rfl rfl (by omega) (by omega) (Nat.le_refl _) (by omega) (by omega) ?_)
      go_ret
      first | refine ⟨_, w.heap.size, rfl, ?_, Nat.le_refl _, ((Below.refl _ _).alloc (Nat.le_refl _) _).alloc (by simp) _⟩ | refine ⟨_, rfl, w.heap.size, ?_, Nat.le_refl _, ((Below.refl _ _).alloc (Nat.le_refl _) _).alloc (by simp) _⟩
      rw [HB.out]
      exact ref_made _ _ w.heap.size _ _ (by first | rfl | exact Nat.mul_one _) (heap_alloc2_old _ _ _) (heap_alloc2_new _ _ _) (by simp) (by omega)
    · by_cases h2 : 65536 < n
      · have hm5 : m = 65536 := by omega
        clear hm
        have HM := Lib.hid hm5
        clear hm5
        go_enter Tryd.func43, Tryd.ntmps43
        go_wp2_with (refine wpList_mkz rfl (.tmp 5) (.tmp 5) 66 rfl 4 _ 1 1 Tryd.underlying66 info_bool #[.bool false] rfl .i64 .i64 _ _ m m rfl rfl (by have := HM.out; omega) (by have := HM.out; omega) (Nat.le_refl _) (by have := HM.out; omega) (by have := HM.out; omega) ?_)
        go_ret
        first | refine ⟨_, w.heap.size, rfl, ?_, Nat.le_refl _, ((Below.refl _ _).alloc (Nat.le_refl _) _).alloc (by simp) _⟩ | refine ⟨_, rfl, w.heap.size, ?_, Nat.le_refl _, ((Below.refl _ _).alloc (Nat.le_refl _) _).alloc (by simp) _⟩
        rw [HB.out]
        have e1 := HM.out
        clear HB
        exact ref_made _ _ w.heap.size _ _ (by first | rfl | exact Nat.mul_one _) (heap_alloc2_old _ _ _) (heap_alloc2_new _ _ _) (by simp) (by omega)
      · obtain rfl : n = (m : Int) := by omega
        have hm64 : m ≤ 65536 := by omega
        clear hm h1
        have hm0 : (0 : Int) ≤ (m : Int) := by omega
        go_enter Tryd.func43, Tryd.ntmps43
        go_wp2_with (refine wpList_mkz rfl (.tmp 5) (.tmp 5) 66 rfl 4 _ 1 1 Tryd.underlying66 info_bool #[.bool false] rfl .i64 .i64 _ _ m m rfl rfl (by omega) (by omega) (Nat.le_refl _) (by omega) (by omega) ?_)
        go_ret
        first | refine ⟨_, w.heap.size, rfl, ?_, Nat.le_refl _, ((Below.refl _ _).alloc (Nat.le_refl _) _).alloc (by simp) _⟩ | refine ⟨_, rfl, w.heap.size, ?_, Nat.le_refl _, ((Below.refl _ _).alloc (Nat.le_refl _) _).alloc (by simp) _⟩
        rw [HB.out]
        exact ref_made _ _ w.heap.size _ _ (by first | rfl | exact Nat.mul_one _) (heap_alloc2_old _ _ _) (heap_alloc2_new _ _ _) (by simp) (by omega)
  exact key _ _ rfl rfl
theorem rhas_any (g R : Nat) (bs : List Bool) (i : Int) (w : World) (h : RefAt w g R bs) :
    Calls Tryd.prog 20 #[.pointer (some ⟨g, 0, none⟩), .int .i64 i] w fun e w' => e = .returned (.bool (decide (0 ≤ i) && bs[i.toNat]?.getD false)) ∧ w = w' := by
  have h0 := h.c0
  by_cases hr : 0 ≤ i ∧ i < bs.length
  · obtain ⟨k, rfl⟩ : ∃ k : Nat, i = (k : Int) := ⟨i.toNat, by omega⟩
    have hk : k < bs.length := by omega
    have hki : (k : Int) < (bs.length : Int) := by omega
    have hb := h.bit k hk
    have e : (decide (0 ≤ (k : Int)) && bs[(k : Int).toNat]?.getD false) = bs[k] := by
      rw [decide_eq_true hr.1, Bool.true_and, Int.toNat_natCast, List.getElem?_eq_getElem hk, Option.getD_some]
    rw [e]
    generalize bs[k] = b at hb ⊢
    clear e hr
    go_enter Tryd.func20, Tryd.ntmps20
    go_wp2
    go_ret
    exact ⟨rfl, rfl⟩
  · have e : (decide (0 ≤ i) && bs[i.toNat]?.getD false) = false := by
      by_cases h0 : 0 ≤ i
      · rw [List.getElem?_eq_none (by omega)]; simp
      · simp [h0]
    rw [e]
    by_cases hn : i < 0
    · clear e hr
      go_enter Tryd.func20, Tryd.ntmps20
      go_wp2
      go_ret
      exact ⟨rfl, rfl⟩
    · have hi0 : 0 ≤ i := by omega
      have hi1 : (bs.length : Int) ≤ i := by omega
      clear e hr hn
      go_enter Tryd.func20, Tryd.ntmps20
      go_wp2
      go_ret
      exact ⟨rfl, rfl⟩
theorem grown_setCell' (w : World) (W j : Nat) (v : Value) : w.grownBy (w.setCell ⟨W, j, none⟩ v) (some W) :=
  ⟨rfl, rfl, rfl, by simp [World.setCell], fun k _ hne => heap_setCell_other _ _ _ _ (show k ≠ W from fun e => hne (by rw [e]))⟩
theorem rset_any (g R : Nat) (bs : List Bool) (i : Int) (b : Bool) (w : World) (h : RefAt w g R bs) :
    Calls Tryd.prog 44 #[.pointer (some ⟨g, 0, none⟩), .int .i64 i, .bool b] w fun e w' => e = .returned (.bool (decide (0 ≤ i ∧ i < bs.length))) ∧ RefAt w' g R (if 0 ≤ i ∧ i < bs.length then bs.set i.toNat b else bs) ∧ w.grownBy w' (some R) := by
  have h0 := h.c0
  by_cases hr : 0 ≤ i ∧ i < bs.length
  · rw [decide_eq_true hr, if_pos hr]
    obtain ⟨k, rfl⟩ : ∃ k : Nat, i = (k : Int) := ⟨i.toNat, by omega⟩
    rw [Int.toNat_natCast]
    have hk : k < bs.length := by omega
    have hki : (k : Int) < (bs.length : Int) := by omega
    have hb := h.bit k hk
    have hf := h.free k hk
    have HP := Lib.hid (h.put k hk b)
    clear hr
    go_enter Tryd.func44, Tryd.ntmps44
    go_wp2
    go_ret
    exact ⟨rfl, HP.out, grown_setCell' _ _ _ _⟩
  · rw [decide_eq_false hr, if_neg hr]
    have HH := Lib.hid h
    by_cases hn : i < 0
    · clear hr h
      go_enter Tryd.func44, Tryd.ntmps44
      go_wp2
      go_ret
      exact ⟨rfl, HH.out, World.grownBy.refl w _⟩
    · have hi0 : 0 ≤ i := by omega
      have hi1 : (bs.length : Int) ≤ i := by omega
      clear hr hn h
      go_enter Tryd.func44, Tryd.ntmps44
      go_wp2
      go_ret
      exact ⟨rfl, HH.out, World.grownBy.refl w _⟩
end Go.Proofs.YtopgikjmeebgbaaDoor
