/- An act, a fuse, reading and writing a page: the walks. -/
import Derived.Test.YtjfpanamkkdebaaPgC
import Derived.Deep.RegionLaw
namespace Go.Proofs.Ytjfpanamkkdebaa
open Go.RowKit
set_option linter.unusedVariables false
set_option maxRecDepth 100000
set_option linter.unusedSimpArgs false
/-- A device with another power. -/
theorem DkAt.power {w : World} {g k m c : Nat} {d : Dsk} (h : DkAt w g k m c d) (bo de : Bool) (lf : Nat) (hl : lf < 9223372036854775808) (w' : World)
    (hb : w'.heap[g]? = some (.cells #[.bool bo, .int .i64 lf, .bool de, .slice (some ⟨k, 0, none⟩) d.kept.length c, .map (some m)] 81 (0, 0))) (ho : Only w w' [g]) :
    DkAt w' g k m c { d with bound := bo, left := lf, dead := de } := by
  obtain ⟨l1, l2, l3⟩ := h.lt
  have n1 : k ∉ [g] := fun e => h.gk (List.mem_singleton.1 e).symm
  have n2 : m ∉ [g] := fun e => h.gm (List.mem_singleton.1 e).symm
  exact ⟨hb, own_block h.row (ho.block k l2 n1), h.map.block (ho.block m l3 n2), ⟨h.ok.pos, h.ok.most, h.ok.kept, h.ok.loose, hl⟩, h.gk, h.gm, h.km⟩
set_option maxHeartbeats 800000 in
theorem act_any (g k m c : Nat) (d : Dsk) (w : World) (h : DkAt w g k m c d) :
    Calls Try.prog 33 #[.pointer (some ⟨g, 0, none⟩)] w fun e w' => e = .returned (.int .i64 d.actE) ∧ DkAt w' g k m c d.acted ∧ Only w w' [g] := by
  obtain ⟨bo, lf, de, K, L⟩ := d
  have k0 := h.c0
  have k1 := h.c1
  have k2 := h.c2
  have f1 := h.f 1
  have f2 := h.f 2
  have hl := h.ok.left
  have HD := Lib.hid h
  have HB := Lib.hid h.blk
  clear h
  simp only at k0 k1 k2 hl
  cases bo with
  | true =>
    by_cases h0 : lf = 0
    · have hq : ((lf : Int) == 0) = true := by rw [beq_iff_eq]; omega
      go_enter Try.func33, Try.ntmps33
      go_wp2
      go_returns
      have ho := Only.of_grown (Lib.grownBy_setCell w g 2 (.bool true))
      refine ⟨by simp [Dsk.actE, Dsk.stops, h0], ?_, ho⟩
      have := HD.out.power true true lf hl _ (by rw [heap_setCell_same w g 2 _ _ _ HB.out]; rfl) ho
      simpa [Dsk.acted, Dsk.stops, h0] using this
    · have hq : ((lf : Int) == 0) = false := by rw [beq_eq_false_iff_ne]; omega
      have hqn : (lf == 0) = false := by rw [beq_eq_false_iff_ne]; exact h0
      cases de with
      | true =>
        go_enter Try.func33, Try.ntmps33
        go_wp2
        go_returns
        exact ⟨by simp [Dsk.actE, Dsk.stops], by simpa [Dsk.acted, Dsk.stops] using HD.out, Only.refl _ _⟩
      | false =>
        have hs : (lf : Int) - 1 = ((lf - 1 : Nat) : Int) := by omega
        go_enter Try.func33, Try.ntmps33
        go_wp2
        go_returns
        have ho := Only.of_grown (Lib.grownBy_setCell w g 1 (.int .i64 ((lf - 1 : Nat) : Int)))
        refine ⟨by simp [Dsk.actE, Dsk.stops, hqn], ?_, ho⟩
        have := HD.out.power true false (lf - 1) (by omega) _ (by rw [heap_setCell_same w g 1 _ _ _ HB.out]; rfl) ho
        simpa [Dsk.acted, Dsk.stops, hqn] using this
  | false =>
    cases de with
    | true =>
      go_enter Try.func33, Try.ntmps33
      go_wp2
      go_returns
      exact ⟨by simp [Dsk.actE, Dsk.stops], by simpa [Dsk.acted, Dsk.stops] using HD.out, Only.refl _ _⟩
    | false =>
      go_enter Try.func33, Try.ntmps33
      go_wp2
      go_returns
      exact ⟨by simp [Dsk.actE, Dsk.stops], by simpa [Dsk.acted, Dsk.stops] using HD.out, Only.refl _ _⟩
set_option maxHeartbeats 800000 in
theorem fuse_any (g k m c : Nat) (d : Dsk) (n : Int) (w : World) (h : DkAt w g k m c d) (hn : n ≤ 9223372036854775807) (hn0 : -9223372036854775808 ≤ n) :
    Calls Try.prog 28 #[.pointer (some ⟨g, 0, none⟩), .int .i64 n] w fun e w' => e = .returned (.int .i64 d.fuseE) ∧ DkAt w' g k m c (d.fused n) ∧ Only w w' [g] := by
  have HS := Lib.hid (size_any g k m c d w h)
  have h0 := h.ok.pos
  have hq0 : ((d.kept.length : Int) == 0) = false := by rw [beq_eq_false_iff_ne]; omega
  obtain ⟨bo, lf, de, K, L⟩ := d
  have k0 := h.c0
  have k1 := h.c1
  have k2 := h.c2
  have f0 := h.f 0
  have f1 := h.f 1
  have f2 := h.f 2
  have HD := Lib.hid h
  have HB := Lib.hid h.blk
  clear h
  simp only at k0 k1 k2 h0 hq0
  cases de with
  | true =>
    go_enter Try.func28, Try.ntmps28
    go_wp2_with (go_at_call 11; refine HS.out.mono ?_; rintro e w' ⟨rfl, rfl⟩)
    go_returns
    exact ⟨rfl, HD.out, Only.refl _ _⟩
  | false =>
    have h3 : ∀ (b : Bool) (x : Int), ((((w.setCell ⟨g, 0, none⟩ (.bool b)).setCell ⟨g, 1, none⟩ (.int .i64 x)).setCell ⟨g, 2, none⟩ (.bool false)).heap[g]? = some (.cells #[.bool b, .int .i64 x, .bool false, .slice (some ⟨k, 0, none⟩) K.length c, .map (some m)] 81 (0, 0))) ∧ Only w (((w.setCell ⟨g, 0, none⟩ (.bool b)).setCell ⟨g, 1, none⟩ (.int .i64 x)).setCell ⟨g, 2, none⟩ (.bool false)) [g] := by
      intro b x
      refine ⟨?_, ((Only.of_grown (Lib.grownBy_setCell w g 0 _)).trans (Only.of_grown (Lib.grownBy_setCell _ g 1 _))).trans (Only.of_grown (Lib.grownBy_setCell _ g 2 _))⟩
      rw [heap_setCell_same _ g 2 _ _ _ (heap_setCell_same _ g 1 _ _ _ (heap_setCell_same w g 0 _ _ _ HB.out))]
      rfl
    have H3 := Lib.hid h3
    clear h3
    by_cases hp : 0 ≤ n
    · obtain ⟨q, rfl⟩ : ∃ q : Nat, n = (q : Int) := ⟨n.toNat, by omega⟩
      go_enter Try.func28, Try.ntmps28
      go_wp2_with (go_at_call 11; refine HS.out.mono ?_; rintro e w' ⟨rfl, rfl⟩)
      all_goals go_returns
      all_goals
        have ho := (H3.out true (q : Int)).2
        refine ⟨rfl, ?_, ho⟩
        have := HD.out.power true false q (by omega) _ (H3.out true (q : Int)).1 ho
        simpa [Dsk.fused, hp] using this
    · have hmx : max n 0 = 0 := by omega
      have hge : decide (n ≥ 0) = false := decide_eq_false hp
      have hge2 : decide (0 ≤ n) = false := decide_eq_false hp
      have hnt : n.toNat = 0 := by omega
      go_enter Try.func28, Try.ntmps28
      go_wp2_with (go_at_call 11; refine HS.out.mono ?_; rintro e w' ⟨rfl, rfl⟩)
      all_goals go_returns
      all_goals
        have ho := (H3.out false 0).2
        refine ⟨rfl, ?_, ho⟩
        have := HD.out.power false false 0 (by omega) _ (H3.out false 0).1 ho
        have e : decide (0 ≤ n) = false := decide_eq_false (by omega)
        simpa [Dsk.fused, e, hnt] using this
end Go.Proofs.Ytjfpanamkkdebaa
