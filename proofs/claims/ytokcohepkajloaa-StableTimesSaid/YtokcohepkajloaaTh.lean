/- The walk of the law of times. -/
import Derived.Test.YtokcohepkajloaaTg
import Derived.OwnWalk
namespace Go.Proofs.Ytokcohepkajloaa
open Go.RowKit
set_option linter.unusedVariables false
set_option linter.unusedSimpArgs false
theorem ahead_cmp (a b : Wr) : decide (a.time < b.time ∨ (a.time = b.time ∧ (a.dot.1 < b.dot.1 ∨ (a.dot.1 = b.dot.1 ∧ a.dot.2 < b.dot.2)))) = decide (cmpWr a b < 0) := by
  refine decide_eq_decide.2 ?_
  unfold cmpWr cmpDot orInt cmpInt
  repeat' split
  all_goals omega
theorem ahead_cmp' (a b : Wr) : decide (b.time < a.time ∨ (b.time = a.time ∧ (b.dot.1 < a.dot.1 ∨ (b.dot.1 = a.dot.1 ∧ b.dot.2 < a.dot.2)))) = decide (0 < cmpWr a b) := by
  refine decide_eq_decide.2 ?_
  unfold cmpWr cmpDot orInt cmpInt
  repeat' split
  all_goals omega
def Bx (w : World) (q : Nat) (a : Wr) : Prop := ∀ k v, (wcs a)[k]? = some v → w.cell? ⟨q, k, none⟩ = some v
theorem Bx.below {w w' : World} {q : Nat} {a : Wr} (h : Bx w q a) (hb : Below w.heap.size w w') : Bx w' q a := fun k v hv => by
  rw [hb.cell (World.block_lt_of_cell? w _ (h k v hv))]; exact h k v hv
theorem Bx.laid (w : World) (a : Wr) (t : TypeId) : Bx (w.alloc (.cells (wcs a).toArray t)) w.heap.size a := fun k v hv => by
  have h2 := heap_alloc_new w (.cells (wcs a).toArray t)
  simp only [World.cell?, h2, List.getElem?_toArray]
  exact hv
set_option maxHeartbeats 1600000 in
theorem stableTimes_walk (t : Int) (a b : Wr) (A : Option Addr) (c : Nat) (l : List Wr) (w : World) (ht : (Lit.int .i64 t).wf = true) (hr : Lies w A (l.flatMap wcs)) (hA : A = none → c = 0) (hlc : l.length ≤ c) (hm : l.length ≤ 9223372036854775807) :
    Calls Try.prog 6 #[.int .i64 t, wv a, wv b, .slice A l.length c] w fun e w' => e = .returned (.bool true) ∧ Below w.heap.size w w' := by
  have ht := wf_i64 ht
  have HR0 := Lib.hid hr
  have HC := fun w => wcompare_any a b w
  have HA := fun w => rahead_any a b w
  have HB := fun w => rahead_any b a w
  simp only [ahead_cmp] at HA
  simp only [ahead_cmp'] at HB
  have HL := Lib.hid (fun w hr => latest_any A c l w hr hA hlc hm)
  generalize cmpWr a b = n at HC HA HB
  have hBa : Bx ((w.alloc (.cells (wcs a).toArray 50)).alloc (.cells (wcs b).toArray 50)) w.heap.size a := (Bx.laid w a _).below ((Below.refl _ _).alloc (Nat.le_refl _) _)
  have hBb : Bx ((w.alloc (.cells (wcs a).toArray 50)).alloc (.cells (wcs b).toArray 50)) (w.heap.size + 1) b := by
    have := Bx.laid (w.alloc (.cells (wcs a).toArray 50)) b 50
    simpa using this
  have hHB := Lib.hid (And.intro hBa hBb)
  clear hBa hBb hr
  unfold wv at HC HA HB ⊢
  obtain ⟨⟨a1, a2⟩, at', ad, af, ax⟩ := a
  obtain ⟨⟨b1, b2⟩, bt, bd, bf, bx⟩ := b
  unfold wcs at HC HA HB ⊢
  have HC := Lib.hid HC
  have HA := Lib.hid HA
  have HB := Lib.hid HB
  go_enter Try.func6, Try.ntmps6
  go_wp2_with (first
    | (go_at_call 18; refine (next_any t _ (by omega) (by omega)).mono ?_; rintro e w' ⟨rfl, rfl⟩)
    | (go_at_call 19; refine (rnext_any t _ (by omega) (by omega)).mono ?_; rintro e w' ⟨rfl, rfl⟩)
    | (go_at_call 20; refine (HC.out _).mono ?_; rintro e w3 ⟨rfl, hb3⟩))
  have hb3' : Below w.heap.size w w3 := (((Below.refl _ _).alloc (Nat.le_refl _) _).alloc (by simp) _).trans (hb3.mono (by simp; omega))
  have hBa := hHB.out.1.below hb3
  have hBb := hHB.out.2.below hb3
  clear hHB hb3
  go_loopg [14, 32] l.length (fun r t i wr => ∃ (j : Nat), j + r = l.length ∧ i = .int .i64 j ∧ t = .int .i64 (late (l.take j)) ∧ Below w.heap.size w wr ∧ Bx wr w.heap.size ⟨(a1, a2), at', ad, af, ax⟩ ∧ Bx wr (w.heap.size + 1) ⟨(b1, b2), bt, bd, bf, bx⟩)
  case atStart => exact ⟨0, by omega, rfl, rfl, hb3', hBa, hBb⟩
  case round =>
    obtain ⟨j, hj, rfl, rfl, hbW, hBa, hBb⟩ := hrel
    by_cases hjl : j < l.length
    · obtain ⟨a, rfl, hcell⟩ := write_at (HR0.out.below hbW) j hjl
      have hs := Lib.hid (late_step l j hjl)
      generalize l[j] = x at hcell hs
      generalize late (l.take j) = t at hs ⊢
      obtain ⟨⟨x1, x2⟩, xt, xd, xf, xx⟩ := x
      have hcell := Lib.hid hcell
      unfold wcs at hcell
      go_wp2_with (refine wpList_load_any rfl 50 (.tmp 34) rfl _ rfl _ _ hcell.out rfl rfl info_write ?_)
      all_goals
        go_roundg (l.length - (j + 1))
        case measure => omega
        case rel =>
          refine ⟨j + 1, by omega, by go_num, ?_, hbW.alloc hbW.size _, hBa.below ((Below.refl _ _).alloc (Nat.le_refl _) _), hBb.below ((Below.refl _ _).alloc (Nat.le_refl _) _)⟩
          rw [hs.out]
          congr 1
          omega
    · have e : j = l.length := by omega
      subst e
      rw [List.take_length]
      have c0 := hBa 0 _ rfl
      have c1 := hBa 1 _ rfl
      have c2 := hBa 2 _ rfl
      have c3 := hBa 3 _ rfl
      have c4 := hBa 4 _ rfl
      have c5 := hBa 5 _ rfl
      have d0 := hBb 0 _ rfl
      have d1 := hBb 1 _ rfl
      have d2 := hBb 2 _ rfl
      have d3 := hBb 3 _ rfl
      have d4 := hBb 4 _ rfl
      have d5 := hBb 5 _ rfl
      go_wp2_with (first
        | (go_at_call 21; refine (HA.out _).mono ?_; rintro e w5 ⟨rfl, hb5⟩; clear HA c0 c1 c2 c3 c4 c5 d0 d1 d2 d3 d4 d5; have hBa5 := hBa.below hb5; have hBb5 := hBb.below hb5; have c05 := hBa5 0 _ rfl; have c15 := hBa5 1 _ rfl; have c25 := hBa5 2 _ rfl; have c35 := hBa5 3 _ rfl; have c45 := hBa5 4 _ rfl; have c55 := hBa5 5 _ rfl; have d05 := hBb5 0 _ rfl; have d15 := hBb5 1 _ rfl; have d25 := hBb5 2 _ rfl; have d35 := hBb5 3 _ rfl; have d45 := hBb5 4 _ rfl; have d55 := hBb5 5 _ rfl)
        | (go_at_call 21; refine (HB.out _).mono ?_; rintro e w6 ⟨rfl, hb6⟩; have HL6 := Lib.hid (latest_any A c l w6 (((HR0.out.below hbW).below hb5).below hb6) hA hlc hm))
        | (go_at_call 22; refine HL6.out.mono ?_; rintro e w7 ⟨rfl, hb7⟩)
        | (go_at_call 13; refine (awake_any _).mono ?_; rintro e w8 ⟨rfl, hb8⟩))
      go_ret
      exact ⟨rfl, (((hbW.trans (hb5.mono hbW.size)).trans (hb6.mono (hbW.trans (hb5.mono hbW.size)).size)).trans (hb7.mono ((hbW.trans (hb5.mono hbW.size)).trans (hb6.mono (hbW.trans (hb5.mono hbW.size)).size)).size)).trans (hb8.mono (((hbW.trans (hb5.mono hbW.size)).trans (hb6.mono (hbW.trans (hb5.mono hbW.size)).size)).trans (hb7.mono ((hbW.trans (hb5.mono hbW.size)).trans (hb6.mono (hbW.trans (hb5.mono hbW.size)).size)).size)).size)⟩
end Go.Proofs.Ytokcohepkajloaa
