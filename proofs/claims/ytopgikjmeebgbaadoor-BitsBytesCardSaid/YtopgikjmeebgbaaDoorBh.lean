/- The example; the law of sizes. -/
import Derived.Test.YtopgikjmeebgbaaDoorBg
namespace Go.Proofs.YtopgikjmeebgbaaDoor
open Go.RowKit
set_option linter.unusedVariables false
set_option linter.unusedSimpArgs false
theorem Tab.grown {w w' : World} {W : Nat} (h : Tab w) (hg : w.grownBy w' (some W)) (hW : 0 < W) : Tab w' :=
  h.block (hg.block 0 h.pos (by intro e; injection e; omega))
def aw0 : List Bool := List.replicate 70 false
def aw1 : List Bool := aw0.set 3 true
def aw2 : List Bool := aw1.set 68 true
set_option maxHeartbeats 800000 in
theorem awake_any (w : World) (hT : Tab w) :
    Calls Tryd.prog 15 #[] w fun e w' => e = .returned (.bool true) ∧ Below w.heap.size w w' := by
  have H0 : Hid (∀ w, Calls Tryd.prog 10 #[.int .i64 70] w fun e w' => ∃ g W, e = .returned (.pointer (some ⟨g, 0, none⟩)) ∧ SetAt w' g W aw0 ∧ w.heap.size ≤ W ∧ Below w.heap.size w w') := fun w => new_any 70 w
  have H1 : Hid (∀ g W w, SetAt w g W aw0 → Calls Tryd.prog 14 #[.pointer (some ⟨g, 0, none⟩), .int .i64 3] w fun e w' => e = .returned (.bool true) ∧ SetAt w' g W aw1 ∧ w.grownBy w' (some W)) := fun g W w h => put_in g W 3 aw0 w h (by decide)
  have H2 : Hid (∀ g W w, SetAt w g W aw1 → Calls Tryd.prog 14 #[.pointer (some ⟨g, 0, none⟩), .int .i64 68] w fun e w' => e = .returned (.bool true) ∧ SetAt w' g W aw2 ∧ w.grownBy w' (some W)) := fun g W w h => put_in g W 68 aw1 w h (by decide)
  have H3 : Hid (∀ g W w, SetAt w g W aw2 → Calls Tryd.prog 14 #[.pointer (some ⟨g, 0, none⟩), .int .i64 70] w fun e w' => e = .returned (.bool false) ∧ w = w') := fun g W w h => put_out g W aw2 70 w h (by decide)
  have c4 : ((aw2.take (68 : Int).toNat).count true : Nat) = 1 := by decide
  have c5 : nxt aw2 (4 : Int).toNat = 68 := by decide
  have c6 : nxt aw2 (69 : Int).toNat = -1 := by decide
  have H4 : Hid (∀ g W w, SetAt w g W aw2 → Calls Tryd.prog 17 #[.pointer (some ⟨g, 0, none⟩), .int .i64 68] w fun e w' => e = .returned (.int .i64 1) ∧ Below w.heap.size w w') := fun g W w h => by
    have := rank_any g W aw2 68 w h
    rw [c4] at this
    exact this
  have H5 : Hid (∀ g W w, SetAt w g W aw2 → Tab w → Calls Tryd.prog 13 #[.pointer (some ⟨g, 0, none⟩), .int .i64 4] w fun e w' => e = .returned (.int .i64 68) ∧ w = w') := fun g W w h hT => by
    have := next_any g W aw2 4 w h hT
    rw [c5] at this
    exact this
  have H6 : Hid (∀ g W w, SetAt w g W aw2 → Tab w → Calls Tryd.prog 13 #[.pointer (some ⟨g, 0, none⟩), .int .i64 69] w fun e w' => e = .returned (.int .i64 (-1)) ∧ w = w') := fun g W w h hT => by
    have := next_any g W aw2 69 w h hT
    rw [c6] at this
    exact this
  clear c4 c5 c6
  generalize aw0 = b0 at H0 H1
  generalize aw1 = b1 at H1 H2
  generalize aw2 = b2 at H2 H3 H4 H5 H6
  have hpos := hT.pos
  go_enter Tryd.func15, Tryd.ntmps15
  go_wp2_with (first
    | (go_at_call 10; refine (H0.out _).mono ?_; rintro e w1 ⟨g, W, rfl, hS1, hW, hb1⟩)
    | (go_at_call 14; refine (H1.out _ _ _ hS1).mono ?_; rintro e w2 ⟨rfl, hS2, hg2⟩; clear H1)
    | (go_at_call 14; refine (H2.out _ _ _ hS2).mono ?_; rintro e w3 ⟨rfl, hS3, hg3⟩; clear H2)
    | (go_at_call 14; refine (H3.out _ _ _ hS3).mono ?_; rintro e w' ⟨rfl, rfl⟩)
    | (go_at_call 17; refine (H4.out _ _ _ hS3).mono ?_; rintro e w4 ⟨rfl, hb4⟩; have hS4 := hS3.below hb4; have hT4 := (((hT.below hb1).grown hg2 (by omega)).grown hg3 (by omega)).below hb4)
    | (go_at_call 13; refine (H5.out _ _ _ hS4 hT4).mono ?_; rintro e w' ⟨rfl, rfl⟩; clear H5)
    | (go_at_call 13; refine (H6.out _ _ _ hS4 hT4).mono ?_; rintro e w' ⟨rfl, rfl⟩))
  go_ret
  have hb3 := (hb1.grown hg2 hb1.size (by intro k hk; injection hk with hk; omega))
  have hb4' := hb3.grown hg3 hb3.size (by intro k hk; injection hk with hk; omega)
  exact ⟨rfl, hb4'.trans (hb4.mono hb4'.size)⟩
theorem put_any (g W : Nat) (bs : List Bool) (i : Int) (w : World) (h : SetAt w g W bs) :
    Calls Tryd.prog 14 #[.pointer (some ⟨g, 0, none⟩), .int .i64 i] w fun e w' => e = .returned (.bool (decide (0 ≤ i ∧ i < bs.length))) ∧ SetAt w' g W (if 0 ≤ i ∧ i < bs.length then bs.set i.toNat true else bs) ∧ w.grownBy w' (some W) := by
  by_cases hi : 0 ≤ i ∧ i < bs.length
  · obtain ⟨k, rfl⟩ : ∃ k : Nat, i = (k : Int) := ⟨i.toNat, by omega⟩
    rw [decide_eq_true hi, if_pos hi, Int.toNat_natCast]
    exact put_in g W k bs w h (by omega)
  · rw [decide_eq_false hi, if_neg hi]
    exact (put_out g W bs i w h hi).mono fun e w' ⟨h1, h2⟩ => ⟨h1, by rw [← h2]; exact h, by rw [← h2]; exact World.grownBy.refl w _⟩
theorem cut_any (g W : Nat) (bs : List Bool) (i : Int) (w : World) (h : SetAt w g W bs) :
    Calls Tryd.prog 28 #[.pointer (some ⟨g, 0, none⟩), .int .i64 i] w fun e w' => e = .returned (.bool (decide (0 ≤ i ∧ i < bs.length))) ∧ SetAt w' g W (if 0 ≤ i ∧ i < bs.length then bs.set i.toNat false else bs) ∧ w.grownBy w' (some W) := by
  by_cases hi : 0 ≤ i ∧ i < bs.length
  · obtain ⟨k, rfl⟩ : ∃ k : Nat, i = (k : Int) := ⟨i.toNat, by omega⟩
    rw [decide_eq_true hi, if_pos hi, Int.toNat_natCast]
    exact cut_in g W k bs w h (by omega)
  · rw [decide_eq_false hi, if_neg hi]
    exact (cut_out g W bs i w h hi).mono fun e w' ⟨h1, h2⟩ => ⟨h1, by rw [← h2]; exact h, by rw [← h2]; exact World.grownBy.refl w _⟩
theorem nxt_false (m k : Nat) : nxt (List.replicate m false) k = -1 := nxt_none _ _ fun j _ => by rw [List.getElem?_replicate]; split <;> rfl
theorem count_false (m : Nat) : (List.replicate m false).count true = 0 := by rw [List.count_replicate]; rfl
/-- What the law of sizes asks of the set, S being its size. -/
structure Asks (w : World) (g W : Nat) (S : Int) (S1 : Int) (b1 : Bool) : Prop where
  size : ∀ w', Below w.heap.size w w' → Calls Tryd.prog 11 #[.pointer (some ⟨g, 0, none⟩)] w' fun e w'' => e = .returned (.int .i64 S) ∧ w' = w''
  count : ∀ w', Below w.heap.size w w' → Calls Tryd.prog 12 #[.pointer (some ⟨g, 0, none⟩)] w' fun e w'' => e = .returned (.int .i64 0) ∧ Below w.heap.size w w''
  next : ∀ w', Below w.heap.size w w' → Calls Tryd.prog 13 #[.pointer (some ⟨g, 0, none⟩), .int .i64 0] w' fun e w'' => e = .returned (.int .i64 (-1)) ∧ w' = w''
  put : ∀ w', Below w.heap.size w w' → Calls Tryd.prog 14 #[.pointer (some ⟨g, 0, none⟩), .int .i64 S1] w' fun e w2 => e = .returned (.bool b1) ∧ (Tab w2 ∧ w'.grownBy w2 (some W)) ∧ Calls Tryd.prog 14 #[.pointer (some ⟨g, 0, none⟩), .int .i64 S] w2 fun e w3 => e = .returned (.bool false) ∧ w2 = w3
theorem asks_of (w : World) (g W : Nat) (bs : List Bool) (S : Int) (h : SetAt w g W bs) (hT : Tab w) (hc : bs.count true = 0) (hn : nxt bs 0 = -1) (hS : (bs.length : Int) = S) (hW : 0 < W) (b1 : Bool) (hb : b1 = decide (0 < S)) : Asks w g W S (S - 1) b1 := by
  refine ⟨fun w' hbw => ?_, fun w' hbw => ?_, fun w' hbw => ?_, fun w' hbw => ?_⟩
  · have := size_any g W bs w' (h.below hbw)
    rw [hS] at this
    exact this
  · have := count_any g W bs w' (h.below hbw)
    rw [hc] at this
    exact this.mono fun e w'' ⟨h1, h2⟩ => ⟨h1, hbw.trans (h2.mono hbw.size)⟩
  · have := next_any g W bs 0 w' (h.below hbw) (hT.below hbw)
    rw [show (0 : Int).toNat = 0 from rfl, hn] at this
    exact this
  · refine (put_any g W bs (S - 1) w' (h.below hbw)).mono ?_
    rintro e w2 ⟨rfl, hS2, hg2⟩
    refine ⟨?_, ⟨(hT.below hbw).grown hg2 hW, hg2⟩, put_out g W _ S w2 hS2 ?_⟩
    · rw [hb]; congr 2; exact decide_eq_decide.2 (by omega)
    · split
      · rw [List.length_set]; omega
      · omega
set_option maxHeartbeats 1600000 in
theorem bitsSizes_walk (n : Int) (w : World) (hw : (Lit.int .i64 n).wf = true) (hT : Tab w) :
    Calls Tryd.prog 3 #[.int .i64 n] w fun e w' => e = .returned (.bool true) ∧ Below w.heap.size w w' := by
  have HN := Lib.hid (fun w => new_any n w)
  have HT := Lib.hid hT
  have hpos := hT.pos
  have HA : Hid (∀ (w1 : World) (g W : Nat) (S : Int) (b1 : Bool), Below w.heap.size w w1 → SetAt w1 g W (List.replicate (clip n) false) → w.heap.size ≤ W → (clip n : Int) = S → b1 = decide (0 < S) → Asks w1 g W S (S - 1) b1) := by
    show ∀ w1, _
    intro w1 g W S b1 hb hS hW hc hb1
    exact asks_of w1 g W _ S hS (HT.out.below hb) (count_false _) (nxt_false _ _) (by rw [List.length_replicate]; exact hc) (by omega) b1 hb1
  have HC : Hid ((clip n : Int) = min (max n 0) 65536) := by show _ = _; unfold clip; omega
  clear hT hw
  by_cases h0 : n < 0
  · go_enter Tryd.func3, Tryd.ntmps3
    go_wp2_with (first
      | (go_at_call 10; refine (HN.out _).mono ?_; rintro e w1 ⟨g, W, rfl, hS1, hW, hb1⟩; have hA := HA.out w1 g W 0 false hb1 hS1 hW (by have := HC.out; omega) (by decide); clear hS1)
      | (go_at_call 11; refine (hA.size _ (Below.refl _ _)).mono ?_; rintro e w' ⟨rfl, rfl⟩)
      | (go_at_call 12; refine (hA.count _ (Below.refl _ _)).mono ?_; rintro e w3 ⟨rfl, hb3⟩)
      | (go_at_call 13; refine (hA.next _ hb3).mono ?_; rintro e w' ⟨rfl, rfl⟩)
      | (go_at_call 14; refine (hA.put _ hb3).mono ?_; rintro e w5 ⟨rfl, ⟨hT5, hg5⟩, hP⟩; have hP := Lib.hid hP; have hb03 := hb1.trans (hb3.mono hb1.size); have hb05 := hb03.grown hg5 hb03.size (by intro k hk; injection hk with hk; omega); clear hA)
      | (go_at_call 14; refine hP.out.mono ?_; rintro e w' ⟨rfl, rfl⟩)
      | (go_at_call 15; refine (awake_any _ hT5).mono ?_; rintro e w6 ⟨rfl, hb6⟩))
    go_ret
    exact ⟨rfl, hb05.trans (hb6.mono hb05.size)⟩
  · by_cases h1 : 65536 < n
    · go_enter Tryd.func3, Tryd.ntmps3
      go_wp2_with (first
      | (go_at_call 10; refine (HN.out _).mono ?_; rintro e w1 ⟨g, W, rfl, hS1, hW, hb1⟩; have hA := HA.out w1 g W 65536 true hb1 hS1 hW (by have := HC.out; omega) (by decide); clear hS1)
      | (go_at_call 11; refine (hA.size _ (Below.refl _ _)).mono ?_; rintro e w' ⟨rfl, rfl⟩)
      | (go_at_call 12; refine (hA.count _ (Below.refl _ _)).mono ?_; rintro e w3 ⟨rfl, hb3⟩)
      | (go_at_call 13; refine (hA.next _ hb3).mono ?_; rintro e w' ⟨rfl, rfl⟩)
      | (go_at_call 14; refine (hA.put _ hb3).mono ?_; rintro e w5 ⟨rfl, ⟨hT5, hg5⟩, hP⟩; have hP := Lib.hid hP; have hb03 := hb1.trans (hb3.mono hb1.size); have hb05 := hb03.grown hg5 hb03.size (by intro k hk; injection hk with hk; omega); clear hA)
      | (go_at_call 14; refine hP.out.mono ?_; rintro e w' ⟨rfl, rfl⟩)
      | (go_at_call 15; refine (awake_any _ hT5).mono ?_; rintro e w6 ⟨rfl, hb6⟩))
      go_ret
      exact ⟨rfl, hb05.trans (hb6.mono hb05.size)⟩
    · by_cases h2 : n = 0
      · subst h2
        clear h0 h1
        go_enter Tryd.func3, Tryd.ntmps3
        go_wp2_with (first
      | (go_at_call 10; refine (HN.out _).mono ?_; rintro e w1 ⟨g, W, rfl, hS1, hW, hb1⟩; have hA := HA.out w1 g W 0 false hb1 hS1 hW (by have := HC.out; omega) (by decide); clear hS1)
      | (go_at_call 11; refine (hA.size _ (Below.refl _ _)).mono ?_; rintro e w' ⟨rfl, rfl⟩)
      | (go_at_call 12; refine (hA.count _ (Below.refl _ _)).mono ?_; rintro e w3 ⟨rfl, hb3⟩)
      | (go_at_call 13; refine (hA.next _ hb3).mono ?_; rintro e w' ⟨rfl, rfl⟩)
      | (go_at_call 14; refine (hA.put _ hb3).mono ?_; rintro e w5 ⟨rfl, ⟨hT5, hg5⟩, hP⟩; have hP := Lib.hid hP; have hb03 := hb1.trans (hb3.mono hb1.size); have hb05 := hb03.grown hg5 hb03.size (by intro k hk; injection hk with hk; omega); clear hA)
      | (go_at_call 14; refine hP.out.mono ?_; rintro e w' ⟨rfl, rfl⟩)
      | (go_at_call 15; refine (awake_any _ hT5).mono ?_; rintro e w6 ⟨rfl, hb6⟩))
        go_ret
        exact ⟨rfl, hb05.trans (hb6.mono hb05.size)⟩
      · have h3 : 0 < n := by omega
        have h4 : n ≤ 65536 := by omega
        clear h0 h1 h2
        go_enter Tryd.func3, Tryd.ntmps3
        go_wp2_with (first
      | (go_at_call 10; refine (HN.out _).mono ?_; rintro e w1 ⟨g, W, rfl, hS1, hW, hb1⟩; have hA := HA.out w1 g W n true hb1 hS1 hW (by have := HC.out; omega) (by rw [decide_eq_true h3]); clear hS1)
      | (go_at_call 11; refine (hA.size _ (Below.refl _ _)).mono ?_; rintro e w' ⟨rfl, rfl⟩)
      | (go_at_call 12; refine (hA.count _ (Below.refl _ _)).mono ?_; rintro e w3 ⟨rfl, hb3⟩)
      | (go_at_call 13; refine (hA.next _ hb3).mono ?_; rintro e w' ⟨rfl, rfl⟩)
      | (go_at_call 14; refine (hA.put _ hb3).mono ?_; rintro e w5 ⟨rfl, ⟨hT5, hg5⟩, hP⟩; have hP := Lib.hid hP; have hb03 := hb1.trans (hb3.mono hb1.size); have hb05 := hb03.grown hg5 hb03.size (by intro k hk; injection hk with hk; omega); clear hA)
      | (go_at_call 14; refine hP.out.mono ?_; rintro e w' ⟨rfl, rfl⟩)
      | (go_at_call 15; refine (awake_any _ hT5).mono ?_; rintro e w6 ⟨rfl, hb6⟩))
        go_ret
        exact ⟨rfl, hb05.trans (hb6.mono hb05.size)⟩
end Go.Proofs.YtopgikjmeebgbaaDoor
