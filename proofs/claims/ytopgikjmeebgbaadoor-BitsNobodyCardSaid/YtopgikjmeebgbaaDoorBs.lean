/- A set that no call made. -/
import Derived.Test.YtopgikjmeebgbaaDoorBi
import Derived.Test.YtopgikjmeebgbaaDoorCo5
import Derived.Deep.Cut
namespace Go.Proofs.YtopgikjmeebgbaaDoor
open Go.RowKit
set_option linter.unusedVariables false
set_option linter.unusedSimpArgs false
/-- No set: none, or one that no call made. -/
def NobS (w : World) (p : Option Addr) : Prop := p = none ∨ ∃ g, p = some ⟨g, 0, none⟩ ∧ w.cell? ⟨g, 0, none⟩ = some (.int .i64 0) ∧ w.cell? ⟨g, 1, none⟩ = some (.slice none 0 0) ∧ w.cell? ⟨g, 2, none⟩ = some (.bool false)
theorem NobS.below {w w' : World} {p : Option Addr} (h : NobS w p) (hb : Below w.heap.size w w') : NobS w' p := by
  rcases h with rfl | ⟨g, rfl, h0, h1, h2⟩
  · exact .inl rfl
  · have hl := World.block_lt_of_cell? w _ h0
    exact .inr ⟨g, rfl, (hb.cell (p := ⟨g, 0, none⟩) hl).trans h0, (hb.cell (p := ⟨g, 1, none⟩) hl).trans h1, (hb.cell (p := ⟨g, 2, none⟩) hl).trans h2⟩
theorem size_nob (p : Option Addr) (w : World) (h : NobS w p) :
    Calls Tryd.prog 11 #[.pointer p] w fun e w' => e = .returned (.int .i64 0) ∧ w = w' := by
  rcases h with rfl | ⟨g, rfl, h0, h1, h2⟩ <;>
  · go_enter Tryd.func11, Tryd.ntmps11
    go_wp2
    go_ret
    exact ⟨rfl, rfl⟩
theorem in_nob (p : Option Addr) (i : Int) (w : World) (h : NobS w p) :
    Calls Tryd.prog 41 #[.pointer p, .int .i64 i] w fun e w' => e = .returned (.bool false) ∧ w = w' := by
  rcases h with rfl | ⟨g, rfl, h0, h1, h2⟩ <;>
  · go_enter Tryd.func41, Tryd.ntmps41
    go_wp2
    go_ret
    exact ⟨rfl, rfl⟩
theorem rank_nob (p : Option Addr) (i : Int) (w : World) (h : NobS w p) :
    Calls Tryd.prog 17 #[.pointer p, .int .i64 i] w fun e w' => e = .returned (.int .i64 0) ∧ w = w' := by
  rcases h with rfl | ⟨g, rfl, h0, h1, h2⟩ <;>
  · go_enter Tryd.func17, Tryd.ntmps17
    go_wp2
    go_ret
    exact ⟨rfl, rfl⟩
theorem count_nob (p : Option Addr) (w : World) (h : NobS w p) :
    Calls Tryd.prog 12 #[.pointer p] w fun e w' => e = .returned (.int .i64 0) ∧ w = w' := by
  have HS := Lib.hid (size_nob p w h)
  have HR := Lib.hid (rank_nob p 0 w h)
  go_enter Tryd.func12, Tryd.ntmps12
  go_wp2_with (first
    | (go_at_call 11; refine HS.out.mono ?_; rintro e w' ⟨rfl, rfl⟩)
    | (go_at_call 17; refine HR.out.mono ?_; rintro e w' ⟨rfl, rfl⟩))
  go_ret
  exact ⟨rfl, rfl⟩
theorem next_nob (p : Option Addr) (i : Int) (w : World) (h : NobS w p) :
    Calls Tryd.prog 13 #[.pointer p, .int .i64 i] w fun e w' => e = .returned (.int .i64 (-1)) ∧ w = w' := by
  have HI := Lib.hid (fun i => in_nob p i w h)
  by_cases hi : i < 0
  · go_enter Tryd.func13, Tryd.ntmps13
    go_wp2_with (go_at_call 41; refine (HI.out _).mono ?_; rintro e w' ⟨rfl, rfl⟩)
    go_ret
    exact ⟨rfl, rfl⟩
  · have h0 : 0 ≤ i := by omega
    go_enter Tryd.func13, Tryd.ntmps13
    go_wp2_with (go_at_call 41; refine (HI.out _).mono ?_; rintro e w' ⟨rfl, rfl⟩)
    go_ret
    exact ⟨rfl, rfl⟩
theorem list_nob (p : Option Addr) (w : World) (h : NobS w p) :
    Calls Tryd.prog 29 #[.pointer p] w fun e w' => e = .returned (.slice none 0 0) ∧ w = w' := by
  have HN := Lib.hid (next_nob p 0 w h)
  go_enter Tryd.func29, Tryd.ntmps29
  go_wp2_with (go_at_call 13; refine HN.out.mono ?_; rintro e w' ⟨rfl, rfl⟩)
  go_loopg [3, 4] 0 (fun r o i wr => wr = w ∧ o = .slice none 0 0 ∧ i = .int .i64 (-1))
  case atStart => exact ⟨rfl, rfl, rfl⟩
  case round =>
    obtain ⟨rfl, rfl, rfl⟩ := hrel
    go_wp2
    go_ret
    exact ⟨rfl, rfl⟩
theorem has_nob (p : Option Addr) (i : Int) (w : World) (h : NobS w p) :
    Calls Tryd.prog 18 #[.pointer p, .int .i64 i] w fun e w' => e = .returned (.bool false) ∧ w = w' := by
  have HI := Lib.hid (in_nob p i w h)
  go_enter Tryd.func18, Tryd.ntmps18
  go_wp2_with (go_at_call 41; refine HI.out.mono ?_; rintro e w' ⟨rfl, rfl⟩)
  go_ret
  exact ⟨rfl, rfl⟩
theorem put_nob (p : Option Addr) (i : Int) (w : World) (h : NobS w p) :
    Calls Tryd.prog 14 #[.pointer p, .int .i64 i] w fun e w' => e = .returned (.bool false) ∧ w = w' := by
  have HI := Lib.hid (in_nob p i w h)
  go_enter Tryd.func14, Tryd.ntmps14
  go_wp2_with (go_at_call 41; refine HI.out.mono ?_; rintro e w' ⟨rfl, rfl⟩)
  go_ret
  exact ⟨rfl, rfl⟩
theorem cut_nob (p : Option Addr) (i : Int) (w : World) (h : NobS w p) :
    Calls Tryd.prog 28 #[.pointer p, .int .i64 i] w fun e w' => e = .returned (.bool false) ∧ w = w' := by
  have HI := Lib.hid (in_nob p i w h)
  go_enter Tryd.func28, Tryd.ntmps28
  go_wp2_with (go_at_call 41; refine HI.out.mono ?_; rintro e w' ⟨rfl, rfl⟩)
  go_ret
  exact ⟨rfl, rfl⟩
set_option maxHeartbeats 1600000 in
theorem both_nob (p q : Option Addr) (Fi : FuncId) (n : Nat) (w : World) (h : NobS w p) (hq : Calls Tryd.prog 11 #[.pointer q] w fun e w' => e = .returned (.int .i64 n) ∧ w = w') :
    Calls Tryd.prog 47 #[.pointer p, .pointer q, .func (.func Fi) #[] #[]] w fun e w' => ∃ go Wo, e = .returned (.pointer (some ⟨go, 0, none⟩)) ∧ SetAt w' go Wo [] ∧ Below w.heap.size w w' := by
  have HSp := Lib.hid (size_nob p w h)
  have HSq := Lib.hid hq
  have HNw : Hid (∀ w, Calls Tryd.prog 10 #[.int .i64 0] w fun e w' => ∃ g W, e = .returned (.pointer (some ⟨g, 0, none⟩)) ∧ SetAt w' g W [] ∧ w.heap.size ≤ W ∧ Below w.heap.size w w') := fun w => new_any 0 w
  have hn0 : (0 : Int) ≤ (n : Int) := by omega
  clear h hq
  go_enter Tryd.func47, Tryd.ntmps47
  go_upto_region 2 with (first
    | (go_at_call 11; refine HSp.out.mono ?_; rintro e w' ⟨rfl, rfl⟩; clear HSp)
    | (go_at_call 11; refine HSq.out.mono ?_; rintro e w' ⟨rfl, rfl⟩; clear HSq)
    | (go_at_call 10; refine (HNw.out _).mono ?_; rintro e w1 ⟨go, Wo, rfl, hO, hWo, hb1⟩))
  all_goals
    have h0 : w1.cell? ⟨go, 0, none⟩ = some (.int .i64 0) := hO.c0
    have h1 : w1.cell? ⟨go, 1, none⟩ = some (.slice (some ⟨Wo, 0, none⟩) 0 0) := hO.c1
    have HO := Lib.hid hO
    clear hO
    go_wp2_with fail
    go_loopg [21] 0 (fun r i wr => wr = w1 ∧ i = .int .i64 0)
    case atStart => exact ⟨rfl, rfl⟩
    case round =>
      obtain ⟨rfl, rfl⟩ := hrel
      go_wp2
      go_ret
      first | exact ⟨_, _, rfl, HO.out, hb1⟩ | exact ⟨_, rfl, _, HO.out, hb1⟩ | exact ⟨_, rfl, ⟨_, HO.out⟩, hb1⟩
theorem or_nob (p : Option Addr) (w : World) (h : NobS w p) :
    Calls Tryd.prog 25 #[.pointer p, .pointer p] w fun e w' => ∃ go Wo, e = .returned (.pointer (some ⟨go, 0, none⟩)) ∧ SetAt w' go Wo [] ∧ Below w.heap.size w w' := by
  have HB := Lib.hid (both_nob p p 49 0 w h (size_nob p w h))
  go_enter Tryd.func25, Tryd.ntmps25
  go_wp2_with (go_at_call 47; refine HB.out.mono ?_; rintro e w' ⟨go, Wo, rfl, h1, h3⟩)
  go_ret
  first | exact ⟨_, _, rfl, h1, h3⟩ | exact ⟨_, rfl, _, h1, h3⟩ | exact ⟨_, rfl, ⟨_, h1⟩, h3⟩
theorem clone_nob (p : Option Addr) (w : World) (h : NobS w p) :
    Calls Tryd.prog 27 #[.pointer p] w fun e w' => ∃ go Wo, e = .returned (.pointer (some ⟨go, 0, none⟩)) ∧ SetAt w' go Wo [] ∧ Below w.heap.size w w' := by
  have HB := Lib.hid (or_nob p w h)
  go_enter Tryd.func27, Tryd.ntmps27
  go_wp2_with (go_at_call 25; refine HB.out.mono ?_; rintro e w' ⟨go, Wo, rfl, h1, h3⟩)
  go_ret
  first | exact ⟨_, _, rfl, h1, h3⟩ | exact ⟨_, rfl, _, h1, h3⟩ | exact ⟨_, rfl, ⟨_, h1⟩, h3⟩
theorem and_nob (p q : Option Addr) (n : Nat) (w : World) (h : NobS w p) (hq : Calls Tryd.prog 11 #[.pointer q] w fun e w' => e = .returned (.int .i64 n) ∧ w = w') :
    Calls Tryd.prog 23 #[.pointer p, .pointer q] w fun e w' => ∃ go Wo, e = .returned (.pointer (some ⟨go, 0, none⟩)) ∧ SetAt w' go Wo [] ∧ Below w.heap.size w w' := by
  have HB := Lib.hid (both_nob p q 48 n w h hq)
  go_enter Tryd.func23, Tryd.ntmps23
  go_wp2_with (go_at_call 47; refine HB.out.mono ?_; rintro e w' ⟨go, Wo, rfl, h1, h3⟩)
  go_ret
  first | exact ⟨_, _, rfl, h1, h3⟩ | exact ⟨_, rfl, _, h1, h3⟩ | exact ⟨_, rfl, ⟨_, h1⟩, h3⟩
theorem nobBytes : [] ++ numBytes (numNat 0) ++ risingBytes [] = ([0, 0] : List UInt8) := by decide
theorem bytes_nob (p : Option Addr) (w : World) (h : NobS w p) :
    Calls Tryd.prog 31 #[.pointer p] w fun e w' => ∃ v, e = .returned v ∧ OB w' w.heap.size v [0, 0] ∧ Below w.heap.size w w' := by
  have HS := Lib.hid (size_nob p w h)
  have HN := Lib.hid (num_any none 0 [] 0 w (by decide) (by decide) (fun _ => rfl) (Nat.le_refl _) (Lies.nil _ _))
  have HL := Lib.hid (fun w' (hb : Below w.heap.size w w') => list_nob p w' (h.below hb))
  have hd : ([] ++ numBytes (numNat 0)).length ≤ 9 := by decide
  have hnb := nobBytes
  generalize [] ++ numBytes (numNat 0) = bs at HN hd hnb
  go_enter Tryd.func31, Tryd.ntmps31
  go_wp2_with (first
    | (go_at_call 11; refine HS.out.mono ?_; rintro e w' ⟨rfl, rfl⟩)
    | (go_at_call 52; refine HN.out.mono ?_; rintro e w1 ⟨v, rfl, ho, hb1⟩; obtain ⟨A1, c1, rfl, hl1, hA1⟩ := ho.form; have HR := Lib.hid (rising_any A1 none c1 0 bs [] w1 (by simp; omega) hA1 hl1 (Nat.le_refl _) (fun z hz => by cases hz) (RB.of_own ho) (Lies.nil _ _)))
    | (go_at_call 29; refine (HL.out _ hb1).mono ?_; rintro e w' ⟨rfl, rfl⟩)
    | (go_at_call 51; refine HR.out.mono ?_; rintro e w2 ⟨v2, rfl, ho2, hb2⟩))
  go_ret
  rw [hnb] at ho2
  exact ⟨_, rfl, ho2.mono hb1.size, hb1.trans (hb2.mono hb1.size)⟩
end Go.Proofs.YtopgikjmeebgbaaDoor
