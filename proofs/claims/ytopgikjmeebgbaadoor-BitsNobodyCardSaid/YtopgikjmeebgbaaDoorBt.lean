/- The walk of the law of a set that no call made. -/
import Derived.Test.YtopgikjmeebgbaaDoorBs
namespace Go.Proofs.YtopgikjmeebgbaaDoor
open Go.RowKit
set_option linter.unusedVariables false
set_option linter.unusedSimpArgs false
set_option maxHeartbeats 3200000 in
theorem bitsNobody_walk (i : Int) (w : World) (_hi : (Lit.int .i64 i).wf = true) (hT : Tab w) :
    Calls Tryd.prog 7 #[.int .i64 i] w fun e w' => e = .returned (.bool true) ∧ Below w.heap.size w w' := by
  have HT := Lib.hid hT
  clear hT _hi
  go_enter Tryd.func7, Tryd.ntmps7
  go_wp2_with fail
  generalize hWe : (w.alloc (.cells #[.int .i64 0, .slice none 0 0, .bool false] 41)).alloc (.cells #[.pointer none, .pointer (some ⟨w.heap.size, 0, none⟩)] 22) = W
  have hc0 : W.cell? ⟨w.heap.size + 1, 0, none⟩ = some (.pointer none) := by subst hWe; go_cell
  have hc1 : W.cell? ⟨w.heap.size + 1, 1, none⟩ = some (.pointer (some ⟨w.heap.size, 0, none⟩)) := by subst hWe; go_cell
  have hg0 : W.cell? ⟨w.heap.size, 0, none⟩ = some (.int .i64 0) := by subst hWe; go_cell
  have hg1 : W.cell? ⟨w.heap.size, 1, none⟩ = some (.slice none 0 0) := by subst hWe; go_cell
  have hg2 : W.cell? ⟨w.heap.size, 2, none⟩ = some (.bool false) := by subst hWe; go_cell
  have hbW : Below w.heap.size w W := by subst hWe; exact ((Below.refl _ _).alloc (Nat.le_refl _) _).alloc (by simp) _
  clear hWe
  have HC0 := Lib.hid (fun w' (hb : Below W.heap.size W w') => (hb.cell (p := ⟨w.heap.size + 1, 0, none⟩) (World.block_lt_of_cell? W _ hc0)).trans hc0)
  have HC1 := Lib.hid (fun w' (hb : Below W.heap.size W w') => (hb.cell (p := ⟨w.heap.size + 1, 1, none⟩) (World.block_lt_of_cell? W _ hc1)).trans hc1)
  have HN0 := Lib.hid (show NobS W none from .inl rfl)
  have HN1 := Lib.hid (show NobS W (some ⟨w.heap.size, 0, none⟩) from .inr ⟨_, rfl, hg0, hg1, hg2⟩)
  clear hc0 hc1 hg0 hg1 hg2
  go_loopg [4, 9] 2 (fun r p k wr => Below W.heap.size W wr ∧ ∃ j : Nat, j + r = 2 ∧ k = .int .i64 j)
  case atStart => exact ⟨Below.refl _ _, 0, by omega, rfl⟩
  case round =>
    obtain ⟨hbr, j, hj, rfl⟩ := hrel
    obtain rfl | rfl | rfl : j = 0 ∨ j = 1 ∨ j = 2 := by omega
    · have hcc := HC0.out wr hbr
      have hN := HN0.out
      have HSz := Lib.hid (fun (w' : World) (hb : Below W.heap.size W w') => size_nob none w' (hN.below hb))
      have HCn := Lib.hid (fun (w' : World) (hb : Below W.heap.size W w') => count_nob none w' (hN.below hb))
      have HRk := Lib.hid (fun (w' : World) (hb : Below W.heap.size W w') => rank_nob none i w' (hN.below hb))
      have HLi := Lib.hid (fun (w' : World) (hb : Below W.heap.size W w') => list_nob none w' (hN.below hb))
      have HHa := Lib.hid (fun (w' : World) (hb : Below W.heap.size W w') => has_nob none i w' (hN.below hb))
      have HPu := Lib.hid (fun (w' : World) (hb : Below W.heap.size W w') => put_nob none i w' (hN.below hb))
      have HCu := Lib.hid (fun (w' : World) (hb : Below W.heap.size W w') => cut_nob none i w' (hN.below hb))
      have HNx := Lib.hid (fun (w' : World) (hb : Below W.heap.size W w') => next_nob none i w' (hN.below hb))
      have HCl := Lib.hid (fun (w' : World) (hb : Below W.heap.size W w') => clone_nob none w' (hN.below hb))
      have HAn := Lib.hid (fun (w' : World) (hb : Below W.heap.size W w') (q : Option Addr) (n : Nat) (hq : Calls Tryd.prog 11 #[.pointer q] w' fun e w'' => e = .returned (.int .i64 n) ∧ w' = w'') => and_nob none q n w' (hN.below hb) hq)
      have HBy := Lib.hid (fun (w' : World) (hb : Below W.heap.size W w') => bytes_nob none w' (hN.below hb))
      clear hN
      go_wp2_with (first
        | (go_at_call 11; refine (HSz.out _ hbr).mono ?_; rintro e w' ⟨rfl, rfl⟩; clear HSz)
        | (go_at_call 12; refine (HCn.out _ hbr).mono ?_; rintro e w' ⟨rfl, rfl⟩)
        | (go_at_call 17; refine (HRk.out _ hbr).mono ?_; rintro e w' ⟨rfl, rfl⟩)
        | (go_at_call 29; refine (HLi.out _ hbr).mono ?_; rintro e w' ⟨rfl, rfl⟩)
        | (go_at_call 18; refine (HHa.out _ hbr).mono ?_; rintro e w' ⟨rfl, rfl⟩)
        | (go_at_call 14; refine (HPu.out _ hbr).mono ?_; rintro e w' ⟨rfl, rfl⟩)
        | (go_at_call 28; refine (HCu.out _ hbr).mono ?_; rintro e w' ⟨rfl, rfl⟩)
        | (go_at_call 13; refine (HNx.out _ hbr).mono ?_; rintro e w' ⟨rfl, rfl⟩)
        | (go_at_call 27; refine (HCl.out _ hbr).mono ?_; rintro e w3 ⟨gc, Wc, rfl, hSc, hl3⟩; have hb3 := hbr.trans (hl3.mono hbr.size); have hs1 := Lib.hid (size_any gc Wc [] w3 hSc))
        | (go_at_call 11; refine hs1.out.mono ?_; rintro e w' ⟨rfl, rfl⟩; clear hs1)
        | (go_at_call 10; refine (new_any 5 _).mono ?_; rintro e w4 ⟨g5, W5, rfl, hS5, hW5, hl4⟩; have hb4 := hb3.trans (hl4.mono hb3.size); have hA := Lib.hid (HAn.out w4 hb4 _ _ (size_any g5 W5 _ w4 hS5)))
        | (go_at_call 23; refine hA.out.mono ?_; rintro e w5 ⟨ga, Wa, rfl, hSa, hl5⟩; have hb5 := hb4.trans (hl5.mono hb4.size); have hs2 := Lib.hid (size_any ga Wa [] w5 hSa))
        | (go_at_call 11; refine hs2.out.mono ?_; rintro e w' ⟨rfl, rfl⟩; clear hs2)
        | (go_at_call 31; refine (HBy.out _ hb5).mono ?_; rintro e w6 ⟨v, rfl, ho, hl6⟩; have hb6 := hb5.trans (hl6.mono hb5.size); obtain ⟨A1, c1, rfl, hl1, hA1⟩ := ho.form; have HE := Lib.hid (equal_any A1 (some ⟨w6.heap.size, 0, none⟩) c1 2 [0, 0] [0, 0] (w6.alloc (.cells #[.int .u8 0, .int .u8 0] 5)) ((RB.of_own ho).below ((Below.refl _ _).alloc (Nat.le_refl _) _)) (RB.new w6 5 [0, 0] (0, 0))))
        | (go_at_call 30; refine HE.out.mono ?_; rintro e w' ⟨rfl, rfl⟩))
      go_roundg (2 - (0 + 1))
      case measure => omega
      case rel => exact ⟨hb6.alloc hb6.size _, 0 + 1, by omega, rfl⟩
    · have hcc := HC1.out wr hbr
      have hN := HN1.out
      have HSz := Lib.hid (fun (w' : World) (hb : Below W.heap.size W w') => size_nob (some ⟨w.heap.size, 0, none⟩) w' (hN.below hb))
      have HCn := Lib.hid (fun (w' : World) (hb : Below W.heap.size W w') => count_nob (some ⟨w.heap.size, 0, none⟩) w' (hN.below hb))
      have HRk := Lib.hid (fun (w' : World) (hb : Below W.heap.size W w') => rank_nob (some ⟨w.heap.size, 0, none⟩) i w' (hN.below hb))
      have HLi := Lib.hid (fun (w' : World) (hb : Below W.heap.size W w') => list_nob (some ⟨w.heap.size, 0, none⟩) w' (hN.below hb))
      have HHa := Lib.hid (fun (w' : World) (hb : Below W.heap.size W w') => has_nob (some ⟨w.heap.size, 0, none⟩) i w' (hN.below hb))
      have HPu := Lib.hid (fun (w' : World) (hb : Below W.heap.size W w') => put_nob (some ⟨w.heap.size, 0, none⟩) i w' (hN.below hb))
      have HCu := Lib.hid (fun (w' : World) (hb : Below W.heap.size W w') => cut_nob (some ⟨w.heap.size, 0, none⟩) i w' (hN.below hb))
      have HNx := Lib.hid (fun (w' : World) (hb : Below W.heap.size W w') => next_nob (some ⟨w.heap.size, 0, none⟩) i w' (hN.below hb))
      have HCl := Lib.hid (fun (w' : World) (hb : Below W.heap.size W w') => clone_nob (some ⟨w.heap.size, 0, none⟩) w' (hN.below hb))
      have HAn := Lib.hid (fun (w' : World) (hb : Below W.heap.size W w') (q : Option Addr) (n : Nat) (hq : Calls Tryd.prog 11 #[.pointer q] w' fun e w'' => e = .returned (.int .i64 n) ∧ w' = w'') => and_nob (some ⟨w.heap.size, 0, none⟩) q n w' (hN.below hb) hq)
      have HBy := Lib.hid (fun (w' : World) (hb : Below W.heap.size W w') => bytes_nob (some ⟨w.heap.size, 0, none⟩) w' (hN.below hb))
      clear hN
      go_wp2_with (first
        | (go_at_call 11; refine (HSz.out _ hbr).mono ?_; rintro e w' ⟨rfl, rfl⟩; clear HSz)
        | (go_at_call 12; refine (HCn.out _ hbr).mono ?_; rintro e w' ⟨rfl, rfl⟩)
        | (go_at_call 17; refine (HRk.out _ hbr).mono ?_; rintro e w' ⟨rfl, rfl⟩)
        | (go_at_call 29; refine (HLi.out _ hbr).mono ?_; rintro e w' ⟨rfl, rfl⟩)
        | (go_at_call 18; refine (HHa.out _ hbr).mono ?_; rintro e w' ⟨rfl, rfl⟩)
        | (go_at_call 14; refine (HPu.out _ hbr).mono ?_; rintro e w' ⟨rfl, rfl⟩)
        | (go_at_call 28; refine (HCu.out _ hbr).mono ?_; rintro e w' ⟨rfl, rfl⟩)
        | (go_at_call 13; refine (HNx.out _ hbr).mono ?_; rintro e w' ⟨rfl, rfl⟩)
        | (go_at_call 27; refine (HCl.out _ hbr).mono ?_; rintro e w3 ⟨gc, Wc, rfl, hSc, hl3⟩; have hb3 := hbr.trans (hl3.mono hbr.size); have hs1 := Lib.hid (size_any gc Wc [] w3 hSc))
        | (go_at_call 11; refine hs1.out.mono ?_; rintro e w' ⟨rfl, rfl⟩; clear hs1)
        | (go_at_call 10; refine (new_any 5 _).mono ?_; rintro e w4 ⟨g5, W5, rfl, hS5, hW5, hl4⟩; have hb4 := hb3.trans (hl4.mono hb3.size); have hA := Lib.hid (HAn.out w4 hb4 _ _ (size_any g5 W5 _ w4 hS5)))
        | (go_at_call 23; refine hA.out.mono ?_; rintro e w5 ⟨ga, Wa, rfl, hSa, hl5⟩; have hb5 := hb4.trans (hl5.mono hb4.size); have hs2 := Lib.hid (size_any ga Wa [] w5 hSa))
        | (go_at_call 11; refine hs2.out.mono ?_; rintro e w' ⟨rfl, rfl⟩; clear hs2)
        | (go_at_call 31; refine (HBy.out _ hb5).mono ?_; rintro e w6 ⟨v, rfl, ho, hl6⟩; have hb6 := hb5.trans (hl6.mono hb5.size); obtain ⟨A1, c1, rfl, hl1, hA1⟩ := ho.form; have HE := Lib.hid (equal_any A1 (some ⟨w6.heap.size, 0, none⟩) c1 2 [0, 0] [0, 0] (w6.alloc (.cells #[.int .u8 0, .int .u8 0] 5)) ((RB.of_own ho).below ((Below.refl _ _).alloc (Nat.le_refl _) _)) (RB.new w6 5 [0, 0] (0, 0))))
        | (go_at_call 30; refine HE.out.mono ?_; rintro e w' ⟨rfl, rfl⟩))
      go_roundg (2 - (1 + 1))
      case measure => omega
      case rel => exact ⟨hb6.alloc hb6.size _, 1 + 1, by omega, rfl⟩
    · have hA := Lib.hid (awake_any wr ((HT.out.below hbW).below hbr))
      go_wp2_with (go_at_call 15; refine hA.out.mono ?_; rintro e w' ⟨rfl, hb⟩)
      go_ret
      exact ⟨rfl, (hbW.trans (hbr.mono hbW.size)).trans (hb.mono (hbW.trans (hbr.mono hbW.size)).size)⟩
end Go.Proofs.YtopgikjmeebgbaaDoor
