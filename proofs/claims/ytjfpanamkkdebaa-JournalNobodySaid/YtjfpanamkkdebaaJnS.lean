/- The example, plain. -/
import Derived.Test.YtjfpanamkkdebaaJnR
namespace Go.Proofs.Ytjfpanamkkdebaa
open Go.RowKit
set_option linter.unusedVariables false
set_option linter.unusedSimpArgs false
def awR : Laid := formatP (fresh 20) [115]
def awL0 : Lg := ⟨0, awR.ep, 0, awR.pg, [], awR.d, [115], [], 0⟩
def awL1 : Lg := (appendP awL0 [97]).2.2
def awL2 : Lg := (syncP awL1).2
def awL3 : Lg := (appendP awL2 [98]).2.2
def awD : Dsk := awL3.d.crashed [] (-1) 0
set_option maxRecDepth 100000 in
theorem aw1 : awR.e = 0 ∧ (syncP awL1).1 = 0 := by decide +kernel
set_option maxRecDepth 100000 in
theorem aw2 : (openP awD).e = 0 ∧ awD.hasP = [[115], [97]] := by decide +kernel
set_option maxRecDepth 100000 in
theorem aw3 : awL0.Fit ∧ awL1.Fit ∧ awL2.Fit := by
  refine ⟨⟨?_, ?_, ?_, ?_, ?_, ?_⟩, ⟨?_, ?_, ?_, ?_, ?_, ?_⟩, ⟨?_, ?_, ?_, ?_, ?_, ?_⟩⟩ <;> decide +kernel
/-- The log that a making makes, and the one that an opening does. -/
def formatLg (d : Dsk) (s : List UInt8) : Lg := ⟨0, (formatP d s).ep, 0, (formatP d s).pg, [], (formatP d s).d, s, [], 0⟩
def openLg (d : Dsk) : Lg := ⟨1 - (d.foundS 2).hf, (openP d).ep, 1 - (d.foundS 2).sl, (openP d).pg, [], (openP d).d, d.hasP.headD [], d.hasP.tail, d.hasP.tail.length⟩
theorem format_log (g k m c : Nat) (d : Dsk) (As : Option Addr) (cs : Nat) (snap : List UInt8) (w : World) (hd : DkAt w g k m c d) (hs : RB w As snap) (hAs : As = none → cs = 0) (hsc : snap.length ≤ cs) (hm : snap.length ≤ 9223372036854775807) :
    Calls Try.prog 27 #[.pointer (some ⟨g, 0, none⟩), .slice As snap.length cs] w fun e w' => ∃ pv, e = .returned (.tuple #[pv, .int .i64 (formatP d snap).e]) ∧ DkAt w' g k m c (formatP d snap).d ∧ Only w w' [g, k, m] ∧
      (((formatP d snap).e ≠ 0 ∧ pv = .pointer none) ∨ ((formatP d snap).e = 0 ∧ ∃ x, pv = .pointer (some ⟨x, 0, none⟩) ∧ w.heap.size ≤ x ∧ JLog w' x g k m c none (formatLg d snap))) := by
  refine (format_any g k m c d As cs snap w hd hs hAs hsc hm).mono ?_
  rintro e w' ⟨R, hR, hd', ho, h⟩
  subst hR
  rcases h with ⟨hne, rfl⟩ | ⟨h0, x, vs, rfl, hx, hlg, hob⟩
  · exact ⟨_, rfl, hd', ho, .inl ⟨hne, rfl⟩⟩
  · exact ⟨_, by rw [h0]; rfl, hd', ho, .inr ⟨h0, x, rfl, hx, vs, _, [], hlg, OB.mono hob (Nat.zero_le _), ⟨RowFrom.nil _ _, by simp⟩, rfl, rfl⟩⟩
theorem open_log (g k m c : Nat) (d : Dsk) (w : World) (hd : DkAt w g k m c d) :
    Calls Try.prog 12 #[.pointer (some ⟨g, 0, none⟩)] w fun e w' => ∃ pv, e = .returned (.tuple #[pv, .int .i64 (openP d).e]) ∧ DkAt w' g k m c (openP d).d ∧ Only w w' [g, k, m] ∧
      (((openP d).e ≠ 0 ∧ pv = .pointer none) ∨ ((openP d).e = 0 ∧ ∃ x q, pv = .pointer (some ⟨x, 0, none⟩) ∧ w.heap.size ≤ x ∧ JLog w' x g k m c q (openLg d) ∧ d.hasP ≠ [] ∧ ∀ j, q = some j → w.heap.size ≤ j)) := by
  refine (open_any g k m c d w hd).mono ?_
  rintro e w' ⟨R, hR, hd', ho, h⟩
  subst hR
  rcases h with ⟨hne, rfl⟩ | ⟨h0, x, vs, rv, s, rs, rfl, hx, hh, hlg, hob, hrs, hq⟩
  · exact ⟨_, rfl, hd', ho, .inl ⟨hne, rfl⟩⟩
  · refine ⟨_, by rw [h0]; rfl, hd', ho, .inr ⟨h0, x, rv.ownBlock, rfl, hx, ?_, by rw [hh]; simp, hq⟩⟩
    have hl : rs.length = d.hasP.tail.length := by rw [hh]; simp
    refine ⟨vs, rv, rs, ?_, ?_, hrs, ?_, rfl⟩
    · unfold openLg
      dsimp only
      rw [← hl]
      exact hlg
    · unfold openLg
      dsimp only
      rw [hh]
      exact OB.mono hob (Nat.zero_le _)
    · unfold openLg
      dsimp only
      rw [hh]
      rfl
end Go.Proofs.Ytjfpanamkkdebaa
