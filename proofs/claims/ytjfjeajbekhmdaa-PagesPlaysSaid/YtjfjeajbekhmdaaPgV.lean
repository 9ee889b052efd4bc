/- The document's Crash, of a device that has what ours has. -/
import Derived.Test.YtjfjeajbekhmdaaPgU
namespace Go.Proofs.Ytjfjeajbekhmdaa
open Go.RowKit Go.Maps
set_option linter.unusedVariables false
set_option linter.unusedSimpArgs false
theorem rcrash_any (g a b c x y z : Nat) (d : Dsk) (A : Option Addr) (cc : Nat) (keep : List Int) (torn cut : Int) (w : World) (h : RfAt w g a b c x y z d) (hk : d.Ok) (hr : Lies w A (keep.map (Value.int .i64))) (hAk : ∀ p, A = some p → keep ≠ [] → p.block ∉ [g, a, b, c]) (hm : keep.length ≤ 9223372036854775807) :
    Calls Try.prog 27 #[.pointer (some ⟨g, 0, none⟩), .slice A keep.length cc, .int .i64 torn, .int .i64 cut] w fun e w' => e = .returned (.tuple #[]) ∧ RfAt w' g a b c x y z (d.crashed keep torn cut) ∧ Only w w' [g, a, b, c] := by
  have hC : ((cutOf cut : Nat) : Int) = min (max cut 0) 128 := by unfold cutOf; omega
  obtain ⟨M, hM1, hM2⟩ : ∃ M : Int, (if cut < 0 then (0 : Int) else cut) = M ∧ (if 128 < M then 128 else M) = ((cutOf cut : Nat) : Int) := ⟨_, rfl, by rw [hC]; split <;> split <;> omega⟩
  unfold RfAt at h ⊢
  rw [crashed_nows, crashed_hads, crashed_iss, show (d.crashed keep torn cut).leftI = -1 from rfl, show (d.crashed keep torn cut).dead = false from rfl, show (d.crashed keep torn cut).kept.length = d.kept.length by simp [Dsk.crashed]]
  rw [← upto_end d.kept.length (fun i => pad (d.now i)) (fun i => pad (d.after keep torn (cutOf cut) i)), ← upto_end d.kept.length (fun i => (d.loose i).isSome) (fun _ => false)]
  have e : upto d.kept.length (fun i => pad (d.now i)) (fun i => pad (d.after keep torn (cutOf cut) i)) d.kept.length = upto d.kept.length (fun i => pad (d.kept.getD i [])) (fun i => pad (d.after keep torn (cutOf cut) i)) d.kept.length := by rw [upto_end, upto_end]
  refine (rcrash_core g a b c x y z d.kept.length (cutOf cut) (fun i => pad (d.now i)) (fun i => pad (d.kept.getD i [])) (fun i => pad (d.after keep torn (cutOf cut) i)) (fun i => (d.loose i).isSome) d.leftI d.dead A cc keep torn cut M w ?_ hk.most hM1 hM2 (cutOf_le cut) (fun j => pad_length (hk.now j)) (fun j => pad_length (hk.keptAt j)) (fun j => after_page hk keep torn (cutOf_le cut) j) hr hAk hm).mono ?_
  · rw [upto_zero, upto_zero, upto_zero]; exact h
  · rintro e' w' ⟨h1, h2, h3⟩
    refine ⟨h1, ?_, h3⟩
    rw [← e] at h2
    exact h2
end Go.Proofs.Ytjfjeajbekhmdaa
