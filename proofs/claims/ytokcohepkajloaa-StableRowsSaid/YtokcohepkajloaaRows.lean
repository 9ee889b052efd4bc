/-
  No cell of these rows narrows 'for every input' (looked for: loops, veiled, ifaces, maps, wideKeys, modest, calm, conditions, laid).
  DERIVED. THE GIVEN ROWS OF THIS SEAT. 4 by the template 'for every input the law returns true; each argument reads behind the call as it read before'; 0 by the template 'total and deterministic' (their statements: YtokcohepkajloaaTotals.lean).
  GIVEN WITH THE SEED: the statements are not yours to turn. If you find one false, say at which input.
  Laid BY PROGRAM, IN A SANDBOX (cutbox-rows.mjs): the forced cells as the released guide's own fill.sh prints them over the translation 570c645d8a3fe0ca… (all of the seat's roots in one cut). By AI agents, Wed Nov 11 2026. No macro, syntax, notation, axiom, sorry.
-/
import Derived.Test.YtokcohepkajloaaChecked
import GoSem.Claim
import GoSem.ClaimJoined
import GoSem.ClaimMapViews
import Derived.JoinedTies
import Derived.KernelRfl
namespace Go.Proofs.Ytokcohepkajloaa
/- THE CELL 'sum', in the pinned program and in every row, IS THE sha256 OF THE DUMP (.gsa) THAT YtokcohepkajloaaProg.lean LOADS. Nothing in Lean hashes anything: it is a label: what it is worth is what the hold of that sum in a sandbox is worth. -/
noncomputable def Try.pinned : Pinned := { name := "ytokcohepkajloaa", sum := "570c645d8a3fe0ca4e2952ab2826c8c05a7328579a89194d10bf4cf2c8d0234c", checked := Try.checked }
namespace Rows
def none {H : Type} : Left H := { results := [], args := [] }

/-- 'scholialaw09.StableSlow': WHATEVER THE INPUT: true; the input reads as it did. -/
def stableSlowSpec : ChangeSpec := { name := "stableSlow", fn := fun _ => fun
  | [d1, d2] => { results := [.lit (.bool true)], args := [d1, d2] }
  | _ => none }
def stableSlowRow : OpenClaim := { program := "ytokcohepkajloaa", sum := "570c645d8a3fe0ca4e2952ab2826c8c05a7328579a89194d10bf4cf2c8d0234c", func := "scholia/scholialaw09.StableSlow", spec := "stableSlow", unfollowed := true, recurses := true, apart := false }
def StableSlowSaid : Prop := stableSlowRow.holds Try.pinned (OpenSpec.ofChange stableSlowSpec)

/-- ITS FALSE NEIGHBOUR: 'it returns false'. Refute it at one input. -/
def stableSlowWrong : ChangeSpec := { name := "stableSlow", fn := fun _ => fun
  | [d1, d2] => { results := [.lit (.bool false)], args := [d1, d2] }
  | _ => none }
def StableSlowWrongFalsely : Prop := stableSlowRow.holds Try.pinned (OpenSpec.ofChange stableSlowWrong)

/-- 'scholialaw09.StableNobody': WHATEVER THE INPUT: true; the input reads as it did. -/
def stableNobodySpec : ChangeSpec := { name := "stableNobody", fn := fun _ => fun
  | [d1, d2] => { results := [.lit (.bool true)], args := [d1, d2] }
  | _ => none }
def stableNobodyRow : OpenClaim := { program := "ytokcohepkajloaa", sum := "570c645d8a3fe0ca4e2952ab2826c8c05a7328579a89194d10bf4cf2c8d0234c", func := "scholia/scholialaw09.StableNobody", spec := "stableNobody", unfollowed := true, recurses := true, apart := false }
def StableNobodySaid : Prop := stableNobodyRow.holds Try.pinned (OpenSpec.ofChange stableNobodySpec)

/-- ITS FALSE NEIGHBOUR: 'it returns false'. Refute it at one input. -/
def stableNobodyWrong : ChangeSpec := { name := "stableNobody", fn := fun _ => fun
  | [d1, d2] => { results := [.lit (.bool false)], args := [d1, d2] }
  | _ => none }
def StableNobodyWrongFalsely : Prop := stableNobodyRow.holds Try.pinned (OpenSpec.ofChange stableNobodyWrong)

/-- 'scholialaw09.StableRows': WHATEVER THE INPUT: true; the input reads as it did. -/
def stableRowsSpec : ChangeSpec := { name := "stableRows", fn := fun _ => fun
  | [d1, d2, d3, d4] => { results := [.lit (.bool true)], args := [d1, d2, d3, d4] }
  | _ => none }
def stableRowsRow : OpenClaim := { program := "ytokcohepkajloaa", sum := "570c645d8a3fe0ca4e2952ab2826c8c05a7328579a89194d10bf4cf2c8d0234c", func := "scholia/scholialaw09.StableRows", spec := "stableRows", unfollowed := true, recurses := true, apart := false }
def StableRowsSaid : Prop := stableRowsRow.holds Try.pinned (OpenSpec.ofChange stableRowsSpec)

/-- ITS FALSE NEIGHBOUR: 'it returns false'. Refute it at one input. -/
def stableRowsWrong : ChangeSpec := { name := "stableRows", fn := fun _ => fun
  | [d1, d2, d3, d4] => { results := [.lit (.bool false)], args := [d1, d2, d3, d4] }
  | _ => none }
def StableRowsWrongFalsely : Prop := stableRowsRow.holds Try.pinned (OpenSpec.ofChange stableRowsWrong)

/-- 'scholialaw09.StableTimes': WHATEVER THE INPUT: true; the input reads as it did. -/
def stableTimesSpec : ChangeSpec := { name := "stableTimes", fn := fun _ => fun
  | [d1, d2, d3, d4] => { results := [.lit (.bool true)], args := [d1, d2, d3, d4] }
  | _ => none }
def stableTimesRow : OpenClaim := { program := "ytokcohepkajloaa", sum := "570c645d8a3fe0ca4e2952ab2826c8c05a7328579a89194d10bf4cf2c8d0234c", func := "scholia/scholialaw09.StableTimes", spec := "stableTimes", unfollowed := true, recurses := true, apart := false }
def StableTimesSaid : Prop := stableTimesRow.holds Try.pinned (OpenSpec.ofChange stableTimesSpec)

/-- ITS FALSE NEIGHBOUR: 'it returns false'. Refute it at one input. -/
def stableTimesWrong : ChangeSpec := { name := "stableTimes", fn := fun _ => fun
  | [d1, d2, d3, d4] => { results := [.lit (.bool false)], args := [d1, d2, d3, d4] }
  | _ => none }
def StableTimesWrongFalsely : Prop := stableTimesRow.holds Try.pinned (OpenSpec.ofChange stableTimesWrong)

/- THE SECOND FORM. 'bulk': how many values and letters a reading holds, each counted each time it is reached (what is shared counts as often as it is met; a slice's spare places count too). A statement '..UptoSaid' is the law's where the arguments, and the package variables that the reading takes, are together of bulk at most 1048576: NARROWER than '..Said'. Prove '..Said' where nothing that the law and all that it calls make is longer than what came in: it says more and counts as full. Else prove '..UptoSaid'. A law counts once. -/
mutual
def uptoBulk {H : Type} : DataW H → Nat
  | .lit (.string bytes) => bytes.length + 1
  | .lit _ => 1
  | .nil => 1
  | .ptr d => uptoBulk d + 1
  | .slice elems spare => uptoBulkAll elems + uptoBulkAll spare + 1
  | .agg parts => uptoBulkAll parts + 1
  | .iface _ d => uptoBulk d + 1
  | .map entries => uptoBulkEntries entries + 1
  | .held _ => 1
def uptoBulkAll {H : Type} : List (DataW H) → Nat
  | [] => 0
  | d :: r => uptoBulk d + uptoBulkAll r
def uptoBulkEntries {H : Type} : List (Lit × DataW H) → Nat
  | [] => 0
  | x :: r => uptoBulkEntry x + uptoBulkEntries r
def uptoBulkEntry {H : Type} : Lit × DataW H → Nat
  | (.string bytes, d) => bytes.length + uptoBulk d + 1
  | (_, d) => uptoBulk d + 1
 end
def uptoSmall : (H : Type) → List (DataW H) → Bool := fun _ ds => decide (uptoBulkAll ds ≤ 1048576)
def OpenSpec.upto (s : _root_.Go.ChangeSpec) : _root_.Go.OpenSpec := { _root_.Go.OpenSpec.ofChange s with cond := some uptoSmall }

/-- 'scholialaw09.StableSlow', WHERE WHAT IT READS IS OF BULK AT MOST 1048576: true; the input reads as it did. -/
def stableSlowUptoRow : OpenClaim := { program := "ytokcohepkajloaa", sum := "570c645d8a3fe0ca4e2952ab2826c8c05a7328579a89194d10bf4cf2c8d0234c", func := "scholia/scholialaw09.StableSlow", spec := "stableSlow", unfollowed := true, recurses := true, apart := false, narrowed := true }
def StableSlowUptoSaid : Prop := stableSlowUptoRow.holds Try.pinned (OpenSpec.upto stableSlowSpec)

/-- 'scholialaw09.StableNobody', WHERE WHAT IT READS IS OF BULK AT MOST 1048576: true; the input reads as it did. -/
def stableNobodyUptoRow : OpenClaim := { program := "ytokcohepkajloaa", sum := "570c645d8a3fe0ca4e2952ab2826c8c05a7328579a89194d10bf4cf2c8d0234c", func := "scholia/scholialaw09.StableNobody", spec := "stableNobody", unfollowed := true, recurses := true, apart := false, narrowed := true }
def StableNobodyUptoSaid : Prop := stableNobodyUptoRow.holds Try.pinned (OpenSpec.upto stableNobodySpec)

/-- 'scholialaw09.StableRows', WHERE WHAT IT READS IS OF BULK AT MOST 1048576: true; the input reads as it did. -/
def stableRowsUptoRow : OpenClaim := { program := "ytokcohepkajloaa", sum := "570c645d8a3fe0ca4e2952ab2826c8c05a7328579a89194d10bf4cf2c8d0234c", func := "scholia/scholialaw09.StableRows", spec := "stableRows", unfollowed := true, recurses := true, apart := false, narrowed := true }
def StableRowsUptoSaid : Prop := stableRowsUptoRow.holds Try.pinned (OpenSpec.upto stableRowsSpec)

/-- 'scholialaw09.StableTimes', WHERE WHAT IT READS IS OF BULK AT MOST 1048576: true; the input reads as it did. -/
def stableTimesUptoRow : OpenClaim := { program := "ytokcohepkajloaa", sum := "570c645d8a3fe0ca4e2952ab2826c8c05a7328579a89194d10bf4cf2c8d0234c", func := "scholia/scholialaw09.StableTimes", spec := "stableTimes", unfollowed := true, recurses := true, apart := false, narrowed := true }
def StableTimesUptoSaid : Prop := stableTimesUptoRow.holds Try.pinned (OpenSpec.upto stableTimesSpec)

end Rows
end Go.Proofs.Ytokcohepkajloaa
