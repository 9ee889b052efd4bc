/-
  No cell of these rows narrows 'for every input' (looked for: loops, veiled, ifaces, maps, wideKeys, modest, calm, conditions, laid).
  DERIVED. THE GIVEN ROWS OF THIS SEAT. 4 by the template 'for every input the law returns true; each argument reads behind the call as it read before'; 0 by the template 'total and deterministic' (their statements: YtjfjeajbekhmdaaTotals.lean).
  GIVEN WITH THE SEED: the statements are not yours to turn. If you find one false, say at which input.
  Laid BY PROGRAM, IN A SANDBOX (cutbox-rows.mjs): the forced cells as the released guide's own fill.sh prints them over the translation 292e3b94059328fe… (all of the seat's roots in one cut). By AI agents, Wed Nov 11 2026. No macro, syntax, notation, axiom, sorry.
-/
import Derived.Test.YtjfjeajbekhmdaaChecked
import GoSem.Claim
import GoSem.ClaimJoined
import GoSem.ClaimMapViews
import Derived.JoinedTies
import Derived.KernelRfl
namespace Go.Proofs.Ytjfjeajbekhmdaa
/- THE CELL 'sum', in the pinned program and in every row, IS THE sha256 OF THE DUMP (.gsa) THAT YtjfjeajbekhmdaaProg.lean LOADS. Nothing in Lean hashes anything: it is a label: what it is worth is what the hold of that sum in a sandbox is worth. -/
noncomputable def Try.pinned : Pinned := { name := "ytjfjeajbekhmdaa", sum := "292e3b94059328fede6e908353712e80cfd2164cec4c87ada6d8797a0f19c698", checked := Try.checked }
namespace Rows
def none {H : Type} : Left H := { results := [], args := [] }

/-- 'scholialaw10.PagesLasts': WHATEVER THE INPUT: true; the input reads as it did. -/
def pagesLastsSpec : ChangeSpec := { name := "pagesLasts", fn := fun _ => fun
  | [d1, d2] => { results := [.lit (.bool true)], args := [d1, d2] }
  | _ => none }
def pagesLastsRow : OpenClaim := { program := "ytjfjeajbekhmdaa", sum := "292e3b94059328fede6e908353712e80cfd2164cec4c87ada6d8797a0f19c698", func := "scholia/scholialaw10.PagesLasts", spec := "pagesLasts", apart := false }
def PagesLastsSaid : Prop := pagesLastsRow.holds Try.pinned (OpenSpec.ofChange pagesLastsSpec)

/-- ITS FALSE NEIGHBOUR: 'it returns false'. Refute it at one input. -/
def pagesLastsWrong : ChangeSpec := { name := "pagesLasts", fn := fun _ => fun
  | [d1, d2] => { results := [.lit (.bool false)], args := [d1, d2] }
  | _ => none }
def PagesLastsWrongFalsely : Prop := pagesLastsRow.holds Try.pinned (OpenSpec.ofChange pagesLastsWrong)

/-- 'scholialaw10.PagesFuse': WHATEVER THE INPUT: true; the input reads as it did. -/
def pagesFuseSpec : ChangeSpec := { name := "pagesFuse", fn := fun _ => fun
  | [d1, d2] => { results := [.lit (.bool true)], args := [d1, d2] }
  | _ => none }
def pagesFuseRow : OpenClaim := { program := "ytjfjeajbekhmdaa", sum := "292e3b94059328fede6e908353712e80cfd2164cec4c87ada6d8797a0f19c698", func := "scholia/scholialaw10.PagesFuse", spec := "pagesFuse", apart := false }
def PagesFuseSaid : Prop := pagesFuseRow.holds Try.pinned (OpenSpec.ofChange pagesFuseSpec)

/-- ITS FALSE NEIGHBOUR: 'it returns false'. Refute it at one input. -/
def pagesFuseWrong : ChangeSpec := { name := "pagesFuse", fn := fun _ => fun
  | [d1, d2] => { results := [.lit (.bool false)], args := [d1, d2] }
  | _ => none }
def PagesFuseWrongFalsely : Prop := pagesFuseRow.holds Try.pinned (OpenSpec.ofChange pagesFuseWrong)

/-- 'scholialaw10.PagesNobody': WHATEVER THE INPUT: true; the input reads as it did. -/
def pagesNobodySpec : ChangeSpec := { name := "pagesNobody", fn := fun _ => fun
  | [d1, d2, d3, d4] => { results := [.lit (.bool true)], args := [d1, d2, d3, d4] }
  | _ => none }
def pagesNobodyRow : OpenClaim := { program := "ytjfjeajbekhmdaa", sum := "292e3b94059328fede6e908353712e80cfd2164cec4c87ada6d8797a0f19c698", func := "scholia/scholialaw10.PagesNobody", spec := "pagesNobody", apart := false }
def PagesNobodySaid : Prop := pagesNobodyRow.holds Try.pinned (OpenSpec.ofChange pagesNobodySpec)

/-- ITS FALSE NEIGHBOUR: 'it returns false'. Refute it at one input. -/
def pagesNobodyWrong : ChangeSpec := { name := "pagesNobody", fn := fun _ => fun
  | [d1, d2, d3, d4] => { results := [.lit (.bool false)], args := [d1, d2, d3, d4] }
  | _ => none }
def PagesNobodyWrongFalsely : Prop := pagesNobodyRow.holds Try.pinned (OpenSpec.ofChange pagesNobodyWrong)

/-- 'scholialaw10.PagesPlays': WHATEVER THE INPUT: true; the input reads as it did. -/
def pagesPlaysSpec : ChangeSpec := { name := "pagesPlays", fn := fun _ => fun
  | [d1, d2, d3] => { results := [.lit (.bool true)], args := [d1, d2, d3] }
  | _ => none }
def pagesPlaysRow : OpenClaim := { program := "ytjfjeajbekhmdaa", sum := "292e3b94059328fede6e908353712e80cfd2164cec4c87ada6d8797a0f19c698", func := "scholia/scholialaw10.PagesPlays", spec := "pagesPlays", apart := false }
def PagesPlaysSaid : Prop := pagesPlaysRow.holds Try.pinned (OpenSpec.ofChange pagesPlaysSpec)

/-- ITS FALSE NEIGHBOUR: 'it returns false'. Refute it at one input. -/
def pagesPlaysWrong : ChangeSpec := { name := "pagesPlays", fn := fun _ => fun
  | [d1, d2, d3] => { results := [.lit (.bool false)], args := [d1, d2, d3] }
  | _ => none }
def PagesPlaysWrongFalsely : Prop := pagesPlaysRow.holds Try.pinned (OpenSpec.ofChange pagesPlaysWrong)

/- THE SECOND FORM. 'bulk': how many values and letters a reading holds, each counted each time it is reached (what is shared counts as often as it is met; a slice's spare places count too). A statement '..UptoSaid' is the law's where the arguments, and the package variables that the reading takes, are together of bulk at most 1048576: NARROWER than '..Said'. Prove '..Said' where nothing that the law and all that it calls make is longer than what came in: it says more and counts as full. Else prove '..UptoSaid'. A law counts once. -/
mutual
def uptoBulk {H : Type} : DataW H → Nat
  | .lit (.string bytes) => bytes.length + 1
  | .lit _ => 1
  | .nil => 1
  | .ptr d => uptoBulk d + 1
  | .slice elems spare => uptoBulkAll elems + uptoBulkAll spare + 1
  | .agg parts => uptoBulkAll parts + 1
  | .iface _ d => uptoBulk d + 1
  | .map entries => uptoBulkEntries entries + 1
  | .held _ => 1
def uptoBulkAll {H : Type} : List (DataW H) → Nat
  | [] => 0
  | d :: r => uptoBulk d + uptoBulkAll r
def uptoBulkEntries {H : Type} : List (Lit × DataW H) → Nat
  | [] => 0
  | x :: r => uptoBulkEntry x + uptoBulkEntries r
def uptoBulkEntry {H : Type} : Lit × DataW H → Nat
  | (.string bytes, d) => bytes.length + uptoBulk d + 1
  | (_, d) => uptoBulk d + 1
 end
def uptoSmall : (H : Type) → List (DataW H) → Bool := fun _ ds => decide (uptoBulkAll ds ≤ 1048576)
def OpenSpec.upto (s : _root_.Go.ChangeSpec) : _root_.Go.OpenSpec := { _root_.Go.OpenSpec.ofChange s with cond := some uptoSmall }

/-- 'scholialaw10.PagesLasts', WHERE WHAT IT READS IS OF BULK AT MOST 1048576: true; the input reads as it did. -/
def pagesLastsUptoRow : OpenClaim := { program := "ytjfjeajbekhmdaa", sum := "292e3b94059328fede6e908353712e80cfd2164cec4c87ada6d8797a0f19c698", func := "scholia/scholialaw10.PagesLasts", spec := "pagesLasts", apart := false, narrowed := true }
def PagesLastsUptoSaid : Prop := pagesLastsUptoRow.holds Try.pinned (OpenSpec.upto pagesLastsSpec)

/-- 'scholialaw10.PagesFuse', WHERE WHAT IT READS IS OF BULK AT MOST 1048576: true; the input reads as it did. -/
def pagesFuseUptoRow : OpenClaim := { program := "ytjfjeajbekhmdaa", sum := "292e3b94059328fede6e908353712e80cfd2164cec4c87ada6d8797a0f19c698", func := "scholia/scholialaw10.PagesFuse", spec := "pagesFuse", apart := false, narrowed := true }
def PagesFuseUptoSaid : Prop := pagesFuseUptoRow.holds Try.pinned (OpenSpec.upto pagesFuseSpec)

/-- 'scholialaw10.PagesNobody', WHERE WHAT IT READS IS OF BULK AT MOST 1048576: true; the input reads as it did. -/
def pagesNobodyUptoRow : OpenClaim := { program := "ytjfjeajbekhmdaa", sum := "292e3b94059328fede6e908353712e80cfd2164cec4c87ada6d8797a0f19c698", func := "scholia/scholialaw10.PagesNobody", spec := "pagesNobody", apart := false, narrowed := true }
def PagesNobodyUptoSaid : Prop := pagesNobodyUptoRow.holds Try.pinned (OpenSpec.upto pagesNobodySpec)

/-- 'scholialaw10.PagesPlays', WHERE WHAT IT READS IS OF BULK AT MOST 1048576: true; the input reads as it did. -/
def pagesPlaysUptoRow : OpenClaim := { program := "ytjfjeajbekhmdaa", sum := "292e3b94059328fede6e908353712e80cfd2164cec4c87ada6d8797a0f19c698", func := "scholia/scholialaw10.PagesPlays", spec := "pagesPlays", apart := false, narrowed := true }
def PagesPlaysUptoSaid : Prop := pagesPlaysUptoRow.holds Try.pinned (OpenSpec.upto pagesPlaysSpec)

end Rows
end Go.Proofs.Ytjfjeajbekhmdaa
