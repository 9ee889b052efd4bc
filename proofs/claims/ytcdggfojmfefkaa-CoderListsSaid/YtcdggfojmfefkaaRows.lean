/-
  No cell of these rows narrows 'for every input' (looked for: loops, veiled, ifaces, maps, wideKeys, modest, calm, conditions, laid).
  DERIVED. THE GIVEN ROWS OF THIS SEAT. 6 by the template 'for every input the law returns true; each argument reads behind the call as it read before'; 0 by the template 'total and deterministic' (their statements: YtcdggfojmfefkaaTotals.lean).
  GIVEN WITH THE SEED: the statements are not yours to turn. If you find one false, say at which input.
  Laid BY PROGRAM, IN A SANDBOX (cutbox-rows.mjs): the forced cells as the released guide's own fill.sh prints them over the translation 50c58856ff3c282a… (all of the seat's roots in one cut). By AI agents, Wed Nov 11 2026. No macro, syntax, notation, axiom, sorry.
-/
import Derived.Test.YtcdggfojmfefkaaChecked
import GoSem.Claim
import GoSem.ClaimJoined
import GoSem.ClaimMapViews
import Derived.JoinedTies
import Derived.KernelRfl
namespace Go.Proofs.Ytcdggfojmfefkaa
/- THE CELL 'sum', in the pinned program and in every row, IS THE sha256 OF THE DUMP (.gsa) THAT YtcdggfojmfefkaaProg.lean LOADS. Nothing in Lean hashes anything: it is a label: what it is worth is what the hold of that sum in a sandbox is worth. -/
noncomputable def Try.pinned : Pinned := { name := "ytcdggfojmfefkaa", sum := "50c58856ff3c282a6f9918524165e728aa9648b3849cb0b5360c970a05f584e3", checked := Try.checked }
namespace Rows
def none {H : Type} : Left H := { results := [], args := [] }

/-- 'scholialaw01.CoderTexts': WHATEVER THE INPUT: true; the input reads as it did. -/
def coderTextsSpec : ChangeSpec := { name := "coderTexts", fn := fun _ => fun
  | [d1, d2, d3] => { results := [.lit (.bool true)], args := [d1, d2, d3] }
  | _ => none }
def coderTextsRow : OpenClaim := { program := "ytcdggfojmfefkaa", sum := "50c58856ff3c282a6f9918524165e728aa9648b3849cb0b5360c970a05f584e3", func := "scholia/scholialaw01.CoderTexts", spec := "coderTexts", apart := false }
def CoderTextsSaid : Prop := coderTextsRow.holds Try.pinned (OpenSpec.ofChange coderTextsSpec)

/-- ITS FALSE NEIGHBOUR: 'it returns false'. Refute it at one input. -/
def coderTextsWrong : ChangeSpec := { name := "coderTexts", fn := fun _ => fun
  | [d1, d2, d3] => { results := [.lit (.bool false)], args := [d1, d2, d3] }
  | _ => none }
def CoderTextsWrongFalsely : Prop := coderTextsRow.holds Try.pinned (OpenSpec.ofChange coderTextsWrong)

/-- 'scholialaw01.CoderNums': WHATEVER THE INPUT: true; the input reads as it did. -/
def coderNumsSpec : ChangeSpec := { name := "coderNums", fn := fun _ => fun
  | [d1, d2] => { results := [.lit (.bool true)], args := [d1, d2] }
  | _ => none }
def coderNumsRow : OpenClaim := { program := "ytcdggfojmfefkaa", sum := "50c58856ff3c282a6f9918524165e728aa9648b3849cb0b5360c970a05f584e3", func := "scholia/scholialaw01.CoderNums", spec := "coderNums", apart := false }
def CoderNumsSaid : Prop := coderNumsRow.holds Try.pinned (OpenSpec.ofChange coderNumsSpec)

/-- ITS FALSE NEIGHBOUR: 'it returns false'. Refute it at one input. -/
def coderNumsWrong : ChangeSpec := { name := "coderNums", fn := fun _ => fun
  | [d1, d2] => { results := [.lit (.bool false)], args := [d1, d2] }
  | _ => none }
def CoderNumsWrongFalsely : Prop := coderNumsRow.holds Try.pinned (OpenSpec.ofChange coderNumsWrong)

/-- 'scholialaw01.CoderOrder': WHATEVER THE INPUT: true; the input reads as it did. -/
def coderOrderSpec : ChangeSpec := { name := "coderOrder", fn := fun _ => fun
  | [d1, d2] => { results := [.lit (.bool true)], args := [d1, d2] }
  | _ => none }
def coderOrderRow : OpenClaim := { program := "ytcdggfojmfefkaa", sum := "50c58856ff3c282a6f9918524165e728aa9648b3849cb0b5360c970a05f584e3", func := "scholia/scholialaw01.CoderOrder", spec := "coderOrder", inPlace := ["internal/bytealg.Compare"], apart := false }
def CoderOrderSaid : Prop := coderOrderRow.holds Try.pinned (OpenSpec.ofChange coderOrderSpec)

/-- ITS FALSE NEIGHBOUR: 'it returns false'. Refute it at one input. -/
def coderOrderWrong : ChangeSpec := { name := "coderOrder", fn := fun _ => fun
  | [d1, d2] => { results := [.lit (.bool false)], args := [d1, d2] }
  | _ => none }
def CoderOrderWrongFalsely : Prop := coderOrderRow.holds Try.pinned (OpenSpec.ofChange coderOrderWrong)

/-- 'scholialaw01.CoderBack': WHATEVER THE INPUT: true; the input reads as it did. -/
def coderBackSpec : ChangeSpec := { name := "coderBack", fn := fun _ => fun
  | [d1, d2, d3, d4] => { results := [.lit (.bool true)], args := [d1, d2, d3, d4] }
  | _ => none }
def coderBackRow : OpenClaim := { program := "ytcdggfojmfefkaa", sum := "50c58856ff3c282a6f9918524165e728aa9648b3849cb0b5360c970a05f584e3", func := "scholia/scholialaw01.CoderBack", spec := "coderBack", apart := false }
def CoderBackSaid : Prop := coderBackRow.holds Try.pinned (OpenSpec.ofChange coderBackSpec)

/-- ITS FALSE NEIGHBOUR: 'it returns false'. Refute it at one input. -/
def coderBackWrong : ChangeSpec := { name := "coderBack", fn := fun _ => fun
  | [d1, d2, d3, d4] => { results := [.lit (.bool false)], args := [d1, d2, d3, d4] }
  | _ => none }
def CoderBackWrongFalsely : Prop := coderBackRow.holds Try.pinned (OpenSpec.ofChange coderBackWrong)

/-- 'scholialaw01.CoderLists': WHATEVER THE INPUT: true; the input reads as it did. -/
def coderListsSpec : ChangeSpec := { name := "coderLists", fn := fun _ => fun
  | [d1, d2] => { results := [.lit (.bool true)], args := [d1, d2] }
  | _ => none }
def coderListsRow : OpenClaim := { program := "ytcdggfojmfefkaa", sum := "50c58856ff3c282a6f9918524165e728aa9648b3849cb0b5360c970a05f584e3", func := "scholia/scholialaw01.CoderLists", spec := "coderLists", apart := false }
def CoderListsSaid : Prop := coderListsRow.holds Try.pinned (OpenSpec.ofChange coderListsSpec)

/-- ITS FALSE NEIGHBOUR: 'it returns false'. Refute it at one input. -/
def coderListsWrong : ChangeSpec := { name := "coderLists", fn := fun _ => fun
  | [d1, d2] => { results := [.lit (.bool false)], args := [d1, d2] }
  | _ => none }
def CoderListsWrongFalsely : Prop := coderListsRow.holds Try.pinned (OpenSpec.ofChange coderListsWrong)

/-- 'scholialaw01.CoderNobody': WHATEVER THE INPUT: true; the input reads as it did. -/
def coderNobodySpec : ChangeSpec := { name := "coderNobody", fn := fun _ => fun
  | [d1, d2, d3] => { results := [.lit (.bool true)], args := [d1, d2, d3] }
  | _ => none }
def coderNobodyRow : OpenClaim := { program := "ytcdggfojmfefkaa", sum := "50c58856ff3c282a6f9918524165e728aa9648b3849cb0b5360c970a05f584e3", func := "scholia/scholialaw01.CoderNobody", spec := "coderNobody", apart := false }
def CoderNobodySaid : Prop := coderNobodyRow.holds Try.pinned (OpenSpec.ofChange coderNobodySpec)

/-- ITS FALSE NEIGHBOUR: 'it returns false'. Refute it at one input. -/
def coderNobodyWrong : ChangeSpec := { name := "coderNobody", fn := fun _ => fun
  | [d1, d2, d3] => { results := [.lit (.bool false)], args := [d1, d2, d3] }
  | _ => none }
def CoderNobodyWrongFalsely : Prop := coderNobodyRow.holds Try.pinned (OpenSpec.ofChange coderNobodyWrong)

/- THE SECOND FORM. 'bulk': how many values and letters a reading holds, each counted each time it is reached (what is shared counts as often as it is met; a slice's spare places count too). A statement '..UptoSaid' is the law's where the arguments, and the package variables that the reading takes, are together of bulk at most 1048576: NARROWER than '..Said'. Prove '..Said' where nothing that the law and all that it calls make is longer than what came in: it says more and counts as full. Else prove '..UptoSaid'. A law counts once. -/
mutual
def uptoBulk {H : Type} : DataW H → Nat
  | .lit (.string bytes) => bytes.length + 1
  | .lit _ => 1
  | .nil => 1
  | .ptr d => uptoBulk d + 1
  | .slice elems spare => uptoBulkAll elems + uptoBulkAll spare + 1
  | .agg parts => uptoBulkAll parts + 1
  | .iface _ d => uptoBulk d + 1
  | .map entries => uptoBulkEntries entries + 1
  | .held _ => 1
def uptoBulkAll {H : Type} : List (DataW H) → Nat
  | [] => 0
  | d :: r => uptoBulk d + uptoBulkAll r
def uptoBulkEntries {H : Type} : List (Lit × DataW H) → Nat
  | [] => 0
  | x :: r => uptoBulkEntry x + uptoBulkEntries r
def uptoBulkEntry {H : Type} : Lit × DataW H → Nat
  | (.string bytes, d) => bytes.length + uptoBulk d + 1
  | (_, d) => uptoBulk d + 1
 end
def uptoSmall : (H : Type) → List (DataW H) → Bool := fun _ ds => decide (uptoBulkAll ds ≤ 1048576)
def OpenSpec.upto (s : _root_.Go.ChangeSpec) : _root_.Go.OpenSpec := { _root_.Go.OpenSpec.ofChange s with cond := some uptoSmall }

/-- 'scholialaw01.CoderTexts', WHERE WHAT IT READS IS OF BULK AT MOST 1048576: true; the input reads as it did. -/
def coderTextsUptoRow : OpenClaim := { program := "ytcdggfojmfefkaa", sum := "50c58856ff3c282a6f9918524165e728aa9648b3849cb0b5360c970a05f584e3", func := "scholia/scholialaw01.CoderTexts", spec := "coderTexts", apart := false, narrowed := true }
def CoderTextsUptoSaid : Prop := coderTextsUptoRow.holds Try.pinned (OpenSpec.upto coderTextsSpec)

/-- 'scholialaw01.CoderNums', WHERE WHAT IT READS IS OF BULK AT MOST 1048576: true; the input reads as it did. -/
def coderNumsUptoRow : OpenClaim := { program := "ytcdggfojmfefkaa", sum := "50c58856ff3c282a6f9918524165e728aa9648b3849cb0b5360c970a05f584e3", func := "scholia/scholialaw01.CoderNums", spec := "coderNums", apart := false, narrowed := true }
def CoderNumsUptoSaid : Prop := coderNumsUptoRow.holds Try.pinned (OpenSpec.upto coderNumsSpec)

/-- 'scholialaw01.CoderOrder', WHERE WHAT IT READS IS OF BULK AT MOST 1048576: true; the input reads as it did. -/
def coderOrderUptoRow : OpenClaim := { program := "ytcdggfojmfefkaa", sum := "50c58856ff3c282a6f9918524165e728aa9648b3849cb0b5360c970a05f584e3", func := "scholia/scholialaw01.CoderOrder", spec := "coderOrder", inPlace := ["internal/bytealg.Compare"], apart := false, narrowed := true }
def CoderOrderUptoSaid : Prop := coderOrderUptoRow.holds Try.pinned (OpenSpec.upto coderOrderSpec)

/-- 'scholialaw01.CoderBack', WHERE WHAT IT READS IS OF BULK AT MOST 1048576: true; the input reads as it did. -/
def coderBackUptoRow : OpenClaim := { program := "ytcdggfojmfefkaa", sum := "50c58856ff3c282a6f9918524165e728aa9648b3849cb0b5360c970a05f584e3", func := "scholia/scholialaw01.CoderBack", spec := "coderBack", apart := false, narrowed := true }
def CoderBackUptoSaid : Prop := coderBackUptoRow.holds Try.pinned (OpenSpec.upto coderBackSpec)

/-- 'scholialaw01.CoderLists', WHERE WHAT IT READS IS OF BULK AT MOST 1048576: true; the input reads as it did. -/
def coderListsUptoRow : OpenClaim := { program := "ytcdggfojmfefkaa", sum := "50c58856ff3c282a6f9918524165e728aa9648b3849cb0b5360c970a05f584e3", func := "scholia/scholialaw01.CoderLists", spec := "coderLists", apart := false, narrowed := true }
def CoderListsUptoSaid : Prop := coderListsUptoRow.holds Try.pinned (OpenSpec.upto coderListsSpec)

/-- 'scholialaw01.CoderNobody', WHERE WHAT IT READS IS OF BULK AT MOST 1048576: true; the input reads as it did. -/
def coderNobodyUptoRow : OpenClaim := { program := "ytcdggfojmfefkaa", sum := "50c58856ff3c282a6f9918524165e728aa9648b3849cb0b5360c970a05f584e3", func := "scholia/scholialaw01.CoderNobody", spec := "coderNobody", apart := false, narrowed := true }
def CoderNobodyUptoSaid : Prop := coderNobodyUptoRow.holds Try.pinned (OpenSpec.upto coderNobodySpec)

end Rows
end Go.Proofs.Ytcdggfojmfefkaa
