/-
  DERIVED. GIVEN WITH THE SEED: THE CARDS: each row of YtopgikjmeebgbaaDoorRows.lean that lists a variable, with what it lists TIED to the program's text (the seventh form; the later family's looks); each row that meets fmt, with fmt's text TOLD by the authors' own Lean function (tested against real Go, not proved from fmt's source: count such statements apart). THE CARD IS WHAT COUNTS. Prove the row's statement (the work); the ties are given (YtopgikjmeebgbaaDoorTie.lean); close each card by the builder's one call (the guide's Derived/Test/ToyasCard.lean, 'card_holds'). Laid BY PROGRAM, IN A SANDBOX (cutbox-door.mjs). By AI agents, Wed Nov 11 2026. No macro, syntax, notation, axiom, sorry.
-/
import Derived.Test.YtopgikjmeebgbaaDoorRows
import GoSem.ClaimSeven
namespace Go.Proofs.YtopgikjmeebgbaaDoor
namespace Rows

/-- THE TIED CARD OF 'scholialaw05.BitsSizes'. -/
def bitsSizesCard : Claim7 := { stood := { row := bitsSizesRow, standIns := [], harness := (true, "eba2c8bb00558346efe6f407bc338110863d3fa679f19f294432aa62ff722f42"), looks := false }, kinds := [], alts := [], laidByText := true, laidKinds := [.data], laidTests := true, laidLooks := .later }
def BitsSizesCardSaid : Prop := Claim7.holds Tryd.pinned (.plain (OpenSpec.ofChange bitsSizesSpec)) bitsSizesCard

/-- THE TIED CARD OF 'scholialaw05.BitsRanks'. -/
def bitsRanksCard : Claim7 := { stood := { row := bitsRanksRow, standIns := [], harness := (true, "eba2c8bb00558346efe6f407bc338110863d3fa679f19f294432aa62ff722f42"), looks := false }, kinds := [], alts := [], laidByText := true, laidKinds := [.data], laidTests := true, laidLooks := .later }
def BitsRanksCardSaid : Prop := Claim7.holds Tryd.pinned (.plain (OpenSpec.ofChange bitsRanksSpec)) bitsRanksCard

/-- THE TIED CARD OF 'scholialaw05.BitsSets'. -/
def bitsSetsCard : Claim7 := { stood := { row := bitsSetsRow, standIns := [], harness := (true, "eba2c8bb00558346efe6f407bc338110863d3fa679f19f294432aa62ff722f42"), looks := false }, kinds := [], alts := [], laidByText := true, laidKinds := [.data], laidTests := true, laidLooks := .later }
def BitsSetsCardSaid : Prop := Claim7.holds Tryd.pinned (.plain (OpenSpec.ofChange bitsSetsSpec)) bitsSetsCard

/-- THE TIED CARD OF 'scholialaw05.BitsBoth'. -/
def bitsBothCard : Claim7 := { stood := { row := bitsBothRow, standIns := [], harness := (true, "eba2c8bb00558346efe6f407bc338110863d3fa679f19f294432aa62ff722f42"), looks := false }, kinds := [], alts := [], laidByText := true, laidKinds := [.data], laidTests := true, laidLooks := .later }
def BitsBothCardSaid : Prop := Claim7.holds Tryd.pinned (.plain (OpenSpec.ofChange bitsBothSpec)) bitsBothCard

/-- THE TIED CARD OF 'scholialaw05.BitsNobody'. -/
def bitsNobodyCard : Claim7 := { stood := { row := bitsNobodyRow, standIns := [], harness := (true, "eba2c8bb00558346efe6f407bc338110863d3fa679f19f294432aa62ff722f42"), looks := false }, kinds := [], alts := [], laidByText := true, laidKinds := [.data], laidTests := true, laidLooks := .later }
def BitsNobodyCardSaid : Prop := Claim7.holds Tryd.pinned (.plain (OpenSpec.ofChange bitsNobodySpec)) bitsNobodyCard

/-- THE TIED CARD OF 'scholialaw05.BitsBack'. -/
def bitsBackCard : Claim7 := { stood := { row := bitsBackRow, standIns := [], harness := (true, "eba2c8bb00558346efe6f407bc338110863d3fa679f19f294432aa62ff722f42"), looks := false }, kinds := [], alts := [], laidByText := true, laidKinds := [.data], laidTests := true, laidLooks := .later }
def BitsBackCardSaid : Prop := Claim7.holds Tryd.pinned (.plain (OpenSpec.ofChange bitsBackSpec)) bitsBackCard

/-- THE TIED CARD OF 'scholialaw05.BitsBytes'. -/
def bitsBytesCard : Claim7 := { stood := { row := bitsBytesRow, standIns := [], harness := (true, "eba2c8bb00558346efe6f407bc338110863d3fa679f19f294432aa62ff722f42"), looks := false }, kinds := [], alts := [], laidByText := true, laidKinds := [.data], laidTests := true, laidLooks := .later }
def BitsBytesCardSaid : Prop := Claim7.holds Tryd.pinned (.plain (OpenSpec.ofChange bitsBytesSpec)) bitsBytesCard

/-- THE SECOND FORM's CARD OF 'scholialaw05.BitsSizes'. -/
def bitsSizesUptoCard : Claim7 := { stood := { row := bitsSizesUptoRow, standIns := [], harness := (true, "eba2c8bb00558346efe6f407bc338110863d3fa679f19f294432aa62ff722f42"), looks := false }, kinds := [], alts := [], laidByText := true, laidKinds := [.data], laidTests := true, laidLooks := .later }
def BitsSizesUptoCardSaid : Prop := Claim7.holds Tryd.pinned (.plain (OpenSpec.upto bitsSizesSpec)) bitsSizesUptoCard

/-- THE SECOND FORM's CARD OF 'scholialaw05.BitsRanks'. -/
def bitsRanksUptoCard : Claim7 := { stood := { row := bitsRanksUptoRow, standIns := [], harness := (true, "eba2c8bb00558346efe6f407bc338110863d3fa679f19f294432aa62ff722f42"), looks := false }, kinds := [], alts := [], laidByText := true, laidKinds := [.data], laidTests := true, laidLooks := .later }
def BitsRanksUptoCardSaid : Prop := Claim7.holds Tryd.pinned (.plain (OpenSpec.upto bitsRanksSpec)) bitsRanksUptoCard

/-- THE SECOND FORM's CARD OF 'scholialaw05.BitsSets'. -/
def bitsSetsUptoCard : Claim7 := { stood := { row := bitsSetsUptoRow, standIns := [], harness := (true, "eba2c8bb00558346efe6f407bc338110863d3fa679f19f294432aa62ff722f42"), looks := false }, kinds := [], alts := [], laidByText := true, laidKinds := [.data], laidTests := true, laidLooks := .later }
def BitsSetsUptoCardSaid : Prop := Claim7.holds Tryd.pinned (.plain (OpenSpec.upto bitsSetsSpec)) bitsSetsUptoCard

/-- THE SECOND FORM's CARD OF 'scholialaw05.BitsBoth'. -/
def bitsBothUptoCard : Claim7 := { stood := { row := bitsBothUptoRow, standIns := [], harness := (true, "eba2c8bb00558346efe6f407bc338110863d3fa679f19f294432aa62ff722f42"), looks := false }, kinds := [], alts := [], laidByText := true, laidKinds := [.data], laidTests := true, laidLooks := .later }
def BitsBothUptoCardSaid : Prop := Claim7.holds Tryd.pinned (.plain (OpenSpec.upto bitsBothSpec)) bitsBothUptoCard

/-- THE SECOND FORM's CARD OF 'scholialaw05.BitsNobody'. -/
def bitsNobodyUptoCard : Claim7 := { stood := { row := bitsNobodyUptoRow, standIns := [], harness := (true, "eba2c8bb00558346efe6f407bc338110863d3fa679f19f294432aa62ff722f42"), looks := false }, kinds := [], alts := [], laidByText := true, laidKinds := [.data], laidTests := true, laidLooks := .later }
def BitsNobodyUptoCardSaid : Prop := Claim7.holds Tryd.pinned (.plain (OpenSpec.upto bitsNobodySpec)) bitsNobodyUptoCard

/-- THE SECOND FORM's CARD OF 'scholialaw05.BitsBack'. -/
def bitsBackUptoCard : Claim7 := { stood := { row := bitsBackUptoRow, standIns := [], harness := (true, "eba2c8bb00558346efe6f407bc338110863d3fa679f19f294432aa62ff722f42"), looks := false }, kinds := [], alts := [], laidByText := true, laidKinds := [.data], laidTests := true, laidLooks := .later }
def BitsBackUptoCardSaid : Prop := Claim7.holds Tryd.pinned (.plain (OpenSpec.upto bitsBackSpec)) bitsBackUptoCard

/-- THE SECOND FORM's CARD OF 'scholialaw05.BitsBytes'. -/
def bitsBytesUptoCard : Claim7 := { stood := { row := bitsBytesUptoRow, standIns := [], harness := (true, "eba2c8bb00558346efe6f407bc338110863d3fa679f19f294432aa62ff722f42"), looks := false }, kinds := [], alts := [], laidByText := true, laidKinds := [.data], laidTests := true, laidLooks := .later }
def BitsBytesUptoCardSaid : Prop := Claim7.holds Tryd.pinned (.plain (OpenSpec.upto bitsBytesSpec)) bitsBytesUptoCard
end Rows
end Go.Proofs.YtopgikjmeebgbaaDoor
