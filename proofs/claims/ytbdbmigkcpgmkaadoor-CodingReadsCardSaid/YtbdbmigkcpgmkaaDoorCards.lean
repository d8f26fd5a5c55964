/-
  DERIVED. GIVEN WITH THE SEED: THE CARDS: each row of YtbdbmigkcpgmkaaDoorRows.lean that lists a variable, with what it lists TIED to the program's text (the seventh form; the later family's looks); each row that meets fmt, with fmt's text TOLD by the authors' own Lean function (tested against real Go, not proved from fmt's source: count such statements apart). THE CARD IS WHAT COUNTS. Prove the row's statement (the work); the ties are given (YtbdbmigkcpgmkaaDoorTie.lean); close each card by the builder's one call (the guide's Derived/Test/ToyasCard.lean, 'card_holds'). Laid BY PROGRAM, IN A SANDBOX (cutbox-door.mjs). By AI agents, Wed Nov 11 2026. No macro, syntax, notation, axiom, sorry.
-/
import Derived.Test.YtbdbmigkcpgmkaaDoorRows
import GoSem.ClaimSeven
namespace Go.Proofs.YtbdbmigkcpgmkaaDoor
namespace Rows

/-- THE TIED CARD OF 'jotterlaw3.NameTells'. -/
def nameTellsCard : Claim7 := { stood := { row := nameTellsRow, standIns := [], harness := (true, "23c27836ce3164773d52bb40ef71b6936514512a9e27fe76872ff3222f11476c"), looks := false }, kinds := [], alts := [], laidByText := true, laidKinds := [.data, .pinned], laidTests := true, laidLooks := .later }
def NameTellsCardSaid : Prop := Claim7.holds Tryd.pinned (.plain (OpenSpec.ofChange nameTellsSpec)) nameTellsCard

/-- THE TIED CARD OF 'jotterlaw3.NameParts'. -/
def namePartsCard : Claim7 := { stood := { row := namePartsRow, standIns := [], harness := (true, "23c27836ce3164773d52bb40ef71b6936514512a9e27fe76872ff3222f11476c"), looks := false }, kinds := [], alts := [], laidByText := true, laidKinds := [.data, .pinned], laidTests := true, laidLooks := .later }
def NamePartsCardSaid : Prop := Claim7.holds Tryd.pinned (.plain (OpenSpec.ofChange namePartsSpec)) namePartsCard

/-- THE TIED CARD OF 'jotterlaw3.NameOrder'. -/
def nameOrderCard : Claim7 := { stood := { row := nameOrderRow, standIns := [], harness := (true, "23c27836ce3164773d52bb40ef71b6936514512a9e27fe76872ff3222f11476c"), looks := false }, kinds := [], alts := [], laidByText := true, laidKinds := [.data, .pinned], laidTests := true, laidLooks := .later }
def NameOrderCardSaid : Prop := Claim7.holds Tryd.pinned (.plain (OpenSpec.ofChange nameOrderSpec)) nameOrderCard

/-- THE TIED CARD OF 'jotterlaw3.NameRunes'. -/
def nameRunesCard : Claim7 := { stood := { row := nameRunesRow, standIns := [], harness := (true, "23c27836ce3164773d52bb40ef71b6936514512a9e27fe76872ff3222f11476c"), looks := false }, kinds := [], alts := [], laidByText := true, laidKinds := [.data, .pinned], laidTests := true, laidLooks := .later }
def NameRunesCardSaid : Prop := Claim7.holds Tryd.pinned (.plain (OpenSpec.ofChange nameRunesSpec)) nameRunesCard

/-- THE TIED CARD OF 'jotterlaw19.CodingLays'. -/
def codingLaysCard : Claim7 := { stood := { row := codingLaysRow, standIns := [], harness := (true, "23c27836ce3164773d52bb40ef71b6936514512a9e27fe76872ff3222f11476c"), looks := false }, kinds := [], alts := [], laidByText := true, laidKinds := [.data, .pinned], laidTests := true, laidLooks := .later }
def CodingLaysCardSaid : Prop := Claim7.holds Tryd.pinned (.plain (OpenSpec.ofChange codingLaysSpec)) codingLaysCard

/-- THE TIED CARD OF 'jotterlaw19.CodingReads'. -/
def codingReadsCard : Claim7 := { stood := { row := codingReadsRow, standIns := [], harness := (true, "23c27836ce3164773d52bb40ef71b6936514512a9e27fe76872ff3222f11476c"), looks := false }, kinds := [], alts := [], laidByText := true, laidKinds := [.data, .pinned], laidTests := true, laidLooks := .later }
def CodingReadsCardSaid : Prop := Claim7.holds Tryd.pinned (.plain (OpenSpec.ofChange codingReadsSpec)) codingReadsCard

/-- THE TIED CARD OF 'jotterlaw19.CodingBack'. -/
def codingBackCard : Claim7 := { stood := { row := codingBackRow, standIns := [], harness := (true, "23c27836ce3164773d52bb40ef71b6936514512a9e27fe76872ff3222f11476c"), looks := false }, kinds := [], alts := [], laidByText := true, laidKinds := [.data, .pinned], laidTests := true, laidLooks := .later }
def CodingBackCardSaid : Prop := Claim7.holds Tryd.pinned (.plain (OpenSpec.ofChange codingBackSpec)) codingBackCard

/-- THE TIED CARD OF 'jotterlaw19.CodingUnlike'. -/
def codingUnlikeCard : Claim7 := { stood := { row := codingUnlikeRow, standIns := [], harness := (true, "23c27836ce3164773d52bb40ef71b6936514512a9e27fe76872ff3222f11476c"), looks := false }, kinds := [], alts := [], laidByText := true, laidKinds := [.data, .pinned], laidTests := true, laidLooks := .later }
def CodingUnlikeCardSaid : Prop := Claim7.holds Tryd.pinned (.plain (OpenSpec.ofChange codingUnlikeSpec)) codingUnlikeCard

/-- THE TIED CARD OF 'jotterlaw19.CodingSizes'. -/
def codingSizesCard : Claim7 := { stood := { row := codingSizesRow, standIns := [], harness := (true, "23c27836ce3164773d52bb40ef71b6936514512a9e27fe76872ff3222f11476c"), looks := false }, kinds := [], alts := [], laidByText := true, laidKinds := [.data, .pinned], laidTests := true, laidLooks := .later }
def CodingSizesCardSaid : Prop := Claim7.holds Tryd.pinned (.plain (OpenSpec.ofChange codingSizesSpec)) codingSizesCard

/-- THE SECOND FORM's CARD OF 'jotterlaw3.NameTells'. -/
def nameTellsUptoCard : Claim7 := { stood := { row := nameTellsUptoRow, standIns := [], harness := (true, "23c27836ce3164773d52bb40ef71b6936514512a9e27fe76872ff3222f11476c"), looks := false }, kinds := [], alts := [], laidByText := true, laidKinds := [.data, .pinned], laidTests := true, laidLooks := .later }
def NameTellsUptoCardSaid : Prop := Claim7.holds Tryd.pinned (.plain (OpenSpec.upto nameTellsSpec)) nameTellsUptoCard

/-- THE SECOND FORM's CARD OF 'jotterlaw3.NameParts'. -/
def namePartsUptoCard : Claim7 := { stood := { row := namePartsUptoRow, standIns := [], harness := (true, "23c27836ce3164773d52bb40ef71b6936514512a9e27fe76872ff3222f11476c"), looks := false }, kinds := [], alts := [], laidByText := true, laidKinds := [.data, .pinned], laidTests := true, laidLooks := .later }
def NamePartsUptoCardSaid : Prop := Claim7.holds Tryd.pinned (.plain (OpenSpec.upto namePartsSpec)) namePartsUptoCard

/-- THE SECOND FORM's CARD OF 'jotterlaw3.NameOrder'. -/
def nameOrderUptoCard : Claim7 := { stood := { row := nameOrderUptoRow, standIns := [], harness := (true, "23c27836ce3164773d52bb40ef71b6936514512a9e27fe76872ff3222f11476c"), looks := false }, kinds := [], alts := [], laidByText := true, laidKinds := [.data, .pinned], laidTests := true, laidLooks := .later }
def NameOrderUptoCardSaid : Prop := Claim7.holds Tryd.pinned (.plain (OpenSpec.upto nameOrderSpec)) nameOrderUptoCard

/-- THE SECOND FORM's CARD OF 'jotterlaw3.NameRunes'. -/
def nameRunesUptoCard : Claim7 := { stood := { row := nameRunesUptoRow, standIns := [], harness := (true, "23c27836ce3164773d52bb40ef71b6936514512a9e27fe76872ff3222f11476c"), looks := false }, kinds := [], alts := [], laidByText := true, laidKinds := [.data, .pinned], laidTests := true, laidLooks := .later }
def NameRunesUptoCardSaid : Prop := Claim7.holds Tryd.pinned (.plain (OpenSpec.upto nameRunesSpec)) nameRunesUptoCard

/-- THE SECOND FORM's CARD OF 'jotterlaw19.CodingLays'. -/
def codingLaysUptoCard : Claim7 := { stood := { row := codingLaysUptoRow, standIns := [], harness := (true, "23c27836ce3164773d52bb40ef71b6936514512a9e27fe76872ff3222f11476c"), looks := false }, kinds := [], alts := [], laidByText := true, laidKinds := [.data, .pinned], laidTests := true, laidLooks := .later }
def CodingLaysUptoCardSaid : Prop := Claim7.holds Tryd.pinned (.plain (OpenSpec.upto codingLaysSpec)) codingLaysUptoCard

/-- THE SECOND FORM's CARD OF 'jotterlaw19.CodingReads'. -/
def codingReadsUptoCard : Claim7 := { stood := { row := codingReadsUptoRow, standIns := [], harness := (true, "23c27836ce3164773d52bb40ef71b6936514512a9e27fe76872ff3222f11476c"), looks := false }, kinds := [], alts := [], laidByText := true, laidKinds := [.data, .pinned], laidTests := true, laidLooks := .later }
def CodingReadsUptoCardSaid : Prop := Claim7.holds Tryd.pinned (.plain (OpenSpec.upto codingReadsSpec)) codingReadsUptoCard

/-- THE SECOND FORM's CARD OF 'jotterlaw19.CodingBack'. -/
def codingBackUptoCard : Claim7 := { stood := { row := codingBackUptoRow, standIns := [], harness := (true, "23c27836ce3164773d52bb40ef71b6936514512a9e27fe76872ff3222f11476c"), looks := false }, kinds := [], alts := [], laidByText := true, laidKinds := [.data, .pinned], laidTests := true, laidLooks := .later }
def CodingBackUptoCardSaid : Prop := Claim7.holds Tryd.pinned (.plain (OpenSpec.upto codingBackSpec)) codingBackUptoCard

/-- THE SECOND FORM's CARD OF 'jotterlaw19.CodingUnlike'. -/
def codingUnlikeUptoCard : Claim7 := { stood := { row := codingUnlikeUptoRow, standIns := [], harness := (true, "23c27836ce3164773d52bb40ef71b6936514512a9e27fe76872ff3222f11476c"), looks := false }, kinds := [], alts := [], laidByText := true, laidKinds := [.data, .pinned], laidTests := true, laidLooks := .later }
def CodingUnlikeUptoCardSaid : Prop := Claim7.holds Tryd.pinned (.plain (OpenSpec.upto codingUnlikeSpec)) codingUnlikeUptoCard

/-- THE SECOND FORM's CARD OF 'jotterlaw19.CodingSizes'. -/
def codingSizesUptoCard : Claim7 := { stood := { row := codingSizesUptoRow, standIns := [], harness := (true, "23c27836ce3164773d52bb40ef71b6936514512a9e27fe76872ff3222f11476c"), looks := false }, kinds := [], alts := [], laidByText := true, laidKinds := [.data, .pinned], laidTests := true, laidLooks := .later }
def CodingSizesUptoCardSaid : Prop := Claim7.holds Tryd.pinned (.plain (OpenSpec.upto codingSizesSpec)) codingSizesUptoCard
end Rows
end Go.Proofs.YtbdbmigkcpgmkaaDoor
