/-
  DERIVED. GIVEN WITH THE SEED: THE CARDS: each row of YtieohecgoaakmaaDoorRows.lean that lists a variable, with what it lists TIED to the program's text (the seventh form; the later family's looks); each row that meets fmt, with fmt's text TOLD by the authors' own Lean function (tested against real Go, not proved from fmt's source: count such statements apart). THE CARD IS WHAT COUNTS. Prove the row's statement (the work); the ties are given (YtieohecgoaakmaaDoorTie.lean); close each card by the builder's one call (the guide's Derived/Test/ToyasCard.lean, 'card_holds'). Laid BY PROGRAM, IN A SANDBOX (cutbox-door.mjs). By AI agents, Wed Nov 11 2026. No macro, syntax, notation, axiom, sorry.
-/
import Derived.Test.YtieohecgoaakmaaDoorRows
import GoSem.ClaimSeven
namespace Go.Proofs.YtieohecgoaakmaaDoor
namespace Rows

/-- THE TIED CARD OF 'jotterlaw17.ShelfLists'. -/
def shelfListsCard : Claim7 := { stood := { row := shelfListsRow, standIns := [], harness := (true, "735a5f53544f608a02362a60eec84b04669641f1339d0265a03a8edb6b1340b0"), looks := false }, kinds := [], alts := [], laidByText := true, laidKinds := [.data, .pinned], laidTests := true, laidLooks := .later }
def ShelfListsCardSaid : Prop := Claim7.holds Tryd.pinned (.plain (OpenSpec.ofChange shelfListsSpec)) shelfListsCard

/-- THE TIED CARD OF 'jotterlaw17.ShelfDrops'. -/
def shelfDropsCard : Claim7 := { stood := { row := shelfDropsRow, standIns := [], harness := (true, "735a5f53544f608a02362a60eec84b04669641f1339d0265a03a8edb6b1340b0"), looks := false }, kinds := [], alts := [], laidByText := true, laidKinds := [.data, .pinned], laidTests := true, laidLooks := .later }
def ShelfDropsCardSaid : Prop := Claim7.holds Tryd.pinned (.plain (OpenSpec.ofChange shelfDropsSpec)) shelfDropsCard

/-- THE TIED CARD OF 'jotterlaw17.ShelfBack'. -/
def shelfBackCard : Claim7 := { stood := { row := shelfBackRow, standIns := [], harness := (true, "735a5f53544f608a02362a60eec84b04669641f1339d0265a03a8edb6b1340b0"), looks := false }, kinds := [], alts := [], laidByText := true, laidKinds := [.data, .pinned], laidTests := true, laidLooks := .later }
def ShelfBackCardSaid : Prop := Claim7.holds Tryd.pinned (.plain (OpenSpec.ofChange shelfBackSpec)) shelfBackCard

/-- THE TIED CARD OF 'jotterlaw18.NoteSheets'. -/
def noteSheetsCard : Claim7 := { stood := { row := noteSheetsRow, standIns := [], harness := (true, "735a5f53544f608a02362a60eec84b04669641f1339d0265a03a8edb6b1340b0"), looks := false }, kinds := [], alts := [], laidByText := true, laidKinds := [.data, .pinned], laidTests := true, laidLooks := .later }
def NoteSheetsCardSaid : Prop := Claim7.holds Tryd.pinned (.plain (OpenSpec.ofChange noteSheetsSpec)) noteSheetsCard

/-- THE TIED CARD OF 'jotterlaw18.NoteShifts'. -/
def noteShiftsCard : Claim7 := { stood := { row := noteShiftsRow, standIns := [], harness := (true, "735a5f53544f608a02362a60eec84b04669641f1339d0265a03a8edb6b1340b0"), looks := false }, kinds := [], alts := [], laidByText := true, laidKinds := [.data, .pinned], laidTests := true, laidLooks := .later }
def NoteShiftsCardSaid : Prop := Claim7.holds Tryd.pinned (.plain (OpenSpec.ofChange noteShiftsSpec)) noteShiftsCard

/-- THE TIED CARD OF 'jotterlaw18.NoteTags'. -/
def noteTagsCard : Claim7 := { stood := { row := noteTagsRow, standIns := [], harness := (true, "735a5f53544f608a02362a60eec84b04669641f1339d0265a03a8edb6b1340b0"), looks := false }, kinds := [], alts := [], laidByText := true, laidKinds := [.data, .pinned], laidTests := true, laidLooks := .later }
def NoteTagsCardSaid : Prop := Claim7.holds Tryd.pinned (.plain (OpenSpec.ofChange noteTagsSpec)) noteTagsCard

/-- THE SECOND FORM's CARD OF 'jotterlaw17.ShelfLists'. -/
def shelfListsUptoCard : Claim7 := { stood := { row := shelfListsUptoRow, standIns := [], harness := (true, "735a5f53544f608a02362a60eec84b04669641f1339d0265a03a8edb6b1340b0"), looks := false }, kinds := [], alts := [], laidByText := true, laidKinds := [.data, .pinned], laidTests := true, laidLooks := .later }
def ShelfListsUptoCardSaid : Prop := Claim7.holds Tryd.pinned (.plain (OpenSpec.upto shelfListsSpec)) shelfListsUptoCard

/-- THE SECOND FORM's CARD OF 'jotterlaw17.ShelfDrops'. -/
def shelfDropsUptoCard : Claim7 := { stood := { row := shelfDropsUptoRow, standIns := [], harness := (true, "735a5f53544f608a02362a60eec84b04669641f1339d0265a03a8edb6b1340b0"), looks := false }, kinds := [], alts := [], laidByText := true, laidKinds := [.data, .pinned], laidTests := true, laidLooks := .later }
def ShelfDropsUptoCardSaid : Prop := Claim7.holds Tryd.pinned (.plain (OpenSpec.upto shelfDropsSpec)) shelfDropsUptoCard

/-- THE SECOND FORM's CARD OF 'jotterlaw17.ShelfBack'. -/
def shelfBackUptoCard : Claim7 := { stood := { row := shelfBackUptoRow, standIns := [], harness := (true, "735a5f53544f608a02362a60eec84b04669641f1339d0265a03a8edb6b1340b0"), looks := false }, kinds := [], alts := [], laidByText := true, laidKinds := [.data, .pinned], laidTests := true, laidLooks := .later }
def ShelfBackUptoCardSaid : Prop := Claim7.holds Tryd.pinned (.plain (OpenSpec.upto shelfBackSpec)) shelfBackUptoCard

/-- THE SECOND FORM's CARD OF 'jotterlaw18.NoteSheets'. -/
def noteSheetsUptoCard : Claim7 := { stood := { row := noteSheetsUptoRow, standIns := [], harness := (true, "735a5f53544f608a02362a60eec84b04669641f1339d0265a03a8edb6b1340b0"), looks := false }, kinds := [], alts := [], laidByText := true, laidKinds := [.data, .pinned], laidTests := true, laidLooks := .later }
def NoteSheetsUptoCardSaid : Prop := Claim7.holds Tryd.pinned (.plain (OpenSpec.upto noteSheetsSpec)) noteSheetsUptoCard

/-- THE SECOND FORM's CARD OF 'jotterlaw18.NoteShifts'. -/
def noteShiftsUptoCard : Claim7 := { stood := { row := noteShiftsUptoRow, standIns := [], harness := (true, "735a5f53544f608a02362a60eec84b04669641f1339d0265a03a8edb6b1340b0"), looks := false }, kinds := [], alts := [], laidByText := true, laidKinds := [.data, .pinned], laidTests := true, laidLooks := .later }
def NoteShiftsUptoCardSaid : Prop := Claim7.holds Tryd.pinned (.plain (OpenSpec.upto noteShiftsSpec)) noteShiftsUptoCard

/-- THE SECOND FORM's CARD OF 'jotterlaw18.NoteTags'. -/
def noteTagsUptoCard : Claim7 := { stood := { row := noteTagsUptoRow, standIns := [], harness := (true, "735a5f53544f608a02362a60eec84b04669641f1339d0265a03a8edb6b1340b0"), looks := false }, kinds := [], alts := [], laidByText := true, laidKinds := [.data, .pinned], laidTests := true, laidLooks := .later }
def NoteTagsUptoCardSaid : Prop := Claim7.holds Tryd.pinned (.plain (OpenSpec.upto noteTagsSpec)) noteTagsUptoCard
end Rows
end Go.Proofs.YtieohecgoaakmaaDoor
