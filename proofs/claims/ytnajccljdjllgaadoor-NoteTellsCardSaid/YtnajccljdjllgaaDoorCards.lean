/-
  DERIVED. GIVEN WITH THE SEED: THE CARDS: each row of YtnajccljdjllgaaDoorRows.lean that lists a variable, with what it lists TIED to the program's text (the seventh form; the later family's looks); each row that meets fmt, with fmt's text TOLD by the authors' own Lean function (tested against real Go, not proved from fmt's source: count such statements apart). THE CARD IS WHAT COUNTS. Prove the row's statement (the work); the ties are given (YtnajccljdjllgaaDoorTie.lean); close each card by the builder's one call (the guide's Derived/Test/ToyasCard.lean, 'card_holds'). Laid BY PROGRAM, IN A SANDBOX (cutbox-door.mjs). By AI agents, Wed Nov 11 2026. No macro, syntax, notation, axiom, sorry.
-/
import Derived.Test.YtnajccljdjllgaaDoorRows
import GoSem.ClaimSeven
namespace Go.Proofs.YtnajccljdjllgaaDoor
namespace Rows

/-- THE TIED CARD OF 'jotterlaw17.ShelfScript'. -/
def shelfScriptCard : Claim7 := { stood := { row := shelfScriptRow, standIns := [], harness := (true, "476e115bef3cc980d61327c11204a4d9d421b4e6a4c8d5b5531c955f7c018b42"), looks := false }, kinds := [], alts := [], laidByText := true, laidKinds := [.data, .pinned], laidTests := true, laidLooks := .later }
def ShelfScriptCardSaid : Prop := Claim7.holds Tryd.pinned (.plain (OpenSpec.ofChange shelfScriptSpec)) shelfScriptCard

/-- THE TIED CARD OF 'jotterlaw18.NoteTells'. -/
def noteTellsCard : Claim7 := { stood := { row := noteTellsRow, standIns := [], harness := (true, "476e115bef3cc980d61327c11204a4d9d421b4e6a4c8d5b5531c955f7c018b42"), looks := false }, kinds := [], alts := [], laidByText := true, laidKinds := [.data, .pinned], laidTests := true, laidLooks := .later }
def NoteTellsCardSaid : Prop := Claim7.holds Tryd.pinned (.plain (OpenSpec.ofChange noteTellsSpec)) noteTellsCard

/-- THE TIED CARD OF 'jotterlaw18.NoteScript'. -/
def noteScriptCard : Claim7 := { stood := { row := noteScriptRow, standIns := [], harness := (true, "476e115bef3cc980d61327c11204a4d9d421b4e6a4c8d5b5531c955f7c018b42"), looks := false }, kinds := [], alts := [], laidByText := true, laidKinds := [.data, .pinned], laidTests := true, laidLooks := .later }
def NoteScriptCardSaid : Prop := Claim7.holds Tryd.pinned (.plain (OpenSpec.ofChange noteScriptSpec)) noteScriptCard

/-- THE SECOND FORM's CARD OF 'jotterlaw17.ShelfScript'. -/
def shelfScriptUptoCard : Claim7 := { stood := { row := shelfScriptUptoRow, standIns := [], harness := (true, "476e115bef3cc980d61327c11204a4d9d421b4e6a4c8d5b5531c955f7c018b42"), looks := false }, kinds := [], alts := [], laidByText := true, laidKinds := [.data, .pinned], laidTests := true, laidLooks := .later }
def ShelfScriptUptoCardSaid : Prop := Claim7.holds Tryd.pinned (.plain (OpenSpec.upto shelfScriptSpec)) shelfScriptUptoCard

/-- THE SECOND FORM's CARD OF 'jotterlaw18.NoteTells'. -/
def noteTellsUptoCard : Claim7 := { stood := { row := noteTellsUptoRow, standIns := [], harness := (true, "476e115bef3cc980d61327c11204a4d9d421b4e6a4c8d5b5531c955f7c018b42"), looks := false }, kinds := [], alts := [], laidByText := true, laidKinds := [.data, .pinned], laidTests := true, laidLooks := .later }
def NoteTellsUptoCardSaid : Prop := Claim7.holds Tryd.pinned (.plain (OpenSpec.upto noteTellsSpec)) noteTellsUptoCard

/-- THE SECOND FORM's CARD OF 'jotterlaw18.NoteScript'. -/
def noteScriptUptoCard : Claim7 := { stood := { row := noteScriptUptoRow, standIns := [], harness := (true, "476e115bef3cc980d61327c11204a4d9d421b4e6a4c8d5b5531c955f7c018b42"), looks := false }, kinds := [], alts := [], laidByText := true, laidKinds := [.data, .pinned], laidTests := true, laidLooks := .later }
def NoteScriptUptoCardSaid : Prop := Claim7.holds Tryd.pinned (.plain (OpenSpec.upto noteScriptSpec)) noteScriptUptoCard
end Rows
end Go.Proofs.YtnajccljdjllgaaDoor
