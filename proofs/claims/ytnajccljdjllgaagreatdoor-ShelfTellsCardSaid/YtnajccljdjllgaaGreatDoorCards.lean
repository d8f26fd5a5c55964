/-
  DERIVED. GIVEN WITH THE SEED: THE CARDS: each row of YtnajccljdjllgaaGreatDoorRows.lean that lists a variable, with what it lists TIED to the program's text (the seventh form; the later family's looks); each row that meets fmt, with fmt's text TOLD by the authors' own Lean function (tested against real Go, not proved from fmt's source: count such statements apart). THE CARD IS WHAT COUNTS. Prove the row's statement (the work); the ties are given (YtnajccljdjllgaaGreatDoorTie.lean); close each card by the builder's one call (the guide's Derived/Test/ToyasCard.lean, 'card_holds'). Laid BY PROGRAM, IN A SANDBOX (cutbox-door.mjs). By AI agents, Wed Nov 11 2026. No macro, syntax, notation, axiom, sorry.
-/
import Derived.Test.YtnajccljdjllgaaGreatDoorRows
import GoSem.ClaimSeven
namespace Go.Proofs.YtnajccljdjllgaaGreatDoor
namespace Rows

/-- THE TIED CARD OF 'jotterlaw17.ShelfTells'. -/
def shelfTellsCard : Claim7 := { stood := { row := shelfTellsRow, standIns := [], harness := (true, "b6bea7cdf50171dd5b57fb6265e093453992583315d49064719a07801d30882e"), looks := false }, kinds := [], alts := [], laidByText := true, laidKinds := [.data, .pinned], laidTests := true, laidLooks := .later }
def ShelfTellsCardSaid : Prop := Claim7.holds Tryz.pinned (.plain (OpenSpec.ofChange shelfTellsSpec)) shelfTellsCard

/-- THE SECOND FORM's CARD OF 'jotterlaw17.ShelfTells'. -/
def shelfTellsUptoCard : Claim7 := { stood := { row := shelfTellsUptoRow, standIns := [], harness := (true, "b6bea7cdf50171dd5b57fb6265e093453992583315d49064719a07801d30882e"), looks := false }, kinds := [], alts := [], laidByText := true, laidKinds := [.data, .pinned], laidTests := true, laidLooks := .later }
def ShelfTellsUptoCardSaid : Prop := Claim7.holds Tryz.pinned (.plain (OpenSpec.upto shelfTellsSpec)) shelfTellsUptoCard
end Rows
end Go.Proofs.YtnajccljdjllgaaGreatDoor
