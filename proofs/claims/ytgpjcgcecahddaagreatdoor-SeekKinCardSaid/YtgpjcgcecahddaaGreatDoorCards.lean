/-
  DERIVED. GIVEN WITH THE SEED: THE CARDS: each row of YtgpjcgcecahddaaGreatDoorRows.lean that lists a variable, with what it lists TIED to the program's text (the seventh form; the later family's looks); each row that meets fmt, with fmt's text TOLD by the authors' own Lean function (tested against real Go, not proved from fmt's source: count such statements apart). THE CARD IS WHAT COUNTS. Prove the row's statement (the work); the ties are given (YtgpjcgcecahddaaGreatDoorTie.lean); close each card by the builder's one call (the guide's Derived/Test/ToyasCard.lean, 'card_holds'). Laid BY PROGRAM, IN A SANDBOX (cutbox-door.mjs). By AI agents, Wed Nov 11 2026. No macro, syntax, notation, axiom, sorry.
-/
import Derived.Test.YtgpjcgcecahddaaGreatDoorRows
import GoSem.ClaimSeven
namespace Go.Proofs.YtgpjcgcecahddaaGreatDoor
namespace Rows

/-- THE TIED CARD OF 'jotterlaw26.SeekTells'. -/
def seekTellsCard : Claim7 := { stood := { row := seekTellsRow, standIns := [], harness := (true, "e5d51f4a752c894518de9060aeea4ab936c75712c68566599b047a51cd6322dd"), looks := false }, kinds := [], alts := [], laidByText := true, laidKinds := [.data, .pinned], laidTests := true, laidLooks := .later }
def SeekTellsCardSaid : Prop := Claim7.holds Tryz.pinned (.plain (OpenSpec.ofChange seekTellsSpec)) seekTellsCard

/-- THE TIED CARD OF 'jotterlaw26.SeekTurns'. -/
def seekTurnsCard : Claim7 := { stood := { row := seekTurnsRow, standIns := [], harness := (true, "e5d51f4a752c894518de9060aeea4ab936c75712c68566599b047a51cd6322dd"), looks := false }, kinds := [], alts := [], laidByText := true, laidKinds := [.data, .pinned], laidTests := true, laidLooks := .later }
def SeekTurnsCardSaid : Prop := Claim7.holds Tryz.pinned (.plain (OpenSpec.ofChange seekTurnsSpec)) seekTurnsCard

/-- THE TIED CARD OF 'jotterlaw26.SeekWords'. -/
def seekWordsCard : Claim7 := { stood := { row := seekWordsRow, standIns := [], harness := (true, "e5d51f4a752c894518de9060aeea4ab936c75712c68566599b047a51cd6322dd"), looks := false }, kinds := [], alts := [], laidByText := true, laidKinds := [.data, .pinned], laidTests := true, laidLooks := .later }
def SeekWordsCardSaid : Prop := Claim7.holds Tryz.pinned (.plain (OpenSpec.ofChange seekWordsSpec)) seekWordsCard

/-- THE TIED CARD OF 'jotterlaw26.SeekKin'. -/
def seekKinCard : Claim7 := { stood := { row := seekKinRow, standIns := [], harness := (true, "e5d51f4a752c894518de9060aeea4ab936c75712c68566599b047a51cd6322dd"), looks := false }, kinds := [], alts := [], laidByText := true, laidKinds := [.data, .pinned], laidTests := true, laidLooks := .later }
def SeekKinCardSaid : Prop := Claim7.holds Tryz.pinned (.plain (OpenSpec.ofChange seekKinSpec)) seekKinCard

/-- THE TIED CARD OF 'jotterlaw26.SeekMore'. -/
def seekMoreCard : Claim7 := { stood := { row := seekMoreRow, standIns := [], harness := (true, "e5d51f4a752c894518de9060aeea4ab936c75712c68566599b047a51cd6322dd"), looks := false }, kinds := [], alts := [], laidByText := true, laidKinds := [.data, .pinned], laidTests := true, laidLooks := .later }
def SeekMoreCardSaid : Prop := Claim7.holds Tryz.pinned (.plain (OpenSpec.ofChange seekMoreSpec)) seekMoreCard

/-- THE TIED CARD OF 'jotterlaw26.SeekJoins'. -/
def seekJoinsCard : Claim7 := { stood := { row := seekJoinsRow, standIns := [], harness := (true, "e5d51f4a752c894518de9060aeea4ab936c75712c68566599b047a51cd6322dd"), looks := false }, kinds := [], alts := [], laidByText := true, laidKinds := [.data, .pinned], laidTests := true, laidLooks := .later }
def SeekJoinsCardSaid : Prop := Claim7.holds Tryz.pinned (.plain (OpenSpec.ofChange seekJoinsSpec)) seekJoinsCard

/-- THE SECOND FORM's CARD OF 'jotterlaw26.SeekTells'. -/
def seekTellsUptoCard : Claim7 := { stood := { row := seekTellsUptoRow, standIns := [], harness := (true, "e5d51f4a752c894518de9060aeea4ab936c75712c68566599b047a51cd6322dd"), looks := false }, kinds := [], alts := [], laidByText := true, laidKinds := [.data, .pinned], laidTests := true, laidLooks := .later }
def SeekTellsUptoCardSaid : Prop := Claim7.holds Tryz.pinned (.plain (OpenSpec.upto seekTellsSpec)) seekTellsUptoCard

/-- THE SECOND FORM's CARD OF 'jotterlaw26.SeekTurns'. -/
def seekTurnsUptoCard : Claim7 := { stood := { row := seekTurnsUptoRow, standIns := [], harness := (true, "e5d51f4a752c894518de9060aeea4ab936c75712c68566599b047a51cd6322dd"), looks := false }, kinds := [], alts := [], laidByText := true, laidKinds := [.data, .pinned], laidTests := true, laidLooks := .later }
def SeekTurnsUptoCardSaid : Prop := Claim7.holds Tryz.pinned (.plain (OpenSpec.upto seekTurnsSpec)) seekTurnsUptoCard

/-- THE SECOND FORM's CARD OF 'jotterlaw26.SeekWords'. -/
def seekWordsUptoCard : Claim7 := { stood := { row := seekWordsUptoRow, standIns := [], harness := (true, "e5d51f4a752c894518de9060aeea4ab936c75712c68566599b047a51cd6322dd"), looks := false }, kinds := [], alts := [], laidByText := true, laidKinds := [.data, .pinned], laidTests := true, laidLooks := .later }
def SeekWordsUptoCardSaid : Prop := Claim7.holds Tryz.pinned (.plain (OpenSpec.upto seekWordsSpec)) seekWordsUptoCard

/-- THE SECOND FORM's CARD OF 'jotterlaw26.SeekKin'. -/
def seekKinUptoCard : Claim7 := { stood := { row := seekKinUptoRow, standIns := [], harness := (true, "e5d51f4a752c894518de9060aeea4ab936c75712c68566599b047a51cd6322dd"), looks := false }, kinds := [], alts := [], laidByText := true, laidKinds := [.data, .pinned], laidTests := true, laidLooks := .later }
def SeekKinUptoCardSaid : Prop := Claim7.holds Tryz.pinned (.plain (OpenSpec.upto seekKinSpec)) seekKinUptoCard

/-- THE SECOND FORM's CARD OF 'jotterlaw26.SeekMore'. -/
def seekMoreUptoCard : Claim7 := { stood := { row := seekMoreUptoRow, standIns := [], harness := (true, "e5d51f4a752c894518de9060aeea4ab936c75712c68566599b047a51cd6322dd"), looks := false }, kinds := [], alts := [], laidByText := true, laidKinds := [.data, .pinned], laidTests := true, laidLooks := .later }
def SeekMoreUptoCardSaid : Prop := Claim7.holds Tryz.pinned (.plain (OpenSpec.upto seekMoreSpec)) seekMoreUptoCard

/-- THE SECOND FORM's CARD OF 'jotterlaw26.SeekJoins'. -/
def seekJoinsUptoCard : Claim7 := { stood := { row := seekJoinsUptoRow, standIns := [], harness := (true, "e5d51f4a752c894518de9060aeea4ab936c75712c68566599b047a51cd6322dd"), looks := false }, kinds := [], alts := [], laidByText := true, laidKinds := [.data, .pinned], laidTests := true, laidLooks := .later }
def SeekJoinsUptoCardSaid : Prop := Claim7.holds Tryz.pinned (.plain (OpenSpec.upto seekJoinsSpec)) seekJoinsUptoCard
end Rows
end Go.Proofs.YtgpjcgcecahddaaGreatDoor
