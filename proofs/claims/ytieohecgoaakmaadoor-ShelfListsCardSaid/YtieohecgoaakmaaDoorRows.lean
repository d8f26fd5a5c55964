/-
  NARROWER THAN 'FOR EVERY INPUT', by the rows' own cells (each row's printed sentence says how): ShelfLists: laid · ShelfDrops: laid · ShelfBack: laid · NoteSheets: laid · NoteShifts: laid · NoteTags: laid.
  DERIVED. THE GIVEN ROWS OF THIS SEAT. 6 by the template 'for every input the law returns true; each argument reads behind the call as it read before'; 0 by the template 'total and deterministic' (their statements: YtieohecgoaakmaaDoorTotals.lean).
  GIVEN WITH THE SEED: the statements are not yours to turn. If you find one false, say at which input.
  Laid BY PROGRAM, IN A SANDBOX (cutbox-rows.mjs): the forced cells as the released guide's own fill.sh prints them over the translation 0f2701b9a995f1b1… (all of the seat's roots in one cut). By AI agents, Wed Nov 11 2026. No macro, syntax, notation, axiom, sorry.
-/
import Derived.Test.YtieohecgoaakmaaDoorChecked
import GoSem.PinnedTables
import GoSem.Claim
import GoSem.ClaimJoined
import GoSem.ClaimMapViews
import Derived.JoinedTies
import Derived.KernelRfl
namespace Go.Proofs.YtieohecgoaakmaaDoor
/- THE CELL 'sum', in the pinned program and in every row, IS THE sha256 OF THE DUMP (.gsa) THAT YtieohecgoaakmaaDoorProg.lean LOADS. Nothing in Lean hashes anything: it is a label: what it is worth is what the hold of that sum in a sandbox is worth. -/
noncomputable def Tryd.pinned : Pinned := { name := "ytieohecgoaakmaadoor", sum := "0f2701b9a995f1b1bd15018ebe6edbf8790bad325ed9fad3af7546ad733a6b68", checked := Tryd.checked }
namespace Rows
def none {H : Type} : Left H := { results := [], args := [] }

/- WHAT THE LISTED PACKAGE-LEVEL VARIABLES READ AS WHEN THE CALL BEGINS. Each datum BY PROGRAM (the guide's laid-datum.mjs) off the statement by which the dump's own 'gosem.cut.vars' lays the variable. In a bare row this is a premise. The card (YtieohecgoaakmaaDoorCards.lean) ties it to the program's text. -/
def laid_unicode_utf8_acceptRanges {H : Type} : DataW H := .agg [.agg [.lit (.int .u8 128), .lit (.int .u8 191)], .agg [.lit (.int .u8 160), .lit (.int .u8 191)], .agg [.lit (.int .u8 128), .lit (.int .u8 159)], .agg [.lit (.int .u8 144), .lit (.int .u8 191)], .agg [.lit (.int .u8 128), .lit (.int .u8 143)], .agg [.lit (.int .u8 0), .lit (.int .u8 0)], .agg [.lit (.int .u8 0), .lit (.int .u8 0)], .agg [.lit (.int .u8 0), .lit (.int .u8 0)], .agg [.lit (.int .u8 0), .lit (.int .u8 0)], .agg [.lit (.int .u8 0), .lit (.int .u8 0)], .agg [.lit (.int .u8 0), .lit (.int .u8 0)], .agg [.lit (.int .u8 0), .lit (.int .u8 0)], .agg [.lit (.int .u8 0), .lit (.int .u8 0)], .agg [.lit (.int .u8 0), .lit (.int .u8 0)], .agg [.lit (.int .u8 0), .lit (.int .u8 0)], .agg [.lit (.int .u8 0), .lit (.int .u8 0)]]
/-- One of Go's own tables, pinned by name: the form's constant. -/
def laid_unicode_utf8_first : DataW Unit := Go.Pinned.utf8First

/-- 'jotterlaw17.ShelfLists': WHATEVER THE INPUT: true; the input reads as it did. -/
def shelfListsSpec : ChangeSpec := { name := "shelfLists", fn := fun _ => fun
  | [d] => { results := [.lit (.bool true)], args := [d] }
  | _ => none }
def shelfListsRow : OpenClaim := { program := "ytieohecgoaakmaadoor", sum := "0f2701b9a995f1b1bd15018ebe6edbf8790bad325ed9fad3af7546ad733a6b68", func := "jotter/jotterlaw17.ShelfLists", spec := "shelfLists", unfollowed := true, recurses := true, named := ["unicode/utf8.first", "unicode/utf8.acceptRanges"], apart := false, laid := [("unicode/utf8.acceptRanges", laid_unicode_utf8_acceptRanges), ("unicode/utf8.first", laid_unicode_utf8_first)] }
def ShelfListsSaid : Prop := shelfListsRow.holds Tryd.pinned (OpenSpec.ofChange shelfListsSpec)

/-- ITS FALSE NEIGHBOUR: 'it returns false'. Refute it at one input. -/
def shelfListsWrong : ChangeSpec := { name := "shelfLists", fn := fun _ => fun
  | [d] => { results := [.lit (.bool false)], args := [d] }
  | _ => none }
def ShelfListsWrongFalsely : Prop := shelfListsRow.holds Tryd.pinned (OpenSpec.ofChange shelfListsWrong)

/-- 'jotterlaw17.ShelfDrops': WHATEVER THE INPUT: true; the input reads as it did. -/
def shelfDropsSpec : ChangeSpec := { name := "shelfDrops", fn := fun _ => fun
  | [d1, d2] => { results := [.lit (.bool true)], args := [d1, d2] }
  | _ => none }
def shelfDropsRow : OpenClaim := { program := "ytieohecgoaakmaadoor", sum := "0f2701b9a995f1b1bd15018ebe6edbf8790bad325ed9fad3af7546ad733a6b68", func := "jotter/jotterlaw17.ShelfDrops", spec := "shelfDrops", unfollowed := true, recurses := true, named := ["unicode/utf8.first", "unicode/utf8.acceptRanges"], apart := false, laid := [("unicode/utf8.acceptRanges", laid_unicode_utf8_acceptRanges), ("unicode/utf8.first", laid_unicode_utf8_first)] }
def ShelfDropsSaid : Prop := shelfDropsRow.holds Tryd.pinned (OpenSpec.ofChange shelfDropsSpec)

/-- ITS FALSE NEIGHBOUR: 'it returns false'. Refute it at one input. -/
def shelfDropsWrong : ChangeSpec := { name := "shelfDrops", fn := fun _ => fun
  | [d1, d2] => { results := [.lit (.bool false)], args := [d1, d2] }
  | _ => none }
def ShelfDropsWrongFalsely : Prop := shelfDropsRow.holds Tryd.pinned (OpenSpec.ofChange shelfDropsWrong)

/-- 'jotterlaw17.ShelfBack': WHATEVER THE INPUT: true; the input reads as it did. -/
def shelfBackSpec : ChangeSpec := { name := "shelfBack", fn := fun _ => fun
  | [d1, d2, d3, d4, d5] => { results := [.lit (.bool true)], args := [d1, d2, d3, d4, d5] }
  | _ => none }
def shelfBackRow : OpenClaim := { program := "ytieohecgoaakmaadoor", sum := "0f2701b9a995f1b1bd15018ebe6edbf8790bad325ed9fad3af7546ad733a6b68", func := "jotter/jotterlaw17.ShelfBack", spec := "shelfBack", unfollowed := true, recurses := true, named := ["unicode/utf8.first", "unicode/utf8.acceptRanges"], apart := false, laid := [("unicode/utf8.acceptRanges", laid_unicode_utf8_acceptRanges), ("unicode/utf8.first", laid_unicode_utf8_first)] }
def ShelfBackSaid : Prop := shelfBackRow.holds Tryd.pinned (OpenSpec.ofChange shelfBackSpec)

/-- ITS FALSE NEIGHBOUR: 'it returns false'. Refute it at one input. -/
def shelfBackWrong : ChangeSpec := { name := "shelfBack", fn := fun _ => fun
  | [d1, d2, d3, d4, d5] => { results := [.lit (.bool false)], args := [d1, d2, d3, d4, d5] }
  | _ => none }
def ShelfBackWrongFalsely : Prop := shelfBackRow.holds Tryd.pinned (OpenSpec.ofChange shelfBackWrong)

/-- 'jotterlaw18.NoteSheets': WHATEVER THE INPUT: true; the input reads as it did. -/
def noteSheetsSpec : ChangeSpec := { name := "noteSheets", fn := fun _ => fun
  | [d1, d2] => { results := [.lit (.bool true)], args := [d1, d2] }
  | _ => none }
def noteSheetsRow : OpenClaim := { program := "ytieohecgoaakmaadoor", sum := "0f2701b9a995f1b1bd15018ebe6edbf8790bad325ed9fad3af7546ad733a6b68", func := "jotter/jotterlaw18.NoteSheets", spec := "noteSheets", unfollowed := true, recurses := true, named := ["unicode/utf8.first", "unicode/utf8.acceptRanges"], apart := false, laid := [("unicode/utf8.acceptRanges", laid_unicode_utf8_acceptRanges), ("unicode/utf8.first", laid_unicode_utf8_first)] }
def NoteSheetsSaid : Prop := noteSheetsRow.holds Tryd.pinned (OpenSpec.ofChange noteSheetsSpec)

/-- ITS FALSE NEIGHBOUR: 'it returns false'. Refute it at one input. -/
def noteSheetsWrong : ChangeSpec := { name := "noteSheets", fn := fun _ => fun
  | [d1, d2] => { results := [.lit (.bool false)], args := [d1, d2] }
  | _ => none }
def NoteSheetsWrongFalsely : Prop := noteSheetsRow.holds Tryd.pinned (OpenSpec.ofChange noteSheetsWrong)

/-- 'jotterlaw18.NoteShifts': WHATEVER THE INPUT: true; the input reads as it did. -/
def noteShiftsSpec : ChangeSpec := { name := "noteShifts", fn := fun _ => fun
  | [d1, d2, d3] => { results := [.lit (.bool true)], args := [d1, d2, d3] }
  | _ => none }
def noteShiftsRow : OpenClaim := { program := "ytieohecgoaakmaadoor", sum := "0f2701b9a995f1b1bd15018ebe6edbf8790bad325ed9fad3af7546ad733a6b68", func := "jotter/jotterlaw18.NoteShifts", spec := "noteShifts", unfollowed := true, recurses := true, named := ["unicode/utf8.first", "unicode/utf8.acceptRanges"], apart := false, laid := [("unicode/utf8.acceptRanges", laid_unicode_utf8_acceptRanges), ("unicode/utf8.first", laid_unicode_utf8_first)] }
def NoteShiftsSaid : Prop := noteShiftsRow.holds Tryd.pinned (OpenSpec.ofChange noteShiftsSpec)

/-- ITS FALSE NEIGHBOUR: 'it returns false'. Refute it at one input. -/
def noteShiftsWrong : ChangeSpec := { name := "noteShifts", fn := fun _ => fun
  | [d1, d2, d3] => { results := [.lit (.bool false)], args := [d1, d2, d3] }
  | _ => none }
def NoteShiftsWrongFalsely : Prop := noteShiftsRow.holds Tryd.pinned (OpenSpec.ofChange noteShiftsWrong)

/-- 'jotterlaw18.NoteTags': WHATEVER THE INPUT: true; the input reads as it did. -/
def noteTagsSpec : ChangeSpec := { name := "noteTags", fn := fun _ => fun
  | [d1, d2, d3] => { results := [.lit (.bool true)], args := [d1, d2, d3] }
  | _ => none }
def noteTagsRow : OpenClaim := { program := "ytieohecgoaakmaadoor", sum := "0f2701b9a995f1b1bd15018ebe6edbf8790bad325ed9fad3af7546ad733a6b68", func := "jotter/jotterlaw18.NoteTags", spec := "noteTags", unfollowed := true, recurses := true, named := ["unicode/utf8.first", "unicode/utf8.acceptRanges"], apart := false, laid := [("unicode/utf8.acceptRanges", laid_unicode_utf8_acceptRanges), ("unicode/utf8.first", laid_unicode_utf8_first)] }
def NoteTagsSaid : Prop := noteTagsRow.holds Tryd.pinned (OpenSpec.ofChange noteTagsSpec)

/-- ITS FALSE NEIGHBOUR: 'it returns false'. Refute it at one input. -/
def noteTagsWrong : ChangeSpec := { name := "noteTags", fn := fun _ => fun
  | [d1, d2, d3] => { results := [.lit (.bool false)], args := [d1, d2, d3] }
  | _ => none }
def NoteTagsWrongFalsely : Prop := noteTagsRow.holds Tryd.pinned (OpenSpec.ofChange noteTagsWrong)

/- THE SECOND FORM. 'bulk': how many values and letters a reading holds, each counted each time it is reached (what is shared counts as often as it is met; a slice's spare places count too). A statement '..UptoSaid' is the law's where the arguments, and the package variables that the reading takes, are together of bulk at most 1048576: NARROWER than '..Said'. Prove '..Said' where nothing that the law and all that it calls make is longer than what came in: it says more and counts as full. Else prove '..UptoSaid'. A law counts once. -/
mutual
def uptoBulk {H : Type} : DataW H → Nat
  | .lit (.string bytes) => bytes.length + 1
  | .lit _ => 1
  | .nil => 1
  | .ptr d => uptoBulk d + 1
  | .slice elems spare => uptoBulkAll elems + uptoBulkAll spare + 1
  | .agg parts => uptoBulkAll parts + 1
  | .iface _ d => uptoBulk d + 1
  | .map entries => uptoBulkEntries entries + 1
  | .held _ => 1
def uptoBulkAll {H : Type} : List (DataW H) → Nat
  | [] => 0
  | d :: r => uptoBulk d + uptoBulkAll r
def uptoBulkEntries {H : Type} : List (Lit × DataW H) → Nat
  | [] => 0
  | x :: r => uptoBulkEntry x + uptoBulkEntries r
def uptoBulkEntry {H : Type} : Lit × DataW H → Nat
  | (.string bytes, d) => bytes.length + uptoBulk d + 1
  | (_, d) => uptoBulk d + 1
 end
def uptoSmall : (H : Type) → List (DataW H) → Bool := fun _ ds => decide (uptoBulkAll ds ≤ 1048576)
def OpenSpec.upto (s : _root_.Go.ChangeSpec) : _root_.Go.OpenSpec := { _root_.Go.OpenSpec.ofChange s with cond := some uptoSmall }

/-- 'jotterlaw17.ShelfLists', WHERE WHAT IT READS IS OF BULK AT MOST 1048576: true; the input reads as it did. -/
def shelfListsUptoRow : OpenClaim := { program := "ytieohecgoaakmaadoor", sum := "0f2701b9a995f1b1bd15018ebe6edbf8790bad325ed9fad3af7546ad733a6b68", func := "jotter/jotterlaw17.ShelfLists", spec := "shelfLists", unfollowed := true, recurses := true, named := ["unicode/utf8.first", "unicode/utf8.acceptRanges"], apart := false, laid := [("unicode/utf8.acceptRanges", laid_unicode_utf8_acceptRanges), ("unicode/utf8.first", laid_unicode_utf8_first)], narrowed := true }
def ShelfListsUptoSaid : Prop := shelfListsUptoRow.holds Tryd.pinned (OpenSpec.upto shelfListsSpec)

/-- 'jotterlaw17.ShelfDrops', WHERE WHAT IT READS IS OF BULK AT MOST 1048576: true; the input reads as it did. -/
def shelfDropsUptoRow : OpenClaim := { program := "ytieohecgoaakmaadoor", sum := "0f2701b9a995f1b1bd15018ebe6edbf8790bad325ed9fad3af7546ad733a6b68", func := "jotter/jotterlaw17.ShelfDrops", spec := "shelfDrops", unfollowed := true, recurses := true, named := ["unicode/utf8.first", "unicode/utf8.acceptRanges"], apart := false, laid := [("unicode/utf8.acceptRanges", laid_unicode_utf8_acceptRanges), ("unicode/utf8.first", laid_unicode_utf8_first)], narrowed := true }
def ShelfDropsUptoSaid : Prop := shelfDropsUptoRow.holds Tryd.pinned (OpenSpec.upto shelfDropsSpec)

/-- 'jotterlaw17.ShelfBack', WHERE WHAT IT READS IS OF BULK AT MOST 1048576: true; the input reads as it did. -/
def shelfBackUptoRow : OpenClaim := { program := "ytieohecgoaakmaadoor", sum := "0f2701b9a995f1b1bd15018ebe6edbf8790bad325ed9fad3af7546ad733a6b68", func := "jotter/jotterlaw17.ShelfBack", spec := "shelfBack", unfollowed := true, recurses := true, named := ["unicode/utf8.first", "unicode/utf8.acceptRanges"], apart := false, laid := [("unicode/utf8.acceptRanges", laid_unicode_utf8_acceptRanges), ("unicode/utf8.first", laid_unicode_utf8_first)], narrowed := true }
def ShelfBackUptoSaid : Prop := shelfBackUptoRow.holds Tryd.pinned (OpenSpec.upto shelfBackSpec)

/-- 'jotterlaw18.NoteSheets', WHERE WHAT IT READS IS OF BULK AT MOST 1048576: true; the input reads as it did. -/
def noteSheetsUptoRow : OpenClaim := { program := "ytieohecgoaakmaadoor", sum := "0f2701b9a995f1b1bd15018ebe6edbf8790bad325ed9fad3af7546ad733a6b68", func := "jotter/jotterlaw18.NoteSheets", spec := "noteSheets", unfollowed := true, recurses := true, named := ["unicode/utf8.first", "unicode/utf8.acceptRanges"], apart := false, laid := [("unicode/utf8.acceptRanges", laid_unicode_utf8_acceptRanges), ("unicode/utf8.first", laid_unicode_utf8_first)], narrowed := true }
def NoteSheetsUptoSaid : Prop := noteSheetsUptoRow.holds Tryd.pinned (OpenSpec.upto noteSheetsSpec)

/-- 'jotterlaw18.NoteShifts', WHERE WHAT IT READS IS OF BULK AT MOST 1048576: true; the input reads as it did. -/
def noteShiftsUptoRow : OpenClaim := { program := "ytieohecgoaakmaadoor", sum := "0f2701b9a995f1b1bd15018ebe6edbf8790bad325ed9fad3af7546ad733a6b68", func := "jotter/jotterlaw18.NoteShifts", spec := "noteShifts", unfollowed := true, recurses := true, named := ["unicode/utf8.first", "unicode/utf8.acceptRanges"], apart := false, laid := [("unicode/utf8.acceptRanges", laid_unicode_utf8_acceptRanges), ("unicode/utf8.first", laid_unicode_utf8_first)], narrowed := true }
def NoteShiftsUptoSaid : Prop := noteShiftsUptoRow.holds Tryd.pinned (OpenSpec.upto noteShiftsSpec)

/-- 'jotterlaw18.NoteTags', WHERE WHAT IT READS IS OF BULK AT MOST 1048576: true; the input reads as it did. -/
def noteTagsUptoRow : OpenClaim := { program := "ytieohecgoaakmaadoor", sum := "0f2701b9a995f1b1bd15018ebe6edbf8790bad325ed9fad3af7546ad733a6b68", func := "jotter/jotterlaw18.NoteTags", spec := "noteTags", unfollowed := true, recurses := true, named := ["unicode/utf8.first", "unicode/utf8.acceptRanges"], apart := false, laid := [("unicode/utf8.acceptRanges", laid_unicode_utf8_acceptRanges), ("unicode/utf8.first", laid_unicode_utf8_first)], narrowed := true }
def NoteTagsUptoSaid : Prop := noteTagsUptoRow.holds Tryd.pinned (OpenSpec.upto noteTagsSpec)

end Rows
end Go.Proofs.YtieohecgoaakmaaDoor
