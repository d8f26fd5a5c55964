/-
  NARROWER THAN 'FOR EVERY INPUT', by the rows' own cells (each row's printed sentence says how): NameTells: laid · NameParts: laid · NameOrder: laid · NameRunes: laid · CodingLays: laid · CodingReads: laid · CodingBack: laid · CodingUnlike: laid · CodingSizes: laid.
  DERIVED. THE GIVEN ROWS OF THIS SEAT. 9 by the template 'for every input the law returns true; each argument reads behind the call as it read before'; 0 by the template 'total and deterministic' (their statements: YtbdbmigkcpgmkaaDoorTotals.lean).
  GIVEN WITH THE SEED: the statements are not yours to turn. If you find one false, say at which input.
  Laid BY PROGRAM, IN A SANDBOX (cutbox-rows.mjs): the forced cells as the released guide's own fill.sh prints them over the translation a3d190365360bdc8… (all of the seat's roots in one cut). By AI agents, Wed Nov 11 2026. No macro, syntax, notation, axiom, sorry.
-/
import Derived.Test.YtbdbmigkcpgmkaaDoorChecked
import GoSem.PinnedTables
import GoSem.Claim
import GoSem.ClaimJoined
import GoSem.ClaimMapViews
import Derived.JoinedTies
import Derived.KernelRfl
namespace Go.Proofs.YtbdbmigkcpgmkaaDoor
/- THE CELL 'sum', in the pinned program and in every row, IS THE sha256 OF THE DUMP (.gsa) THAT YtbdbmigkcpgmkaaDoorProg.lean LOADS. Nothing in Lean hashes anything: it is a label: what it is worth is what the hold of that sum in a sandbox is worth. -/
noncomputable def Tryd.pinned : Pinned := { name := "ytbdbmigkcpgmkaadoor", sum := "a3d190365360bdc86619b94a1e966acac76362e1180fe4b78ec06d61d3f78cc7", checked := Tryd.checked }
namespace Rows
def none {H : Type} : Left H := { results := [], args := [] }

/- WHAT THE LISTED PACKAGE-LEVEL VARIABLES READ AS WHEN THE CALL BEGINS. Each datum BY PROGRAM (the guide's laid-datum.mjs) off the statement by which the dump's own 'gosem.cut.vars' lays the variable. In a bare row this is a premise. The card (YtbdbmigkcpgmkaaDoorCards.lean) ties it to the program's text. -/
def laid_unicode_utf8_acceptRanges {H : Type} : DataW H := .agg [.agg [.lit (.int .u8 128), .lit (.int .u8 191)], .agg [.lit (.int .u8 160), .lit (.int .u8 191)], .agg [.lit (.int .u8 128), .lit (.int .u8 159)], .agg [.lit (.int .u8 144), .lit (.int .u8 191)], .agg [.lit (.int .u8 128), .lit (.int .u8 143)], .agg [.lit (.int .u8 0), .lit (.int .u8 0)], .agg [.lit (.int .u8 0), .lit (.int .u8 0)], .agg [.lit (.int .u8 0), .lit (.int .u8 0)], .agg [.lit (.int .u8 0), .lit (.int .u8 0)], .agg [.lit (.int .u8 0), .lit (.int .u8 0)], .agg [.lit (.int .u8 0), .lit (.int .u8 0)], .agg [.lit (.int .u8 0), .lit (.int .u8 0)], .agg [.lit (.int .u8 0), .lit (.int .u8 0)], .agg [.lit (.int .u8 0), .lit (.int .u8 0)], .agg [.lit (.int .u8 0), .lit (.int .u8 0)], .agg [.lit (.int .u8 0), .lit (.int .u8 0)]]
/-- One of Go's own tables, pinned by name: the form's constant. -/
def laid_unicode_utf8_first : DataW Unit := Go.Pinned.utf8First

/-- 'jotterlaw3.NameTells': WHATEVER THE INPUT: true; the input reads as it did. -/
def nameTellsSpec : ChangeSpec := { name := "nameTells", fn := fun _ => fun
  | [d1, d2] => { results := [.lit (.bool true)], args := [d1, d2] }
  | _ => none }
def nameTellsRow : OpenClaim := { program := "ytbdbmigkcpgmkaadoor", sum := "a3d190365360bdc86619b94a1e966acac76362e1180fe4b78ec06d61d3f78cc7", func := "jotter/jotterlaw3.NameTells", spec := "nameTells", unfollowed := true, recurses := true, named := ["unicode/utf8.first", "unicode/utf8.acceptRanges"], apart := false, laid := [("unicode/utf8.acceptRanges", laid_unicode_utf8_acceptRanges), ("unicode/utf8.first", laid_unicode_utf8_first)] }
def NameTellsSaid : Prop := nameTellsRow.holds Tryd.pinned (OpenSpec.ofChange nameTellsSpec)

/-- ITS FALSE NEIGHBOUR: 'it returns false'. Refute it at one input. -/
def nameTellsWrong : ChangeSpec := { name := "nameTells", fn := fun _ => fun
  | [d1, d2] => { results := [.lit (.bool false)], args := [d1, d2] }
  | _ => none }
def NameTellsWrongFalsely : Prop := nameTellsRow.holds Tryd.pinned (OpenSpec.ofChange nameTellsWrong)

/-- 'jotterlaw3.NameParts': WHATEVER THE INPUT: true; the input reads as it did. -/
def namePartsSpec : ChangeSpec := { name := "nameParts", fn := fun _ => fun
  | [d1, d2, d3, d4] => { results := [.lit (.bool true)], args := [d1, d2, d3, d4] }
  | _ => none }
def namePartsRow : OpenClaim := { program := "ytbdbmigkcpgmkaadoor", sum := "a3d190365360bdc86619b94a1e966acac76362e1180fe4b78ec06d61d3f78cc7", func := "jotter/jotterlaw3.NameParts", spec := "nameParts", unfollowed := true, recurses := true, named := ["unicode/utf8.first", "unicode/utf8.acceptRanges"], apart := false, laid := [("unicode/utf8.acceptRanges", laid_unicode_utf8_acceptRanges), ("unicode/utf8.first", laid_unicode_utf8_first)] }
def NamePartsSaid : Prop := namePartsRow.holds Tryd.pinned (OpenSpec.ofChange namePartsSpec)

/-- ITS FALSE NEIGHBOUR: 'it returns false'. Refute it at one input. -/
def namePartsWrong : ChangeSpec := { name := "nameParts", fn := fun _ => fun
  | [d1, d2, d3, d4] => { results := [.lit (.bool false)], args := [d1, d2, d3, d4] }
  | _ => none }
def NamePartsWrongFalsely : Prop := namePartsRow.holds Tryd.pinned (OpenSpec.ofChange namePartsWrong)

/-- 'jotterlaw3.NameOrder': WHATEVER THE INPUT: true; the input reads as it did. -/
def nameOrderSpec : ChangeSpec := { name := "nameOrder", fn := fun _ => fun
  | [d1, d2, d3, d4] => { results := [.lit (.bool true)], args := [d1, d2, d3, d4] }
  | _ => none }
def nameOrderRow : OpenClaim := { program := "ytbdbmigkcpgmkaadoor", sum := "a3d190365360bdc86619b94a1e966acac76362e1180fe4b78ec06d61d3f78cc7", func := "jotter/jotterlaw3.NameOrder", spec := "nameOrder", unfollowed := true, recurses := true, named := ["unicode/utf8.first", "unicode/utf8.acceptRanges"], apart := false, laid := [("unicode/utf8.acceptRanges", laid_unicode_utf8_acceptRanges), ("unicode/utf8.first", laid_unicode_utf8_first)] }
def NameOrderSaid : Prop := nameOrderRow.holds Tryd.pinned (OpenSpec.ofChange nameOrderSpec)

/-- ITS FALSE NEIGHBOUR: 'it returns false'. Refute it at one input. -/
def nameOrderWrong : ChangeSpec := { name := "nameOrder", fn := fun _ => fun
  | [d1, d2, d3, d4] => { results := [.lit (.bool false)], args := [d1, d2, d3, d4] }
  | _ => none }
def NameOrderWrongFalsely : Prop := nameOrderRow.holds Tryd.pinned (OpenSpec.ofChange nameOrderWrong)

/-- 'jotterlaw3.NameRunes': WHATEVER THE INPUT: true; the input reads as it did. -/
def nameRunesSpec : ChangeSpec := { name := "nameRunes", fn := fun _ => fun
  | [d] => { results := [.lit (.bool true)], args := [d] }
  | _ => none }
def nameRunesRow : OpenClaim := { program := "ytbdbmigkcpgmkaadoor", sum := "a3d190365360bdc86619b94a1e966acac76362e1180fe4b78ec06d61d3f78cc7", func := "jotter/jotterlaw3.NameRunes", spec := "nameRunes", unfollowed := true, recurses := true, named := ["unicode/utf8.first", "unicode/utf8.acceptRanges"], apart := false, laid := [("unicode/utf8.acceptRanges", laid_unicode_utf8_acceptRanges), ("unicode/utf8.first", laid_unicode_utf8_first)] }
def NameRunesSaid : Prop := nameRunesRow.holds Tryd.pinned (OpenSpec.ofChange nameRunesSpec)

/-- ITS FALSE NEIGHBOUR: 'it returns false'. Refute it at one input. -/
def nameRunesWrong : ChangeSpec := { name := "nameRunes", fn := fun _ => fun
  | [d] => { results := [.lit (.bool false)], args := [d] }
  | _ => none }
def NameRunesWrongFalsely : Prop := nameRunesRow.holds Tryd.pinned (OpenSpec.ofChange nameRunesWrong)

/-- 'jotterlaw19.CodingLays': WHATEVER THE INPUT: true; the input reads as it did. -/
def codingLaysSpec : ChangeSpec := { name := "codingLays", fn := fun _ => fun
  | [d] => { results := [.lit (.bool true)], args := [d] }
  | _ => none }
def codingLaysRow : OpenClaim := { program := "ytbdbmigkcpgmkaadoor", sum := "a3d190365360bdc86619b94a1e966acac76362e1180fe4b78ec06d61d3f78cc7", func := "jotter/jotterlaw19.CodingLays", spec := "codingLays", unfollowed := true, recurses := true, named := ["unicode/utf8.first", "unicode/utf8.acceptRanges"], apart := false, laid := [("unicode/utf8.acceptRanges", laid_unicode_utf8_acceptRanges), ("unicode/utf8.first", laid_unicode_utf8_first)] }
def CodingLaysSaid : Prop := codingLaysRow.holds Tryd.pinned (OpenSpec.ofChange codingLaysSpec)

/-- ITS FALSE NEIGHBOUR: 'it returns false'. Refute it at one input. -/
def codingLaysWrong : ChangeSpec := { name := "codingLays", fn := fun _ => fun
  | [d] => { results := [.lit (.bool false)], args := [d] }
  | _ => none }
def CodingLaysWrongFalsely : Prop := codingLaysRow.holds Tryd.pinned (OpenSpec.ofChange codingLaysWrong)

/-- 'jotterlaw19.CodingReads': WHATEVER THE INPUT: true; the input reads as it did. -/
def codingReadsSpec : ChangeSpec := { name := "codingReads", fn := fun _ => fun
  | [d] => { results := [.lit (.bool true)], args := [d] }
  | _ => none }
def codingReadsRow : OpenClaim := { program := "ytbdbmigkcpgmkaadoor", sum := "a3d190365360bdc86619b94a1e966acac76362e1180fe4b78ec06d61d3f78cc7", func := "jotter/jotterlaw19.CodingReads", spec := "codingReads", unfollowed := true, recurses := true, named := ["unicode/utf8.first", "unicode/utf8.acceptRanges"], apart := false, laid := [("unicode/utf8.acceptRanges", laid_unicode_utf8_acceptRanges), ("unicode/utf8.first", laid_unicode_utf8_first)] }
def CodingReadsSaid : Prop := codingReadsRow.holds Tryd.pinned (OpenSpec.ofChange codingReadsSpec)

/-- ITS FALSE NEIGHBOUR: 'it returns false'. Refute it at one input. -/
def codingReadsWrong : ChangeSpec := { name := "codingReads", fn := fun _ => fun
  | [d] => { results := [.lit (.bool false)], args := [d] }
  | _ => none }
def CodingReadsWrongFalsely : Prop := codingReadsRow.holds Tryd.pinned (OpenSpec.ofChange codingReadsWrong)

/-- 'jotterlaw19.CodingBack': WHATEVER THE INPUT: true; the input reads as it did. -/
def codingBackSpec : ChangeSpec := { name := "codingBack", fn := fun _ => fun
  | [d1, d2, d3] => { results := [.lit (.bool true)], args := [d1, d2, d3] }
  | _ => none }
def codingBackRow : OpenClaim := { program := "ytbdbmigkcpgmkaadoor", sum := "a3d190365360bdc86619b94a1e966acac76362e1180fe4b78ec06d61d3f78cc7", func := "jotter/jotterlaw19.CodingBack", spec := "codingBack", unfollowed := true, recurses := true, named := ["unicode/utf8.first", "unicode/utf8.acceptRanges"], apart := false, laid := [("unicode/utf8.acceptRanges", laid_unicode_utf8_acceptRanges), ("unicode/utf8.first", laid_unicode_utf8_first)] }
def CodingBackSaid : Prop := codingBackRow.holds Tryd.pinned (OpenSpec.ofChange codingBackSpec)

/-- ITS FALSE NEIGHBOUR: 'it returns false'. Refute it at one input. -/
def codingBackWrong : ChangeSpec := { name := "codingBack", fn := fun _ => fun
  | [d1, d2, d3] => { results := [.lit (.bool false)], args := [d1, d2, d3] }
  | _ => none }
def CodingBackWrongFalsely : Prop := codingBackRow.holds Tryd.pinned (OpenSpec.ofChange codingBackWrong)

/-- 'jotterlaw19.CodingUnlike': WHATEVER THE INPUT: true; the input reads as it did. -/
def codingUnlikeSpec : ChangeSpec := { name := "codingUnlike", fn := fun _ => fun
  | [d1, d2] => { results := [.lit (.bool true)], args := [d1, d2] }
  | _ => none }
def codingUnlikeRow : OpenClaim := { program := "ytbdbmigkcpgmkaadoor", sum := "a3d190365360bdc86619b94a1e966acac76362e1180fe4b78ec06d61d3f78cc7", func := "jotter/jotterlaw19.CodingUnlike", spec := "codingUnlike", unfollowed := true, recurses := true, named := ["unicode/utf8.first", "unicode/utf8.acceptRanges"], apart := false, laid := [("unicode/utf8.acceptRanges", laid_unicode_utf8_acceptRanges), ("unicode/utf8.first", laid_unicode_utf8_first)] }
def CodingUnlikeSaid : Prop := codingUnlikeRow.holds Tryd.pinned (OpenSpec.ofChange codingUnlikeSpec)

/-- ITS FALSE NEIGHBOUR: 'it returns false'. Refute it at one input. -/
def codingUnlikeWrong : ChangeSpec := { name := "codingUnlike", fn := fun _ => fun
  | [d1, d2] => { results := [.lit (.bool false)], args := [d1, d2] }
  | _ => none }
def CodingUnlikeWrongFalsely : Prop := codingUnlikeRow.holds Tryd.pinned (OpenSpec.ofChange codingUnlikeWrong)

/-- 'jotterlaw19.CodingSizes': WHATEVER THE INPUT: true; the input reads as it did. -/
def codingSizesSpec : ChangeSpec := { name := "codingSizes", fn := fun _ => fun
  | [d] => { results := [.lit (.bool true)], args := [d] }
  | _ => none }
def codingSizesRow : OpenClaim := { program := "ytbdbmigkcpgmkaadoor", sum := "a3d190365360bdc86619b94a1e966acac76362e1180fe4b78ec06d61d3f78cc7", func := "jotter/jotterlaw19.CodingSizes", spec := "codingSizes", unfollowed := true, recurses := true, named := ["unicode/utf8.first", "unicode/utf8.acceptRanges"], apart := false, laid := [("unicode/utf8.acceptRanges", laid_unicode_utf8_acceptRanges), ("unicode/utf8.first", laid_unicode_utf8_first)] }
def CodingSizesSaid : Prop := codingSizesRow.holds Tryd.pinned (OpenSpec.ofChange codingSizesSpec)

/-- ITS FALSE NEIGHBOUR: 'it returns false'. Refute it at one input. -/
def codingSizesWrong : ChangeSpec := { name := "codingSizes", fn := fun _ => fun
  | [d] => { results := [.lit (.bool false)], args := [d] }
  | _ => none }
def CodingSizesWrongFalsely : Prop := codingSizesRow.holds Tryd.pinned (OpenSpec.ofChange codingSizesWrong)

/- THE SECOND FORM. 'bulk': how many values and letters a reading holds, each counted each time it is reached (what is shared counts as often as it is met; a slice's spare places count too). A statement '..UptoSaid' is the law's where the arguments, and the package variables that the reading takes, are together of bulk at most 1048576: NARROWER than '..Said'. Prove '..Said' where nothing that the law and all that it calls make is longer than what came in: it says more and counts as full. Else prove '..UptoSaid'. A law counts once. -/
mutual
def uptoBulk {H : Type} : DataW H → Nat
  | .lit (.string bytes) => bytes.length + 1
  | .lit _ => 1
  | .nil => 1
  | .ptr d => uptoBulk d + 1
  | .slice elems spare => uptoBulkAll elems + uptoBulkAll spare + 1
  | .agg parts => uptoBulkAll parts + 1
  | .iface _ d => uptoBulk d + 1
  | .map entries => uptoBulkEntries entries + 1
  | .held _ => 1
def uptoBulkAll {H : Type} : List (DataW H) → Nat
  | [] => 0
  | d :: r => uptoBulk d + uptoBulkAll r
def uptoBulkEntries {H : Type} : List (Lit × DataW H) → Nat
  | [] => 0
  | x :: r => uptoBulkEntry x + uptoBulkEntries r
def uptoBulkEntry {H : Type} : Lit × DataW H → Nat
  | (.string bytes, d) => bytes.length + uptoBulk d + 1
  | (_, d) => uptoBulk d + 1
 end
def uptoSmall : (H : Type) → List (DataW H) → Bool := fun _ ds => decide (uptoBulkAll ds ≤ 1048576)
def OpenSpec.upto (s : _root_.Go.ChangeSpec) : _root_.Go.OpenSpec := { _root_.Go.OpenSpec.ofChange s with cond := some uptoSmall }

/-- 'jotterlaw3.NameTells', WHERE WHAT IT READS IS OF BULK AT MOST 1048576: true; the input reads as it did. -/
def nameTellsUptoRow : OpenClaim := { program := "ytbdbmigkcpgmkaadoor", sum := "a3d190365360bdc86619b94a1e966acac76362e1180fe4b78ec06d61d3f78cc7", func := "jotter/jotterlaw3.NameTells", spec := "nameTells", unfollowed := true, recurses := true, named := ["unicode/utf8.first", "unicode/utf8.acceptRanges"], apart := false, laid := [("unicode/utf8.acceptRanges", laid_unicode_utf8_acceptRanges), ("unicode/utf8.first", laid_unicode_utf8_first)], narrowed := true }
def NameTellsUptoSaid : Prop := nameTellsUptoRow.holds Tryd.pinned (OpenSpec.upto nameTellsSpec)

/-- 'jotterlaw3.NameParts', WHERE WHAT IT READS IS OF BULK AT MOST 1048576: true; the input reads as it did. -/
def namePartsUptoRow : OpenClaim := { program := "ytbdbmigkcpgmkaadoor", sum := "a3d190365360bdc86619b94a1e966acac76362e1180fe4b78ec06d61d3f78cc7", func := "jotter/jotterlaw3.NameParts", spec := "nameParts", unfollowed := true, recurses := true, named := ["unicode/utf8.first", "unicode/utf8.acceptRanges"], apart := false, laid := [("unicode/utf8.acceptRanges", laid_unicode_utf8_acceptRanges), ("unicode/utf8.first", laid_unicode_utf8_first)], narrowed := true }
def NamePartsUptoSaid : Prop := namePartsUptoRow.holds Tryd.pinned (OpenSpec.upto namePartsSpec)

/-- 'jotterlaw3.NameOrder', WHERE WHAT IT READS IS OF BULK AT MOST 1048576: true; the input reads as it did. -/
def nameOrderUptoRow : OpenClaim := { program := "ytbdbmigkcpgmkaadoor", sum := "a3d190365360bdc86619b94a1e966acac76362e1180fe4b78ec06d61d3f78cc7", func := "jotter/jotterlaw3.NameOrder", spec := "nameOrder", unfollowed := true, recurses := true, named := ["unicode/utf8.first", "unicode/utf8.acceptRanges"], apart := false, laid := [("unicode/utf8.acceptRanges", laid_unicode_utf8_acceptRanges), ("unicode/utf8.first", laid_unicode_utf8_first)], narrowed := true }
def NameOrderUptoSaid : Prop := nameOrderUptoRow.holds Tryd.pinned (OpenSpec.upto nameOrderSpec)

/-- 'jotterlaw3.NameRunes', WHERE WHAT IT READS IS OF BULK AT MOST 1048576: true; the input reads as it did. -/
def nameRunesUptoRow : OpenClaim := { program := "ytbdbmigkcpgmkaadoor", sum := "a3d190365360bdc86619b94a1e966acac76362e1180fe4b78ec06d61d3f78cc7", func := "jotter/jotterlaw3.NameRunes", spec := "nameRunes", unfollowed := true, recurses := true, named := ["unicode/utf8.first", "unicode/utf8.acceptRanges"], apart := false, laid := [("unicode/utf8.acceptRanges", laid_unicode_utf8_acceptRanges), ("unicode/utf8.first", laid_unicode_utf8_first)], narrowed := true }
def NameRunesUptoSaid : Prop := nameRunesUptoRow.holds Tryd.pinned (OpenSpec.upto nameRunesSpec)

/-- 'jotterlaw19.CodingLays', WHERE WHAT IT READS IS OF BULK AT MOST 1048576: true; the input reads as it did. -/
def codingLaysUptoRow : OpenClaim := { program := "ytbdbmigkcpgmkaadoor", sum := "a3d190365360bdc86619b94a1e966acac76362e1180fe4b78ec06d61d3f78cc7", func := "jotter/jotterlaw19.CodingLays", spec := "codingLays", unfollowed := true, recurses := true, named := ["unicode/utf8.first", "unicode/utf8.acceptRanges"], apart := false, laid := [("unicode/utf8.acceptRanges", laid_unicode_utf8_acceptRanges), ("unicode/utf8.first", laid_unicode_utf8_first)], narrowed := true }
def CodingLaysUptoSaid : Prop := codingLaysUptoRow.holds Tryd.pinned (OpenSpec.upto codingLaysSpec)

/-- 'jotterlaw19.CodingReads', WHERE WHAT IT READS IS OF BULK AT MOST 1048576: true; the input reads as it did. -/
def codingReadsUptoRow : OpenClaim := { program := "ytbdbmigkcpgmkaadoor", sum := "a3d190365360bdc86619b94a1e966acac76362e1180fe4b78ec06d61d3f78cc7", func := "jotter/jotterlaw19.CodingReads", spec := "codingReads", unfollowed := true, recurses := true, named := ["unicode/utf8.first", "unicode/utf8.acceptRanges"], apart := false, laid := [("unicode/utf8.acceptRanges", laid_unicode_utf8_acceptRanges), ("unicode/utf8.first", laid_unicode_utf8_first)], narrowed := true }
def CodingReadsUptoSaid : Prop := codingReadsUptoRow.holds Tryd.pinned (OpenSpec.upto codingReadsSpec)

/-- 'jotterlaw19.CodingBack', WHERE WHAT IT READS IS OF BULK AT MOST 1048576: true; the input reads as it did. -/
def codingBackUptoRow : OpenClaim := { program := "ytbdbmigkcpgmkaadoor", sum := "a3d190365360bdc86619b94a1e966acac76362e1180fe4b78ec06d61d3f78cc7", func := "jotter/jotterlaw19.CodingBack", spec := "codingBack", unfollowed := true, recurses := true, named := ["unicode/utf8.first", "unicode/utf8.acceptRanges"], apart := false, laid := [("unicode/utf8.acceptRanges", laid_unicode_utf8_acceptRanges), ("unicode/utf8.first", laid_unicode_utf8_first)], narrowed := true }
def CodingBackUptoSaid : Prop := codingBackUptoRow.holds Tryd.pinned (OpenSpec.upto codingBackSpec)

/-- 'jotterlaw19.CodingUnlike', WHERE WHAT IT READS IS OF BULK AT MOST 1048576: true; the input reads as it did. -/
def codingUnlikeUptoRow : OpenClaim := { program := "ytbdbmigkcpgmkaadoor", sum := "a3d190365360bdc86619b94a1e966acac76362e1180fe4b78ec06d61d3f78cc7", func := "jotter/jotterlaw19.CodingUnlike", spec := "codingUnlike", unfollowed := true, recurses := true, named := ["unicode/utf8.first", "unicode/utf8.acceptRanges"], apart := false, laid := [("unicode/utf8.acceptRanges", laid_unicode_utf8_acceptRanges), ("unicode/utf8.first", laid_unicode_utf8_first)], narrowed := true }
def CodingUnlikeUptoSaid : Prop := codingUnlikeUptoRow.holds Tryd.pinned (OpenSpec.upto codingUnlikeSpec)

/-- 'jotterlaw19.CodingSizes', WHERE WHAT IT READS IS OF BULK AT MOST 1048576: true; the input reads as it did. -/
def codingSizesUptoRow : OpenClaim := { program := "ytbdbmigkcpgmkaadoor", sum := "a3d190365360bdc86619b94a1e966acac76362e1180fe4b78ec06d61d3f78cc7", func := "jotter/jotterlaw19.CodingSizes", spec := "codingSizes", unfollowed := true, recurses := true, named := ["unicode/utf8.first", "unicode/utf8.acceptRanges"], apart := false, laid := [("unicode/utf8.acceptRanges", laid_unicode_utf8_acceptRanges), ("unicode/utf8.first", laid_unicode_utf8_first)], narrowed := true }
def CodingSizesUptoSaid : Prop := codingSizesUptoRow.holds Tryd.pinned (OpenSpec.upto codingSizesSpec)

end Rows
end Go.Proofs.YtbdbmigkcpgmkaaDoor
