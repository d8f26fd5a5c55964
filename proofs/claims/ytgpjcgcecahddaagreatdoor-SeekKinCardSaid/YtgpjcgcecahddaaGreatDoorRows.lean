/-
  NARROWER THAN 'FOR EVERY INPUT', by the rows' own cells (each row's printed sentence says how): SeekTells: laid · SeekTurns: laid · SeekWords: laid · SeekKin: laid · SeekMore: laid · SeekJoins: laid.
  DERIVED. THE GIVEN ROWS OF THIS SEAT. 6 by the template 'for every input the law returns true; each argument reads behind the call as it read before'; 0 by the template 'total and deterministic' (their statements: YtgpjcgcecahddaaGreatDoorTotals.lean).
  GIVEN WITH THE SEED: the statements are not yours to turn. If you find one false, say at which input.
  Laid BY PROGRAM, IN A SANDBOX (cutbox-rows.mjs): the forced cells as the released guide's own fill.sh prints them over the translation fd3eeaf16a2b3d12… (all of the seat's roots in one cut). By AI agents, Wed Nov 11 2026. No macro, syntax, notation, axiom, sorry.
-/
import Derived.Test.YtgpjcgcecahddaaGreatDoorChecked
import GoSem.PinnedTables
import GoSem.Claim
import GoSem.ClaimJoined
import GoSem.ClaimMapViews
import Derived.JoinedTies
import Derived.KernelRfl
namespace Go.Proofs.YtgpjcgcecahddaaGreatDoor
/- THE CELL 'sum', in the pinned program and in every row, IS THE sha256 OF THE DUMP (.gsa) THAT YtgpjcgcecahddaaGreatDoorProg.lean LOADS. Nothing in Lean hashes anything: it is a label: what it is worth is what the hold of that sum in a sandbox is worth. -/
noncomputable def Tryz.pinned : Pinned := { name := "ytgpjcgcecahddaagreatdoor", sum := "fd3eeaf16a2b3d12699cddeedf95534aa4dcaa5c15b9abce67b85181ea14e990", checked := Tryz.checked }
namespace Rows
def none {H : Type} : Left H := { results := [], args := [] }

/- WHAT THE LISTED PACKAGE-LEVEL VARIABLES READ AS WHEN THE CALL BEGINS. Each datum BY PROGRAM (the guide's laid-datum.mjs) off the statement by which the dump's own 'gosem.cut.vars' lays the variable. In a bare row this is a premise. The card (YtgpjcgcecahddaaGreatDoorCards.lean) ties it to the program's text. -/
def laid_unicode_utf8_acceptRanges {H : Type} : DataW H := .agg [.agg [.lit (.int .u8 128), .lit (.int .u8 191)], .agg [.lit (.int .u8 160), .lit (.int .u8 191)], .agg [.lit (.int .u8 128), .lit (.int .u8 159)], .agg [.lit (.int .u8 144), .lit (.int .u8 191)], .agg [.lit (.int .u8 128), .lit (.int .u8 143)], .agg [.lit (.int .u8 0), .lit (.int .u8 0)], .agg [.lit (.int .u8 0), .lit (.int .u8 0)], .agg [.lit (.int .u8 0), .lit (.int .u8 0)], .agg [.lit (.int .u8 0), .lit (.int .u8 0)], .agg [.lit (.int .u8 0), .lit (.int .u8 0)], .agg [.lit (.int .u8 0), .lit (.int .u8 0)], .agg [.lit (.int .u8 0), .lit (.int .u8 0)], .agg [.lit (.int .u8 0), .lit (.int .u8 0)], .agg [.lit (.int .u8 0), .lit (.int .u8 0)], .agg [.lit (.int .u8 0), .lit (.int .u8 0)], .agg [.lit (.int .u8 0), .lit (.int .u8 0)]]
/-- One of Go's own tables, pinned by name: the form's constant. -/
def laid_unicode_utf8_first : DataW Unit := Go.Pinned.utf8First

/-- 'jotterlaw26.SeekTells': WHATEVER THE INPUT: true; the input reads as it did. -/
def seekTellsSpec : ChangeSpec := { name := "seekTells", fn := fun _ => fun
  | [d1, d2, d3, d4] => { results := [.lit (.bool true)], args := [d1, d2, d3, d4] }
  | _ => none }
def seekTellsRow : OpenClaim := { program := "ytgpjcgcecahddaagreatdoor", sum := "fd3eeaf16a2b3d12699cddeedf95534aa4dcaa5c15b9abce67b85181ea14e990", func := "jotter/jotterlaw26.SeekTells", spec := "seekTells", inPlace := ["internal/bytealg.CountString", "internal/bytealg.IndexByteString", "internal/bytealg.IndexString"], unfollowed := true, recurses := true, named := ["unicode/utf8.first", "unicode/utf8.acceptRanges", "internal/bytealg.MaxLen"], apart := false, laid := [("unicode/utf8.acceptRanges", laid_unicode_utf8_acceptRanges), ("unicode/utf8.first", laid_unicode_utf8_first)] }
def SeekTellsSaid : Prop := seekTellsRow.holds Tryz.pinned (OpenSpec.ofChange seekTellsSpec)

/-- ITS FALSE NEIGHBOUR: 'it returns false'. Refute it at one input. -/
def seekTellsWrong : ChangeSpec := { name := "seekTells", fn := fun _ => fun
  | [d1, d2, d3, d4] => { results := [.lit (.bool false)], args := [d1, d2, d3, d4] }
  | _ => none }
def SeekTellsWrongFalsely : Prop := seekTellsRow.holds Tryz.pinned (OpenSpec.ofChange seekTellsWrong)

/-- 'jotterlaw26.SeekTurns': WHATEVER THE INPUT: true; the input reads as it did. -/
def seekTurnsSpec : ChangeSpec := { name := "seekTurns", fn := fun _ => fun
  | [d1, d2, d3] => { results := [.lit (.bool true)], args := [d1, d2, d3] }
  | _ => none }
def seekTurnsRow : OpenClaim := { program := "ytgpjcgcecahddaagreatdoor", sum := "fd3eeaf16a2b3d12699cddeedf95534aa4dcaa5c15b9abce67b85181ea14e990", func := "jotter/jotterlaw26.SeekTurns", spec := "seekTurns", inPlace := ["internal/bytealg.CountString", "internal/bytealg.IndexByteString", "internal/bytealg.IndexString"], unfollowed := true, recurses := true, named := ["unicode/utf8.first", "unicode/utf8.acceptRanges", "internal/bytealg.MaxLen"], apart := false, laid := [("unicode/utf8.acceptRanges", laid_unicode_utf8_acceptRanges), ("unicode/utf8.first", laid_unicode_utf8_first)] }
def SeekTurnsSaid : Prop := seekTurnsRow.holds Tryz.pinned (OpenSpec.ofChange seekTurnsSpec)

/-- ITS FALSE NEIGHBOUR: 'it returns false'. Refute it at one input. -/
def seekTurnsWrong : ChangeSpec := { name := "seekTurns", fn := fun _ => fun
  | [d1, d2, d3] => { results := [.lit (.bool false)], args := [d1, d2, d3] }
  | _ => none }
def SeekTurnsWrongFalsely : Prop := seekTurnsRow.holds Tryz.pinned (OpenSpec.ofChange seekTurnsWrong)

/-- 'jotterlaw26.SeekWords': WHATEVER THE INPUT: true; the input reads as it did. -/
def seekWordsSpec : ChangeSpec := { name := "seekWords", fn := fun _ => fun
  | [d1, d2, d3] => { results := [.lit (.bool true)], args := [d1, d2, d3] }
  | _ => none }
def seekWordsRow : OpenClaim := { program := "ytgpjcgcecahddaagreatdoor", sum := "fd3eeaf16a2b3d12699cddeedf95534aa4dcaa5c15b9abce67b85181ea14e990", func := "jotter/jotterlaw26.SeekWords", spec := "seekWords", inPlace := ["internal/bytealg.CountString", "internal/bytealg.IndexByteString", "internal/bytealg.IndexString"], unfollowed := true, recurses := true, named := ["unicode/utf8.first", "unicode/utf8.acceptRanges", "internal/bytealg.MaxLen"], apart := false, laid := [("unicode/utf8.acceptRanges", laid_unicode_utf8_acceptRanges), ("unicode/utf8.first", laid_unicode_utf8_first)] }
def SeekWordsSaid : Prop := seekWordsRow.holds Tryz.pinned (OpenSpec.ofChange seekWordsSpec)

/-- ITS FALSE NEIGHBOUR: 'it returns false'. Refute it at one input. -/
def seekWordsWrong : ChangeSpec := { name := "seekWords", fn := fun _ => fun
  | [d1, d2, d3] => { results := [.lit (.bool false)], args := [d1, d2, d3] }
  | _ => none }
def SeekWordsWrongFalsely : Prop := seekWordsRow.holds Tryz.pinned (OpenSpec.ofChange seekWordsWrong)

/-- 'jotterlaw26.SeekKin': WHATEVER THE INPUT: true; the input reads as it did. -/
def seekKinSpec : ChangeSpec := { name := "seekKin", fn := fun _ => fun
  | [d1, d2] => { results := [.lit (.bool true)], args := [d1, d2] }
  | _ => none }
def seekKinRow : OpenClaim := { program := "ytgpjcgcecahddaagreatdoor", sum := "fd3eeaf16a2b3d12699cddeedf95534aa4dcaa5c15b9abce67b85181ea14e990", func := "jotter/jotterlaw26.SeekKin", spec := "seekKin", inPlace := ["internal/bytealg.CountString", "internal/bytealg.IndexByteString", "internal/bytealg.IndexString"], unfollowed := true, recurses := true, named := ["unicode/utf8.first", "unicode/utf8.acceptRanges", "internal/bytealg.MaxLen"], apart := false, laid := [("unicode/utf8.acceptRanges", laid_unicode_utf8_acceptRanges), ("unicode/utf8.first", laid_unicode_utf8_first)] }
def SeekKinSaid : Prop := seekKinRow.holds Tryz.pinned (OpenSpec.ofChange seekKinSpec)

/-- ITS FALSE NEIGHBOUR: 'it returns false'. Refute it at one input. -/
def seekKinWrong : ChangeSpec := { name := "seekKin", fn := fun _ => fun
  | [d1, d2] => { results := [.lit (.bool false)], args := [d1, d2] }
  | _ => none }
def SeekKinWrongFalsely : Prop := seekKinRow.holds Tryz.pinned (OpenSpec.ofChange seekKinWrong)

/-- 'jotterlaw26.SeekMore': WHATEVER THE INPUT: true; the input reads as it did. -/
def seekMoreSpec : ChangeSpec := { name := "seekMore", fn := fun _ => fun
  | [d1, d2, d3] => { results := [.lit (.bool true)], args := [d1, d2, d3] }
  | _ => none }
def seekMoreRow : OpenClaim := { program := "ytgpjcgcecahddaagreatdoor", sum := "fd3eeaf16a2b3d12699cddeedf95534aa4dcaa5c15b9abce67b85181ea14e990", func := "jotter/jotterlaw26.SeekMore", spec := "seekMore", inPlace := ["internal/bytealg.CountString", "internal/bytealg.IndexByteString", "internal/bytealg.IndexString"], unfollowed := true, recurses := true, named := ["unicode/utf8.first", "unicode/utf8.acceptRanges", "internal/bytealg.MaxLen"], apart := false, laid := [("unicode/utf8.acceptRanges", laid_unicode_utf8_acceptRanges), ("unicode/utf8.first", laid_unicode_utf8_first)] }
def SeekMoreSaid : Prop := seekMoreRow.holds Tryz.pinned (OpenSpec.ofChange seekMoreSpec)

/-- ITS FALSE NEIGHBOUR: 'it returns false'. Refute it at one input. -/
def seekMoreWrong : ChangeSpec := { name := "seekMore", fn := fun _ => fun
  | [d1, d2, d3] => { results := [.lit (.bool false)], args := [d1, d2, d3] }
  | _ => none }
def SeekMoreWrongFalsely : Prop := seekMoreRow.holds Tryz.pinned (OpenSpec.ofChange seekMoreWrong)

/-- 'jotterlaw26.SeekJoins': WHATEVER THE INPUT: true; the input reads as it did. -/
def seekJoinsSpec : ChangeSpec := { name := "seekJoins", fn := fun _ => fun
  | [d1, d2] => { results := [.lit (.bool true)], args := [d1, d2] }
  | _ => none }
def seekJoinsRow : OpenClaim := { program := "ytgpjcgcecahddaagreatdoor", sum := "fd3eeaf16a2b3d12699cddeedf95534aa4dcaa5c15b9abce67b85181ea14e990", func := "jotter/jotterlaw26.SeekJoins", spec := "seekJoins", inPlace := ["internal/bytealg.CountString", "internal/bytealg.IndexByteString", "internal/bytealg.IndexString"], unfollowed := true, recurses := true, named := ["unicode/utf8.first", "unicode/utf8.acceptRanges", "internal/bytealg.MaxLen"], apart := false, laid := [("unicode/utf8.acceptRanges", laid_unicode_utf8_acceptRanges), ("unicode/utf8.first", laid_unicode_utf8_first)] }
def SeekJoinsSaid : Prop := seekJoinsRow.holds Tryz.pinned (OpenSpec.ofChange seekJoinsSpec)

/-- ITS FALSE NEIGHBOUR: 'it returns false'. Refute it at one input. -/
def seekJoinsWrong : ChangeSpec := { name := "seekJoins", fn := fun _ => fun
  | [d1, d2] => { results := [.lit (.bool false)], args := [d1, d2] }
  | _ => none }
def SeekJoinsWrongFalsely : Prop := seekJoinsRow.holds Tryz.pinned (OpenSpec.ofChange seekJoinsWrong)

/- THE SECOND FORM. 'bulk': how many values and letters a reading holds, each counted each time it is reached (what is shared counts as often as it is met; a slice's spare places count too). A statement '..UptoSaid' is the law's where the arguments, and the package variables that the reading takes, are together of bulk at most 1048576: NARROWER than '..Said'. Prove '..Said' where nothing that the law and all that it calls make is longer than what came in: it says more and counts as full. Else prove '..UptoSaid'. A law counts once. -/
mutual
def uptoBulk {H : Type} : DataW H → Nat
  | .lit (.string bytes) => bytes.length + 1
  | .lit _ => 1
  | .nil => 1
  | .ptr d => uptoBulk d + 1
  | .slice elems spare => uptoBulkAll elems + uptoBulkAll spare + 1
  | .agg parts => uptoBulkAll parts + 1
  | .iface _ d => uptoBulk d + 1
  | .map entries => uptoBulkEntries entries + 1
  | .held _ => 1
def uptoBulkAll {H : Type} : List (DataW H) → Nat
  | [] => 0
  | d :: r => uptoBulk d + uptoBulkAll r
def uptoBulkEntries {H : Type} : List (Lit × DataW H) → Nat
  | [] => 0
  | x :: r => uptoBulkEntry x + uptoBulkEntries r
def uptoBulkEntry {H : Type} : Lit × DataW H → Nat
  | (.string bytes, d) => bytes.length + uptoBulk d + 1
  | (_, d) => uptoBulk d + 1
 end
def uptoSmall : (H : Type) → List (DataW H) → Bool := fun _ ds => decide (uptoBulkAll ds ≤ 1048576)
def OpenSpec.upto (s : _root_.Go.ChangeSpec) : _root_.Go.OpenSpec := { _root_.Go.OpenSpec.ofChange s with cond := some uptoSmall }

/-- 'jotterlaw26.SeekTells', WHERE WHAT IT READS IS OF BULK AT MOST 1048576: true; the input reads as it did. -/
def seekTellsUptoRow : OpenClaim := { program := "ytgpjcgcecahddaagreatdoor", sum := "fd3eeaf16a2b3d12699cddeedf95534aa4dcaa5c15b9abce67b85181ea14e990", func := "jotter/jotterlaw26.SeekTells", spec := "seekTells", inPlace := ["internal/bytealg.CountString", "internal/bytealg.IndexByteString", "internal/bytealg.IndexString"], unfollowed := true, recurses := true, named := ["unicode/utf8.first", "unicode/utf8.acceptRanges", "internal/bytealg.MaxLen"], apart := false, laid := [("unicode/utf8.acceptRanges", laid_unicode_utf8_acceptRanges), ("unicode/utf8.first", laid_unicode_utf8_first)], narrowed := true }
def SeekTellsUptoSaid : Prop := seekTellsUptoRow.holds Tryz.pinned (OpenSpec.upto seekTellsSpec)

/-- 'jotterlaw26.SeekTurns', WHERE WHAT IT READS IS OF BULK AT MOST 1048576: true; the input reads as it did. -/
def seekTurnsUptoRow : OpenClaim := { program := "ytgpjcgcecahddaagreatdoor", sum := "fd3eeaf16a2b3d12699cddeedf95534aa4dcaa5c15b9abce67b85181ea14e990", func := "jotter/jotterlaw26.SeekTurns", spec := "seekTurns", inPlace := ["internal/bytealg.CountString", "internal/bytealg.IndexByteString", "internal/bytealg.IndexString"], unfollowed := true, recurses := true, named := ["unicode/utf8.first", "unicode/utf8.acceptRanges", "internal/bytealg.MaxLen"], apart := false, laid := [("unicode/utf8.acceptRanges", laid_unicode_utf8_acceptRanges), ("unicode/utf8.first", laid_unicode_utf8_first)], narrowed := true }
def SeekTurnsUptoSaid : Prop := seekTurnsUptoRow.holds Tryz.pinned (OpenSpec.upto seekTurnsSpec)

/-- 'jotterlaw26.SeekWords', WHERE WHAT IT READS IS OF BULK AT MOST 1048576: true; the input reads as it did. -/
def seekWordsUptoRow : OpenClaim := { program := "ytgpjcgcecahddaagreatdoor", sum := "fd3eeaf16a2b3d12699cddeedf95534aa4dcaa5c15b9abce67b85181ea14e990", func := "jotter/jotterlaw26.SeekWords", spec := "seekWords", inPlace := ["internal/bytealg.CountString", "internal/bytealg.IndexByteString", "internal/bytealg.IndexString"], unfollowed := true, recurses := true, named := ["unicode/utf8.first", "unicode/utf8.acceptRanges", "internal/bytealg.MaxLen"], apart := false, laid := [("unicode/utf8.acceptRanges", laid_unicode_utf8_acceptRanges), ("unicode/utf8.first", laid_unicode_utf8_first)], narrowed := true }
def SeekWordsUptoSaid : Prop := seekWordsUptoRow.holds Tryz.pinned (OpenSpec.upto seekWordsSpec)

/-- 'jotterlaw26.SeekKin', WHERE WHAT IT READS IS OF BULK AT MOST 1048576: true; the input reads as it did. -/
def seekKinUptoRow : OpenClaim := { program := "ytgpjcgcecahddaagreatdoor", sum := "fd3eeaf16a2b3d12699cddeedf95534aa4dcaa5c15b9abce67b85181ea14e990", func := "jotter/jotterlaw26.SeekKin", spec := "seekKin", inPlace := ["internal/bytealg.CountString", "internal/bytealg.IndexByteString", "internal/bytealg.IndexString"], unfollowed := true, recurses := true, named := ["unicode/utf8.first", "unicode/utf8.acceptRanges", "internal/bytealg.MaxLen"], apart := false, laid := [("unicode/utf8.acceptRanges", laid_unicode_utf8_acceptRanges), ("unicode/utf8.first", laid_unicode_utf8_first)], narrowed := true }
def SeekKinUptoSaid : Prop := seekKinUptoRow.holds Tryz.pinned (OpenSpec.upto seekKinSpec)

/-- 'jotterlaw26.SeekMore', WHERE WHAT IT READS IS OF BULK AT MOST 1048576: true; the input reads as it did. -/
def seekMoreUptoRow : OpenClaim := { program := "ytgpjcgcecahddaagreatdoor", sum := "fd3eeaf16a2b3d12699cddeedf95534aa4dcaa5c15b9abce67b85181ea14e990", func := "jotter/jotterlaw26.SeekMore", spec := "seekMore", inPlace := ["internal/bytealg.CountString", "internal/bytealg.IndexByteString", "internal/bytealg.IndexString"], unfollowed := true, recurses := true, named := ["unicode/utf8.first", "unicode/utf8.acceptRanges", "internal/bytealg.MaxLen"], apart := false, laid := [("unicode/utf8.acceptRanges", laid_unicode_utf8_acceptRanges), ("unicode/utf8.first", laid_unicode_utf8_first)], narrowed := true }
def SeekMoreUptoSaid : Prop := seekMoreUptoRow.holds Tryz.pinned (OpenSpec.upto seekMoreSpec)

/-- 'jotterlaw26.SeekJoins', WHERE WHAT IT READS IS OF BULK AT MOST 1048576: true; the input reads as it did. -/
def seekJoinsUptoRow : OpenClaim := { program := "ytgpjcgcecahddaagreatdoor", sum := "fd3eeaf16a2b3d12699cddeedf95534aa4dcaa5c15b9abce67b85181ea14e990", func := "jotter/jotterlaw26.SeekJoins", spec := "seekJoins", inPlace := ["internal/bytealg.CountString", "internal/bytealg.IndexByteString", "internal/bytealg.IndexString"], unfollowed := true, recurses := true, named := ["unicode/utf8.first", "unicode/utf8.acceptRanges", "internal/bytealg.MaxLen"], apart := false, laid := [("unicode/utf8.acceptRanges", laid_unicode_utf8_acceptRanges), ("unicode/utf8.first", laid_unicode_utf8_first)], narrowed := true }
def SeekJoinsUptoSaid : Prop := seekJoinsUptoRow.holds Tryz.pinned (OpenSpec.upto seekJoinsSpec)

end Rows
end Go.Proofs.YtgpjcgcecahddaaGreatDoor
