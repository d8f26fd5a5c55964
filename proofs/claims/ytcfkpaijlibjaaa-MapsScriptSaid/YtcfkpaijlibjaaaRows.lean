/-
  No cell of these rows narrows 'for every input' (looked for: loops, veiled, ifaces, maps, wideKeys, modest, calm, conditions, laid).
  DERIVED. THE GIVEN ROWS OF THIS SEAT. 8 by the template 'for every input the law returns true; each argument reads behind the call as it read before'; 0 by the template 'total and deterministic' (their statements: YtcfkpaijlibjaaaTotals.lean).
  GIVEN WITH THE SEED: the statements are not yours to turn. If you find one false, say at which input.
  Laid BY PROGRAM, IN A SANDBOX (cutbox-rows.mjs): the forced cells as the released guide's own fill.sh prints them over the translation c0cd78be7809e4e5… (all of the seat's roots in one cut). By AI agents, Wed Nov 11 2026. No macro, syntax, notation, axiom, sorry.
-/
import Derived.Test.YtcfkpaijlibjaaaChecked
import GoSem.Claim
import GoSem.ClaimJoined
import GoSem.ClaimMapViews
import Derived.JoinedTies
import Derived.KernelRfl
namespace Go.Proofs.Ytcfkpaijlibjaaa
/- THE CELL 'sum', in the pinned program and in every row, IS THE sha256 OF THE DUMP (.gsa) THAT YtcfkpaijlibjaaaProg.lean LOADS. Nothing in Lean hashes anything: it is a label: what it is worth is what the hold of that sum in a sandbox is worth. -/
noncomputable def Try.pinned : Pinned := { name := "ytcfkpaijlibjaaa", sum := "c0cd78be7809e4e57e17f1f95cec9e077c5352fd5ad9af94c0994386f1561973", checked := Try.checked }
namespace Rows
def none {H : Type} : Left H := { results := [], args := [] }

/-- 'jotterlaw10.RankOrder': WHATEVER THE INPUT: true; the input reads as it did. -/
def rankOrderSpec : ChangeSpec := { name := "rankOrder", fn := fun _ => fun
  | [d1, d2] => { results := [.lit (.bool true)], args := [d1, d2] }
  | _ => none }
def rankOrderRow : OpenClaim := { program := "ytcfkpaijlibjaaa", sum := "c0cd78be7809e4e57e17f1f95cec9e077c5352fd5ad9af94c0994386f1561973", func := "jotter/jotterlaw10.RankOrder", spec := "rankOrder", unfollowed := true, recurses := true, plainKeys := false, apart := false }
def RankOrderSaid : Prop := rankOrderRow.holds Try.pinned (OpenSpec.ofChange rankOrderSpec)

/-- ITS FALSE NEIGHBOUR: 'it returns false'. Refute it at one input. -/
def rankOrderWrong : ChangeSpec := { name := "rankOrder", fn := fun _ => fun
  | [d1, d2] => { results := [.lit (.bool false)], args := [d1, d2] }
  | _ => none }
def RankOrderWrongFalsely : Prop := rankOrderRow.holds Try.pinned (OpenSpec.ofChange rankOrderWrong)

/-- 'jotterlaw10.RankCopies': WHATEVER THE INPUT: true; the input reads as it did. -/
def rankCopiesSpec : ChangeSpec := { name := "rankCopies", fn := fun _ => fun
  | [d1, d2, d3] => { results := [.lit (.bool true)], args := [d1, d2, d3] }
  | _ => none }
def rankCopiesRow : OpenClaim := { program := "ytcfkpaijlibjaaa", sum := "c0cd78be7809e4e57e17f1f95cec9e077c5352fd5ad9af94c0994386f1561973", func := "jotter/jotterlaw10.RankCopies", spec := "rankCopies", unfollowed := true, recurses := true, plainKeys := false, apart := false }
def RankCopiesSaid : Prop := rankCopiesRow.holds Try.pinned (OpenSpec.ofChange rankCopiesSpec)

/-- ITS FALSE NEIGHBOUR: 'it returns false'. Refute it at one input. -/
def rankCopiesWrong : ChangeSpec := { name := "rankCopies", fn := fun _ => fun
  | [d1, d2, d3] => { results := [.lit (.bool false)], args := [d1, d2, d3] }
  | _ => none }
def RankCopiesWrongFalsely : Prop := rankCopiesRow.holds Try.pinned (OpenSpec.ofChange rankCopiesWrong)

/-- 'jotterlaw10.RankCommits': WHATEVER THE INPUT: true; the input reads as it did. -/
def rankCommitsSpec : ChangeSpec := { name := "rankCommits", fn := fun _ => fun
  | [d1, d2, d3] => { results := [.lit (.bool true)], args := [d1, d2, d3] }
  | _ => none }
def rankCommitsRow : OpenClaim := { program := "ytcfkpaijlibjaaa", sum := "c0cd78be7809e4e57e17f1f95cec9e077c5352fd5ad9af94c0994386f1561973", func := "jotter/jotterlaw10.RankCommits", spec := "rankCommits", unfollowed := true, recurses := true, plainKeys := false, apart := false }
def RankCommitsSaid : Prop := rankCommitsRow.holds Try.pinned (OpenSpec.ofChange rankCommitsSpec)

/-- ITS FALSE NEIGHBOUR: 'it returns false'. Refute it at one input. -/
def rankCommitsWrong : ChangeSpec := { name := "rankCommits", fn := fun _ => fun
  | [d1, d2, d3] => { results := [.lit (.bool false)], args := [d1, d2, d3] }
  | _ => none }
def RankCommitsWrongFalsely : Prop := rankCommitsRow.holds Try.pinned (OpenSpec.ofChange rankCommitsWrong)

/-- 'jotterlaw10.RankNone': WHATEVER THE INPUT: true; the input reads as it did. -/
def rankNoneSpec : ChangeSpec := { name := "rankNone", fn := fun _ => fun
  | [d] => { results := [.lit (.bool true)], args := [d] }
  | _ => none }
def rankNoneRow : OpenClaim := { program := "ytcfkpaijlibjaaa", sum := "c0cd78be7809e4e57e17f1f95cec9e077c5352fd5ad9af94c0994386f1561973", func := "jotter/jotterlaw10.RankNone", spec := "rankNone", unfollowed := true, recurses := true, plainKeys := false, apart := false }
def RankNoneSaid : Prop := rankNoneRow.holds Try.pinned (OpenSpec.ofChange rankNoneSpec)

/-- ITS FALSE NEIGHBOUR: 'it returns false'. Refute it at one input. -/
def rankNoneWrong : ChangeSpec := { name := "rankNone", fn := fun _ => fun
  | [d] => { results := [.lit (.bool false)], args := [d] }
  | _ => none }
def RankNoneWrongFalsely : Prop := rankNoneRow.holds Try.pinned (OpenSpec.ofChange rankNoneWrong)

/-- 'jotterlaw10.RankTrims': WHATEVER THE INPUT: true; the input reads as it did. -/
def rankTrimsSpec : ChangeSpec := { name := "rankTrims", fn := fun _ => fun
  | [d1, d2] => { results := [.lit (.bool true)], args := [d1, d2] }
  | _ => none }
def rankTrimsRow : OpenClaim := { program := "ytcfkpaijlibjaaa", sum := "c0cd78be7809e4e57e17f1f95cec9e077c5352fd5ad9af94c0994386f1561973", func := "jotter/jotterlaw10.RankTrims", spec := "rankTrims", unfollowed := true, recurses := true, plainKeys := false, apart := false }
def RankTrimsSaid : Prop := rankTrimsRow.holds Try.pinned (OpenSpec.ofChange rankTrimsSpec)

/-- ITS FALSE NEIGHBOUR: 'it returns false'. Refute it at one input. -/
def rankTrimsWrong : ChangeSpec := { name := "rankTrims", fn := fun _ => fun
  | [d1, d2] => { results := [.lit (.bool false)], args := [d1, d2] }
  | _ => none }
def RankTrimsWrongFalsely : Prop := rankTrimsRow.holds Try.pinned (OpenSpec.ofChange rankTrimsWrong)

/-- 'jotterlaw13.MapsTurn': WHATEVER THE INPUT: true; the input reads as it did. -/
def mapsTurnSpec : ChangeSpec := { name := "mapsTurn", fn := fun _ => fun
  | [d1, d2] => { results := [.lit (.bool true)], args := [d1, d2] }
  | _ => none }
def mapsTurnRow : OpenClaim := { program := "ytcfkpaijlibjaaa", sum := "c0cd78be7809e4e57e17f1f95cec9e077c5352fd5ad9af94c0994386f1561973", func := "jotter/jotterlaw13.MapsTurn", spec := "mapsTurn", unfollowed := true, recurses := true, plainKeys := false, apart := false }
def MapsTurnSaid : Prop := mapsTurnRow.holds Try.pinned (OpenSpec.ofChange mapsTurnSpec)

/-- ITS FALSE NEIGHBOUR: 'it returns false'. Refute it at one input. -/
def mapsTurnWrong : ChangeSpec := { name := "mapsTurn", fn := fun _ => fun
  | [d1, d2] => { results := [.lit (.bool false)], args := [d1, d2] }
  | _ => none }
def MapsTurnWrongFalsely : Prop := mapsTurnRow.holds Try.pinned (OpenSpec.ofChange mapsTurnWrong)

/-- 'jotterlaw13.MapsScript': WHATEVER THE INPUT: true; the input reads as it did. -/
def mapsScriptSpec : ChangeSpec := { name := "mapsScript", fn := fun _ => fun
  | [d1, d2] => { results := [.lit (.bool true)], args := [d1, d2] }
  | _ => none }
def mapsScriptRow : OpenClaim := { program := "ytcfkpaijlibjaaa", sum := "c0cd78be7809e4e57e17f1f95cec9e077c5352fd5ad9af94c0994386f1561973", func := "jotter/jotterlaw13.MapsScript", spec := "mapsScript", inPlace := ["maps.clone"], unfollowed := true, recurses := true, plainKeys := false, apart := false }
def MapsScriptSaid : Prop := mapsScriptRow.holds Try.pinned (OpenSpec.ofChange mapsScriptSpec)

/-- ITS FALSE NEIGHBOUR: 'it returns false'. Refute it at one input. -/
def mapsScriptWrong : ChangeSpec := { name := "mapsScript", fn := fun _ => fun
  | [d1, d2] => { results := [.lit (.bool false)], args := [d1, d2] }
  | _ => none }
def MapsScriptWrongFalsely : Prop := mapsScriptRow.holds Try.pinned (OpenSpec.ofChange mapsScriptWrong)

/-- 'jotterlaw13.MapsNone': WHATEVER THE INPUT: true; the input reads as it did. -/
def mapsNoneSpec : ChangeSpec := { name := "mapsNone", fn := fun _ => fun
  | [d] => { results := [.lit (.bool true)], args := [d] }
  | _ => none }
def mapsNoneRow : OpenClaim := { program := "ytcfkpaijlibjaaa", sum := "c0cd78be7809e4e57e17f1f95cec9e077c5352fd5ad9af94c0994386f1561973", func := "jotter/jotterlaw13.MapsNone", spec := "mapsNone", inPlace := ["maps.clone"], unfollowed := true, recurses := true, plainKeys := false, apart := false }
def MapsNoneSaid : Prop := mapsNoneRow.holds Try.pinned (OpenSpec.ofChange mapsNoneSpec)

/-- ITS FALSE NEIGHBOUR: 'it returns false'. Refute it at one input. -/
def mapsNoneWrong : ChangeSpec := { name := "mapsNone", fn := fun _ => fun
  | [d] => { results := [.lit (.bool false)], args := [d] }
  | _ => none }
def MapsNoneWrongFalsely : Prop := mapsNoneRow.holds Try.pinned (OpenSpec.ofChange mapsNoneWrong)

/- THE SECOND FORM. 'bulk': how many values and letters a reading holds, each counted each time it is reached (what is shared counts as often as it is met; a slice's spare places count too). A statement '..UptoSaid' is the law's where the arguments, and the package variables that the reading takes, are together of bulk at most 1048576: NARROWER than '..Said'. Prove '..Said' where nothing that the law and all that it calls make is longer than what came in: it says more and counts as full. Else prove '..UptoSaid'. A law counts once. -/
mutual
def uptoBulk {H : Type} : DataW H → Nat
  | .lit (.string bytes) => bytes.length + 1
  | .lit _ => 1
  | .nil => 1
  | .ptr d => uptoBulk d + 1
  | .slice elems spare => uptoBulkAll elems + uptoBulkAll spare + 1
  | .agg parts => uptoBulkAll parts + 1
  | .iface _ d => uptoBulk d + 1
  | .map entries => uptoBulkEntries entries + 1
  | .held _ => 1
def uptoBulkAll {H : Type} : List (DataW H) → Nat
  | [] => 0
  | d :: r => uptoBulk d + uptoBulkAll r
def uptoBulkEntries {H : Type} : List (Lit × DataW H) → Nat
  | [] => 0
  | x :: r => uptoBulkEntry x + uptoBulkEntries r
def uptoBulkEntry {H : Type} : Lit × DataW H → Nat
  | (.string bytes, d) => bytes.length + uptoBulk d + 1
  | (_, d) => uptoBulk d + 1
 end
def uptoSmall : (H : Type) → List (DataW H) → Bool := fun _ ds => decide (uptoBulkAll ds ≤ 1048576)
def OpenSpec.upto (s : _root_.Go.ChangeSpec) : _root_.Go.OpenSpec := { _root_.Go.OpenSpec.ofChange s with cond := some uptoSmall }

/-- 'jotterlaw10.RankOrder', WHERE WHAT IT READS IS OF BULK AT MOST 1048576: true; the input reads as it did. -/
def rankOrderUptoRow : OpenClaim := { program := "ytcfkpaijlibjaaa", sum := "c0cd78be7809e4e57e17f1f95cec9e077c5352fd5ad9af94c0994386f1561973", func := "jotter/jotterlaw10.RankOrder", spec := "rankOrder", unfollowed := true, recurses := true, plainKeys := false, apart := false, narrowed := true }
def RankOrderUptoSaid : Prop := rankOrderUptoRow.holds Try.pinned (OpenSpec.upto rankOrderSpec)

/-- 'jotterlaw10.RankCopies', WHERE WHAT IT READS IS OF BULK AT MOST 1048576: true; the input reads as it did. -/
def rankCopiesUptoRow : OpenClaim := { program := "ytcfkpaijlibjaaa", sum := "c0cd78be7809e4e57e17f1f95cec9e077c5352fd5ad9af94c0994386f1561973", func := "jotter/jotterlaw10.RankCopies", spec := "rankCopies", unfollowed := true, recurses := true, plainKeys := false, apart := false, narrowed := true }
def RankCopiesUptoSaid : Prop := rankCopiesUptoRow.holds Try.pinned (OpenSpec.upto rankCopiesSpec)

/-- 'jotterlaw10.RankCommits', WHERE WHAT IT READS IS OF BULK AT MOST 1048576: true; the input reads as it did. -/
def rankCommitsUptoRow : OpenClaim := { program := "ytcfkpaijlibjaaa", sum := "c0cd78be7809e4e57e17f1f95cec9e077c5352fd5ad9af94c0994386f1561973", func := "jotter/jotterlaw10.RankCommits", spec := "rankCommits", unfollowed := true, recurses := true, plainKeys := false, apart := false, narrowed := true }
def RankCommitsUptoSaid : Prop := rankCommitsUptoRow.holds Try.pinned (OpenSpec.upto rankCommitsSpec)

/-- 'jotterlaw10.RankNone', WHERE WHAT IT READS IS OF BULK AT MOST 1048576: true; the input reads as it did. -/
def rankNoneUptoRow : OpenClaim := { program := "ytcfkpaijlibjaaa", sum := "c0cd78be7809e4e57e17f1f95cec9e077c5352fd5ad9af94c0994386f1561973", func := "jotter/jotterlaw10.RankNone", spec := "rankNone", unfollowed := true, recurses := true, plainKeys := false, apart := false, narrowed := true }
def RankNoneUptoSaid : Prop := rankNoneUptoRow.holds Try.pinned (OpenSpec.upto rankNoneSpec)

/-- 'jotterlaw10.RankTrims', WHERE WHAT IT READS IS OF BULK AT MOST 1048576: true; the input reads as it did. -/
def rankTrimsUptoRow : OpenClaim := { program := "ytcfkpaijlibjaaa", sum := "c0cd78be7809e4e57e17f1f95cec9e077c5352fd5ad9af94c0994386f1561973", func := "jotter/jotterlaw10.RankTrims", spec := "rankTrims", unfollowed := true, recurses := true, plainKeys := false, apart := false, narrowed := true }
def RankTrimsUptoSaid : Prop := rankTrimsUptoRow.holds Try.pinned (OpenSpec.upto rankTrimsSpec)

/-- 'jotterlaw13.MapsTurn', WHERE WHAT IT READS IS OF BULK AT MOST 1048576: true; the input reads as it did. -/
def mapsTurnUptoRow : OpenClaim := { program := "ytcfkpaijlibjaaa", sum := "c0cd78be7809e4e57e17f1f95cec9e077c5352fd5ad9af94c0994386f1561973", func := "jotter/jotterlaw13.MapsTurn", spec := "mapsTurn", unfollowed := true, recurses := true, plainKeys := false, apart := false, narrowed := true }
def MapsTurnUptoSaid : Prop := mapsTurnUptoRow.holds Try.pinned (OpenSpec.upto mapsTurnSpec)

/-- 'jotterlaw13.MapsScript', WHERE WHAT IT READS IS OF BULK AT MOST 1048576: true; the input reads as it did. -/
def mapsScriptUptoRow : OpenClaim := { program := "ytcfkpaijlibjaaa", sum := "c0cd78be7809e4e57e17f1f95cec9e077c5352fd5ad9af94c0994386f1561973", func := "jotter/jotterlaw13.MapsScript", spec := "mapsScript", inPlace := ["maps.clone"], unfollowed := true, recurses := true, plainKeys := false, apart := false, narrowed := true }
def MapsScriptUptoSaid : Prop := mapsScriptUptoRow.holds Try.pinned (OpenSpec.upto mapsScriptSpec)

/-- 'jotterlaw13.MapsNone', WHERE WHAT IT READS IS OF BULK AT MOST 1048576: true; the input reads as it did. -/
def mapsNoneUptoRow : OpenClaim := { program := "ytcfkpaijlibjaaa", sum := "c0cd78be7809e4e57e17f1f95cec9e077c5352fd5ad9af94c0994386f1561973", func := "jotter/jotterlaw13.MapsNone", spec := "mapsNone", inPlace := ["maps.clone"], unfollowed := true, recurses := true, plainKeys := false, apart := false, narrowed := true }
def MapsNoneUptoSaid : Prop := mapsNoneUptoRow.holds Try.pinned (OpenSpec.upto mapsNoneSpec)

end Rows
end Go.Proofs.Ytcfkpaijlibjaaa
