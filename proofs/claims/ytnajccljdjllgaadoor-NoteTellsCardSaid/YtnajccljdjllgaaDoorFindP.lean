/- shelf.Find. -/
import Derived.Test.YtnajccljdjllgaaDoorOwnW
import Derived.Test.YtnajccljdjllgaaDoorIdxN
import Derived.Test.YtnajccljdjllgaaDoorMay
set_option linter.unusedVariables false
set_option linter.unusedSimpArgs false
namespace Go.Proofs.YtnajccljdjllgaaDoor
open Go.RowKit Go.Lib
/-- What Find answers: a note of a copy, or none. -/
def RetFind (s : Shelf) (id : Int) (w : World) (e : Ending) (w' : World) : Prop :=
  Grow w w' ∧ ((∃ x bv nv Y y, mayS s = true ∧ 0 ≤ noteIx s id ∧ s.notes[(noteIx s id).toNat]? = some x ∧ e = .returned (.tuple #[noteV x y.tv y.sv, .bool true]) ∧ OwnS w.heap.size bv nv s.books Y w' ∧ Y.map NV.n = s.notes ∧ Y[(noteIx s id).toNat]? = some y ∧ y.n = x) ∨
    ((mayS s = false ∨ noteIx s id = -1) ∧ e = .returned (.tuple #[noteV ⟨0, 0, ⟨#[]⟩, [], []⟩ (.slice none 0 0) (.slice none 0 0), .bool false])))
/-- The result's cell, beside rows of the call's own. -/
def OwnN (base : Nat) (bv nv : Value) (X : List Book) (Y : List NV) (W0 : World) (D : Nat) (w : World) : Prop := Grow W0 w ∧ OwnS base bv nv X Y w ∧ blkOf nv ≠ some D ∧ ∃ cs : Array Value, w.heap[D]? = some (.cells cs 41 (0, 0))
theorem OwnN.set {base D : Nat} {bv nv : Value} {X : List Book} {Y : List NV} {W0 w : World} (h : OwnN base bv nv X Y W0 D w) (hD : W0.heap.size ≤ D) (j : Nat) (u : Value) : OwnN base bv nv X Y W0 D (w.setCell ⟨D, j, none⟩ u) := by
  obtain ⟨h0, h1, h2, cs, h3⟩ := h
  have ht : Turned D w (w.setCell ⟨D, j, none⟩ u) := ⟨rfl, rfl, rfl, by simp, fun i _ hb => heap_setCell_other w ⟨D, j, none⟩ i u hb⟩
  have hk := kept_of_turned h3 ht
  exact ⟨ht.grow h0 hD, ⟨h1.books.kept (by decide) hk, h1.notes.turned ht h2, fun y hy => (h1.tags y hy).kept (by decide) hk, fun y hy => (h1.sheets y hy).kept (by decide) hk, h1.tsep, h1.ssep⟩, h2, _, heap_setCell_same w D j _ _ _ h3⟩
theorem n5 {w : World} {b : Nat} {t : TypeId} {m : Nat × Nat} {u0 u1 u2 u3 u4 : Value} (hb : w.heap[b]? = some (.cells #[u0, u1, u2, u3, u4] t m)) :
    (w.cell? ⟨b, 0, none⟩ = some u0 ∧ w.cell? ⟨b, 1, none⟩ = some u1 ∧ w.cell? ⟨b, 2, none⟩ = some u2 ∧ w.cell? ⟨b, 3, none⟩ = some u3 ∧ w.cell? ⟨b, 4, none⟩ = some u4) ∧ b < w.heap.size :=
  ⟨sh5 hb, (Array.getElem?_eq_some_iff.1 hb).1⟩
abbrev noO : Obj := .cells #[.int .i64 0, .int .i64 0, .string ⟨#[]⟩, .slice none 0 0, .slice none 0 0] 41
end Go.Proofs.YtnajccljdjllgaaDoor
