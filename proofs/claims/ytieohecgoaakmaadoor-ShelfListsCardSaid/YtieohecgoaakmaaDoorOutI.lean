/- What Books, Notes and a change answer, as a reader sees them; with the rows of the shelf. -/
import Derived.Test.YtieohecgoaakmaaDoorOut
import Derived.Test.YtieohecgoaakmaaDoorBooks
import Derived.Test.YtieohecgoaakmaaDoorAwakeS
set_option linter.unusedVariables false
set_option linter.unusedSimpArgs false
namespace Go.Proofs.YtieohecgoaakmaaDoor
open Go.RowKit Go.Lib
def OutI (M : List Item) (E : Int) (w : World) (e : Ending) (w' : World) : Prop := ∃ ia ic, Grow w w' ∧ e = .returned (.tuple #[.slice ia M.length ic, .int .i64 E]) ∧ Items w' (.slice ia M.length ic) M
theorem notes_out (s : Shelf) (bv nv : Value) (id : Int) (w : World) (h : ShelfR w s bv nv) (hz : TameS s) (hT : Tabs w) {M : List Item} {E : Int} (hM : notesI s id = M) (hE : dropE s id = E) :
    Calls Tryd.prog 13 #[shelfV s bv nv, .int .i64 id] w (OutI M E w) := by
  subst hM hE
  refine (notes_any s bv nv id w h hz hT).mono ?_
  rintro e w' ⟨v, rfl, g, hr⟩
  obtain ⟨ia, ic, rfl, -⟩ := hr.slice
  exact ⟨ia, ic, g, rfl, row_items hr⟩
theorem books_out (s : Shelf) (bv nv : Value) (w : World) (h : ShelfR w s bv nv) (hz : TameS s) (hT : Tabs w) {M : List Item} (hM : booksI s = M) :
    Calls Tryd.prog 12 #[shelfV s bv nv] w fun e w' => ∃ ia ic, Grow w w' ∧ e = .returned (.slice ia M.length ic) ∧ Items w' (.slice ia M.length ic) M := by
  subst hM
  refine (books_any s bv nv w h hz hT).mono ?_
  rintro e w' ⟨v, rfl, g, hr⟩
  obtain ⟨ia, ic, rfl, -⟩ := hr.slice
  exact ⟨ia, ic, g, rfl, row_items hr⟩
def OutC2 (S : Shelf) (E : Int) (w : World) (e : Ending) (w' : World) : Prop := ∃ xa xc ya yc Y, Grow w w' ∧ e = .returned (.tuple #[.agg #[.int .i64 S.nb, .int .i64 S.nn, .int .i64 S.ns, .slice xa S.books.length xc, .slice ya S.notes.length yc], .int .i64 E]) ∧ OwnS w.heap.size (.slice xa S.books.length xc) (.slice ya S.notes.length yc) S.books Y w' ∧ Y.map NV.n = S.notes
theorem RetC.out2 {r : Res} {S : Shelf} {N E : Int} (hr : r = ⟨S, N, E⟩) {w w' : World} {e : Ending} (h : RetC r w e w') : OutC2 S E w e w' := by
  subst hr
  obtain ⟨g, bv, nv, Y, rfl, ho, hm⟩ := h
  have ho2 := ho
  obtain ⟨h1, h2⟩ := ho.reads
  rw [hm] at h2
  obtain ⟨xa, xc, rfl⟩ := h1.mk
  obtain ⟨ya, yc, rfl⟩ := h2.mk
  exact ⟨xa, xc, ya, yc, Y, g, rfl, ho2, hm⟩
end Go.Proofs.YtieohecgoaakmaaDoor
