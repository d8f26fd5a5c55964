/- What the changes answer, told to a reader; that they are no greater than what comes in. -/
import Derived.Test.YtnajccljdjllgaaDoorNBase
import Derived.Test.YtnajccljdjllgaaDoorGreat
set_option linter.unusedVariables false
set_option linter.unusedSimpArgs false
namespace Go.Proofs.YtnajccljdjllgaaDoor
open Go.RowKit Go.Lib
def OutC (S : Shelf) (E : Int) (w : World) (e : Ending) (w' : World) : Prop := ∃ xa xc ya yc, Grow w w' ∧ e = .returned (.tuple #[.agg #[.int .i64 S.nb, .int .i64 S.nn, .int .i64 S.ns, .slice xa S.books.length xc, .slice ya S.notes.length yc], .int .i64 E]) ∧ ShelfR w' S (.slice xa S.books.length xc) (.slice ya S.notes.length yc)
def OutM (S : Shelf) (N E : Int) (w : World) (e : Ending) (w' : World) : Prop := ∃ xa xc ya yc, Grow w w' ∧ e = .returned (.tuple #[.agg #[.int .i64 S.nb, .int .i64 S.nn, .int .i64 S.ns, .slice xa S.books.length xc, .slice ya S.notes.length yc], .int .i64 N, .int .i64 E]) ∧ ShelfR w' S (.slice xa S.books.length xc) (.slice ya S.notes.length yc)
theorem RetC.out {r : Res} {S : Shelf} {N E : Int} (hr : r = ⟨S, N, E⟩) {w w' : World} {e : Ending} (h : RetC r w e w') : OutC S E w e w' := by
  subst hr
  obtain ⟨g, bv, nv, Y, rfl, ho, hm⟩ := h
  obtain ⟨h1, h2⟩ := ho.reads
  rw [hm] at h2
  obtain ⟨xa, xc, rfl⟩ := h1.mk
  obtain ⟨ya, yc, rfl⟩ := h2.mk
  exact ⟨xa, xc, ya, yc, g, rfl, h1, h2⟩
theorem RetM.out {r : Res} {S : Shelf} {N E : Int} (hr : r = ⟨S, N, E⟩) {w w' : World} {e : Ending} (h : RetM r w e w') : OutM S N E w e w' := by
  subst hr
  obtain ⟨g, bv, nv, Y, rfl, ho, hm⟩ := h
  obtain ⟨h1, h2⟩ := ho.reads
  rw [hm] at h2
  obtain ⟨xa, xc, rfl⟩ := h1.mk
  obtain ⟨ya, yc, rfl⟩ := h2.mk
  exact ⟨xa, xc, ya, yc, g, rfl, h1, h2⟩
theorem res_mk (r : Res) : r = ⟨r.s, r.n, r.e⟩ := rfl
theorem zS_tame : TameS zS := ⟨⟨by simp [zS], by simp [zS], by simp [zS], by simp [zS]⟩, by simp [zS]⟩
theorem tame_res {e : Int} {s : Shelf} {n : Int} (h : e = 0 → MayP (resOf e s n).s) : TameS (resOf e s n).s := by
  by_cases h0 : e = 0
  · exact (h h0).tame
  · rw [resOf_no h0]; exact zS_tame
theorem make_tame (s : Shelf) (t : ByteArray) : TameS (makeR s t).s := tame_res make_may
theorem rename_tame (s : Shelf) (id : Int) (t : ByteArray) : TameS (renameR s id t).s := tame_res rename_may
theorem drop_tame (s : Shelf) (id : Int) : TameS (dropR s id).s := tame_res drop_may
theorem move_tame (s : Shelf) (id q : Int) : TameS (moveR s id q).s := tame_res move_may
theorem discard_tame (s : Shelf) (id : Int) : TameS (discardR s id).s := tame_res discard_may
theorem tag_tame (s : Shelf) (id : Int) (t : ByteArray) : TameS (tagR s id t).s := tame_res tag_may
theorem untag_tame (s : Shelf) (id : Int) (t : ByteArray) : TameS (untagR s id t).s := tame_res untag_may
theorem append_tame (s : Shelf) (id : Int) : TameS (appendR s id).s := tame_res append_may
theorem remove_tame (s : Shelf) (id k : Int) : TameS (removeR s id k).s := tame_res remove_may
/-- What Find answers, to a reader. -/
def foundB (s : Shelf) (id : Int) : Bool := decide (noteE s id = 0)
def foundN (s : Shelf) (id : Int) : Note := if noteE s id = 0 then noteOf s id else ⟨0, 0, ⟨#[]⟩, [], []⟩
def OutF (N : Note) (B : Bool) (w : World) (e : Ending) (w' : World) : Prop := ∃ ta tc sa sc, Grow w w' ∧ e = .returned (.tuple #[.agg #[.int .i64 N.id, .int .i64 N.book, .string N.name, .slice ta N.tags.length tc, .slice sa N.sheets.length sc], .bool B]) ∧ Texts w' (.slice ta N.tags.length tc) N.tags ∧ Ints w' (.slice sa N.sheets.length sc) N.sheets
theorem RetFind.out {s : Shelf} {id : Int} {N : Note} {B : Bool} (hN : foundN s id = N) (hB : foundB s id = B) {w w' : World} {e : Ending} (h : RetFind s id w e w') : OutF N B w e w' := by
  subst hN hB
  obtain ⟨g, ⟨x, bv, nv, Y, y, hm, h0, hx, rfl, ho, hmap, hy, rfl⟩ | ⟨hn, rfl⟩⟩ := h
  · have hE : noteE s id = 0 := noteE_zero.2 ⟨hm, h0⟩
    have hN : foundN s id = y.n := by
      unfold foundN
      rw [if_pos hE]
      have := (noteOf_get h0).1
      rw [hx] at this
      exact (Option.some.inj this).symm
    have hB : foundB s id = true := by unfold foundB; rw [hE]; rfl
    have hmem := List.mem_of_getElem? hy
    have h1 := row_texts (ho.tags y hmem)
    have h2 : Ints w' y.sv y.n.sheets := (ho.sheets y hmem).reads fun i x hx => by rw [Nat.mul_one, List.take_one, List.head?_drop, List.getElem?_map, hx]; rfl
    obtain ⟨ta, tc, e1⟩ := h1.mk
    obtain ⟨sa, sc, e2⟩ := h2.mk
    rw [OutF, hN, hB]
    rw [e1] at h1
    rw [e2] at h2
    exact ⟨ta, tc, sa, sc, g, by rw [e1, e2]; rfl, h1, h2⟩
  · have hE : noteE s id ≠ 0 := fun h => by
      obtain ⟨h1, h2⟩ := noteE_zero.1 h
      rcases hn with hn | hn
      · rw [hn] at h1; cases h1
      · omega
    have hN : foundN s id = ⟨0, 0, ⟨#[]⟩, [], []⟩ := if_neg hE
    have hB : foundB s id = false := decide_eq_false hE
    rw [OutF, hN, hB]
    exact ⟨none, 0, none, 0, g, rfl, Reads.nil, Reads.nil⟩
end Go.Proofs.YtnajccljdjllgaaDoor
