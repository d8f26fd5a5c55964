/- What Find answers, with its rows, into a box that was there. -/
import Derived.Test.YtnajccljdjllgaaDoorOut
set_option linter.unusedVariables false
set_option linter.unusedSimpArgs false
namespace Go.Proofs.YtnajccljdjllgaaDoor
open Go.RowKit Go.Lib
def OutF2 (N : Note) (B : Bool) (w : World) (e : Ending) (w' : World) : Prop := ∃ ta tc sa sc, Grow w w' ∧ e = .returned (.tuple #[.agg #[.int .i64 N.id, .int .i64 N.book, .string N.name, .slice ta N.tags.length tc, .slice sa N.sheets.length sc], .bool B]) ∧
  RowO w.heap.size 9 1 (.slice ta N.tags.length tc) N.tags.length (strC N.tags) w' ∧ RowO w.heap.size 3 1 (.slice sa N.sheets.length sc) N.sheets.length (intC N.sheets) w'
theorem RetFind.out2 {s : Shelf} {id : Int} {N : Note} {B : Bool} (hN : foundN s id = N) (hB : foundB s id = B) {w w' : World} {e : Ending} (h : RetFind s id w e w') : OutF2 N B w e w' := by
  subst hN hB
  obtain ⟨g, ⟨x, bv, nv, Y, y, hm, h0, hx, rfl, ho, hmap, hy, rfl⟩ | ⟨hn, rfl⟩⟩ := h
  · have hE : noteE s id = 0 := noteE_zero.2 ⟨hm, h0⟩
    have hN : foundN s id = y.n := by
      unfold foundN
      rw [if_pos hE]
      have := (noteOf_get h0).1
      rw [hx] at this
      exact (Option.some.inj this).symm
    have hB : foundB s id = true := by unfold foundB; rw [hE]; rfl
    have hmem := List.mem_of_getElem? hy
    have h1 := ho.tags y hmem
    have h2 := ho.sheets y hmem
    obtain ⟨ta, tc, e1, -⟩ := h1.slice
    obtain ⟨sa, sc, e2, -⟩ := h2.slice
    rw [OutF2, hN, hB]
    rw [e1] at h1
    rw [e2] at h2
    exact ⟨ta, tc, sa, sc, g, by rw [e1, e2]; rfl, h1, h2⟩
  · have hE : noteE s id ≠ 0 := fun h => by
      obtain ⟨h1, h2⟩ := noteE_zero.1 h
      rcases hn with hn | hn
      · rw [hn] at h1; cases h1
      · omega
    have hN : foundN s id = ⟨0, 0, ⟨#[]⟩, [], []⟩ := if_neg hE
    have hB : foundB s id = false := decide_eq_false hE
    rw [OutF2, hN, hB]
    exact ⟨none, 0, none, 0, g, rfl, RowO.nil, RowO.nil⟩
theorem row_ints {base : Nat} {v : Value} {l : List Int} {w : World} (h : RowO base 3 1 v l.length (intC l) w) : Ints w v l := h.reads fun i x hx => by rw [Nat.mul_one, List.take_one, List.head?_drop, List.getElem?_map, hx]; rfl
theorem RowO.aside {base b : Nat} {e : TypeId} {k : Nat} {v : Value} {n : Nat} {xs : List Value} {w w' : World} (h : RowO base e k v n xs w) (t : Turned b w w') (hb : b < base) : RowO base e k v n xs w' :=
  h.turned t fun e => by have := (h.blk e).1; omega
end Go.Proofs.YtnajccljdjllgaaDoor
