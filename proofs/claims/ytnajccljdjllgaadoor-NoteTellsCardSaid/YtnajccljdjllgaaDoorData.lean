/- The data of shelves, and how memory bears them: rows of elements of k cells that are read. -/
import Derived.WalkKit
import Derived.Below
import Derived.Lib.Hide
import Derived.Deep.Draws
import Derived.Lib.Strings
set_option linter.unusedVariables false
set_option linter.unusedSimpArgs false
namespace Go.Proofs.YtnajccljdjllgaaDoor
open Go.RowKit Go.Lib
structure Book where
  id : Int
  name : ByteArray
structure Note where
  id : Int
  book : Int
  name : ByteArray
  tags : List ByteArray
  sheets : List Int
structure Shelf where
  nb : Int
  nn : Int
  ns : Int
  books : List Book
  notes : List Note
instance : Inhabited Book := ⟨⟨0, ⟨#[]⟩⟩⟩
instance : Inhabited Note := ⟨⟨0, 0, ⟨#[]⟩, [], []⟩⟩
/-- W is w0 grown. -/
def Grow (w0 W : World) : Prop := Below w0.heap.size w0 W
theorem Grow.refl (w : World) : Grow w w := Below.refl _ _
theorem Grow.drew {w W : World} (h : Grow w W) : Grow w W.drew := Below.drew h
theorem Grow.drewN {w W : World} (h : Grow w W) : ∀ n, Grow w (W.drewN n)
  | 0 => h
  | n + 1 => (h.drewN n).drew
theorem Grow.alloc {w W : World} (h : Grow w W) (o : Obj) : Grow w (W.alloc o) := Below.alloc h h.size o
theorem Grow.set {w W : World} (h : Grow w W) {a : Addr} (ha : w.heap.size ≤ a.block) (u : Value) : Grow w (W.setCell a u) := Below.setCell h ha u
theorem Grow.step {w W V : World} (h : Grow w W) (b : Below W.heap.size W V) : Grow w V := Below.trans h (b.mono h.size)
theorem Grow.trans {w W V : World} (h : Grow w W) (b : Grow W V) : Grow w V := h.step b
theorem Grow.size {w W : World} (h : Grow w W) : w.heap.size ≤ W.heap.size := Below.size h
theorem Grow.cells {w W : World} (h : Grow w W) : ∀ b o, b < w.heap.size → W.cell? ⟨b, o, none⟩ = w.cell? ⟨b, o, none⟩ := fun b o hb => Below.cell h (p := ⟨b, o, none⟩) hb
theorem Grow.marks {w W : World} (h : Grow w W) : ∀ b o, b < w.heap.size → W.frozen? ⟨b, o, none⟩ = w.frozen? ⟨b, o, none⟩ := fun b o hb => Below.frozen h (p := ⟨b, o, none⟩) hb
/-- A row at address a, of n elements of k cells: element i's cells are cs, with R i cs. -/
def RowAt (w : World) (k : Nat) (a : Option Addr) (n : Nat) (R : Nat → List Value → Prop) : Prop :=
  0 < n → ∃ b off, a = some ⟨b, off, none⟩ ∧ b < w.heap.size ∧ ∀ i, i < n → ∃ cs, cs.length = k ∧ R i cs ∧ ∀ j v, cs[j]? = some v → w.cell? ⟨b, off + i * k + j, none⟩ = some v
theorem RowAt.grow {w W : World} {k : Nat} {a : Option Addr} {n : Nat} {R : Nat → List Value → Prop} (h : RowAt w k a n R) (g : Grow w W) : RowAt W k a n R := fun hn => by
  obtain ⟨b, off, e, hb, hc⟩ := h hn
  refine ⟨b, off, e, Nat.lt_of_lt_of_le hb g.size, fun i hi => ?_⟩
  obtain ⟨cs, h1, h2, h3⟩ := hc i hi
  exact ⟨cs, h1, h2, fun j v hj => (Below.cell g (p := ⟨b, _, none⟩) hb).trans (h3 j v hj)⟩
theorem RowAt.imp {w : World} {k : Nat} {a : Option Addr} {n : Nat} {R R' : Nat → List Value → Prop} (h : RowAt w k a n R) (hR : ∀ i, i < n → ∀ cs, R i cs → R' i cs) : RowAt w k a n R' := fun hn => by
  obtain ⟨b, off, e, hb, hc⟩ := h hn
  refine ⟨b, off, e, hb, fun i hi => ?_⟩
  obtain ⟨cs, h1, h2, h3⟩ := hc i hi
  exact ⟨cs, h1, hR i hi cs h2, h3⟩
theorem RowAt.take {w : World} {k : Nat} {a : Option Addr} {n m : Nat} {R : Nat → List Value → Prop} (h : RowAt w k a n R) (hm : m ≤ n) : RowAt w k a m R := fun hn => by
  obtain ⟨b, off, e, hb, hc⟩ := h (by omega)
  exact ⟨b, off, e, hb, fun i hi => hc i (by omega)⟩
/-- A slice's value that reads as l, by R. -/
def Reads {α : Type} (R : World → α → List Value → Prop) (k : Nat) (w : World) (v : Value) (l : List α) : Prop :=
  ∃ a c, v = .slice a l.length c ∧ l.length ≤ c ∧ RowAt w k a l.length fun i cs => ∀ x, l[i]? = some x → R w x cs
theorem Reads.grow {α : Type} {R : World → α → List Value → Prop} {k : Nat} {w W : World} {v : Value} {l : List α} (hR : ∀ x cs, R w x cs → R W x cs) (h : Reads R k w v l) (g : Grow w W) : Reads R k W v l := by
  obtain ⟨a, c, e, hc, h⟩ := h
  exact ⟨a, c, e, hc, (h.grow g).imp fun i hi cs hr x hx => hR x cs (hr x hx)⟩
theorem Reads.nil {α : Type} {R : World → α → List Value → Prop} {k : Nat} {w : World} : Reads R k w (.slice none 0 0) ([] : List α) := ⟨none, 0, rfl, Nat.le_refl _, fun h => absurd h (Nat.lt_irrefl _)⟩
/-- An element's cells. -/
theorem Reads.at {α : Type} {R : World → α → List Value → Prop} {k : Nat} {w : World} {a : Option Addr} {n c : Nat} {l : List α} (h : Reads R k w (.slice a n c) l) {i : Nat} {x : α} (hx : l[i]? = some x) :
    ∃ b off, a = some ⟨b, off, none⟩ ∧ b < w.heap.size ∧ ∃ cs, cs.length = k ∧ R w x cs ∧ ∀ j v, cs[j]? = some v → w.cell? ⟨b, off + i * k + j, none⟩ = some v := by
  obtain ⟨a', c', e, _, h⟩ := h
  injection e with e1 e2 e3
  subst e1
  obtain ⟨hi, _⟩ := List.getElem?_eq_some_iff.1 hx
  obtain ⟨b, off, e, hb, hc⟩ := h (by omega)
  obtain ⟨cs, h1, h2, h3⟩ := hc i hi
  exact ⟨b, off, e, hb, cs, h1, h2 x hx, h3⟩
theorem Reads.len {α : Type} {R : World → α → List Value → Prop} {k : Nat} {w : World} {a : Option Addr} {n c : Nat} {l : List α} (h : Reads R k w (.slice a n c) l) : n = l.length ∧ l.length ≤ c := by
  obtain ⟨a', c', e, hc, h⟩ := h
  injection e with e1 e2 e3
  exact ⟨e2, e3 ▸ hc⟩
theorem Reads.mk {α : Type} {R : World → α → List Value → Prop} {k : Nat} {w : World} {v : Value} {l : List α} (h : Reads R k w v l) : ∃ a c, v = .slice a l.length c := by
  obtain ⟨a, c, e, _⟩ := h; exact ⟨a, c, e⟩

/-! Texts, numbers, books, notes -/
def TextR (_ : World) (x : ByteArray) (cs : List Value) : Prop := cs = [.string x]
def IntR (_ : World) (x : Int) (cs : List Value) : Prop := cs = [.int .i64 x]
def BookR (_ : World) (x : Book) (cs : List Value) : Prop := cs = [.int .i64 x.id, .string x.name]
abbrev Texts := Reads TextR 1
abbrev Ints := Reads IntR 1
abbrev Books := Reads BookR 2
def NoteR (w : World) (x : Note) (cs : List Value) : Prop := ∃ tv sv, cs = [.int .i64 x.id, .int .i64 x.book, .string x.name, tv, sv] ∧ Texts w tv x.tags ∧ Ints w sv x.sheets
abbrev Notes := Reads NoteR 5
theorem Texts.grow {w W : World} {v : Value} {l : List ByteArray} (h : Texts w v l) (g : Grow w W) : Texts W v l := Reads.grow (w := w) (W := W) (fun _ _ h => h) h g
theorem Ints.grow {w W : World} {v : Value} {l : List Int} (h : Ints w v l) (g : Grow w W) : Ints W v l := Reads.grow (w := w) (W := W) (fun _ _ h => h) h g
theorem Books.grow {w W : World} {v : Value} {l : List Book} (h : Books w v l) (g : Grow w W) : Books W v l := Reads.grow (w := w) (W := W) (fun _ _ h => h) h g
theorem NoteR.grow {w W : World} {x : Note} {cs : List Value} (h : NoteR w x cs) (g : Grow w W) : NoteR W x cs := by
  obtain ⟨tv, sv, e, h1, h2⟩ := h
  exact ⟨tv, sv, e, Texts.grow h1 g, Ints.grow h2 g⟩
theorem Notes.grow {w W : World} {v : Value} {l : List Note} (h : Notes w v l) (g : Grow w W) : Notes W v l := Reads.grow (w := w) (W := W) (fun _ _ h => h.grow g) h g
/-- A shelf's five cells. -/
def ShelfR (w : World) (s : Shelf) (bv nv : Value) : Prop := Books w bv s.books ∧ Notes w nv s.notes
def shelfV (s : Shelf) (bv nv : Value) : Value := .agg #[.int .i64 s.nb, .int .i64 s.nn, .int .i64 s.ns, bv, nv]
theorem ShelfR.grow {w W : World} {s : Shelf} {bv nv : Value} (h : ShelfR w s bv nv) (g : Grow w W) : ShelfR W s bv nv := ⟨Books.grow h.1 g, Notes.grow h.2 g⟩
/-- The cells of an element, one by one. -/
theorem Texts.at {w : World} {a : Option Addr} {n c : Nat} {l : List ByteArray} (h : Texts w (.slice a n c) l) {i : Nat} {x : ByteArray} (hx : l[i]? = some x) :
    ∃ b off, a = some ⟨b, off, none⟩ ∧ b < w.heap.size ∧ w.cell? ⟨b, off + i, none⟩ = some (.string x) := by
  obtain ⟨b, off, e, hb, cs, h1, h2, h3⟩ := Reads.at h hx
  have := h3 0 (.string x) (by rw [h2]; rfl)
  rw [Nat.mul_one, Nat.add_zero] at this
  exact ⟨b, off, e, hb, this⟩
theorem Ints.at {w : World} {a : Option Addr} {n c : Nat} {l : List Int} (h : Ints w (.slice a n c) l) {i : Nat} {x : Int} (hx : l[i]? = some x) :
    ∃ b off, a = some ⟨b, off, none⟩ ∧ b < w.heap.size ∧ w.cell? ⟨b, off + i, none⟩ = some (.int .i64 x) := by
  obtain ⟨b, off, e, hb, cs, h1, h2, h3⟩ := Reads.at h hx
  have := h3 0 (.int .i64 x) (by rw [h2]; rfl)
  rw [Nat.mul_one, Nat.add_zero] at this
  exact ⟨b, off, e, hb, this⟩
theorem Books.at {w : World} {a : Option Addr} {n c : Nat} {l : List Book} (h : Books w (.slice a n c) l) {i : Nat} {x : Book} (hx : l[i]? = some x) :
    ∃ b off, a = some ⟨b, off, none⟩ ∧ b < w.heap.size ∧ w.cell? ⟨b, off + i * 2, none⟩ = some (.int .i64 x.id) ∧ w.cell? ⟨b, off + i * 2 + 1, none⟩ = some (.string x.name) := by
  obtain ⟨b, off, e, hb, cs, h1, h2, h3⟩ := Reads.at h hx
  exact ⟨b, off, e, hb, h3 0 _ (by rw [h2]; rfl), h3 1 _ (by rw [h2]; rfl)⟩
theorem Notes.at {w : World} {a : Option Addr} {n c : Nat} {l : List Note} (h : Notes w (.slice a n c) l) {i : Nat} {x : Note} (hx : l[i]? = some x) :
    ∃ b off tv sv, a = some ⟨b, off, none⟩ ∧ b < w.heap.size ∧ w.cell? ⟨b, off + i * 5, none⟩ = some (.int .i64 x.id) ∧ w.cell? ⟨b, off + i * 5 + 1, none⟩ = some (.int .i64 x.book) ∧ w.cell? ⟨b, off + i * 5 + 2, none⟩ = some (.string x.name) ∧
      w.cell? ⟨b, off + i * 5 + 3, none⟩ = some tv ∧ w.cell? ⟨b, off + i * 5 + 4, none⟩ = some sv ∧ Texts w tv x.tags ∧ Ints w sv x.sheets := by
  obtain ⟨b, off, e, hb, cs, h1, ⟨tv, sv, h2, ht, hs⟩, h3⟩ := Reads.at h hx
  exact ⟨b, off, tv, sv, e, hb, h3 0 _ (by rw [h2]; rfl), h3 1 _ (by rw [h2]; rfl), h3 2 _ (by rw [h2]; rfl), h3 3 _ (by rw [h2]; rfl), h3 4 _ (by rw [h2]; rfl), ht, hs⟩
def ByteR (_ : World) (x : UInt8) (cs : List Value) : Prop := cs = [.int .u8 x.toNat]
abbrev Bytes := Reads ByteR 1
theorem Bytes.grow {w W : World} {v : Value} {l : List UInt8} (h : Bytes w v l) (g : Grow w W) : Bytes W v l := Reads.grow (w := w) (W := W) (fun _ _ h => h) h g
theorem Bytes.at {w : World} {a : Option Addr} {n c : Nat} {l : List UInt8} (h : Bytes w (.slice a n c) l) {i : Nat} {x : UInt8} (hx : l[i]? = some x) :
    ∃ b off, a = some ⟨b, off, none⟩ ∧ b < w.heap.size ∧ w.cell? ⟨b, off + i, none⟩ = some (.int .u8 x.toNat) := by
  obtain ⟨b, off, e, hb, cs, h1, h2, h3⟩ := Reads.at h hx
  have := h3 0 (.int .u8 x.toNat) (by rw [h2]; rfl)
  rw [Nat.mul_one, Nat.add_zero] at this
  exact ⟨b, off, e, hb, this⟩
/-- Are two alike? -/
noncomputable def same {α : Type} (a b : α) : Bool := @decide (a = b) (Classical.propDecidable _)
theorem same_yes {α : Type} {a b : α} (h : a = b) : same a b = true := by unfold same; exact @decide_eq_true _ (Classical.propDecidable _) h
theorem same_no {α : Type} {a b : α} (h : a ≠ b) : same a b = false := by unfold same; exact @decide_eq_false _ (Classical.propDecidable _) h
theorem same_iff {α : Type} {a b : α} : same a b = true ↔ a = b := by
  by_cases h : a = b
  · rw [same_yes h]; exact ⟨fun _ => h, fun _ => rfl⟩
  · rw [same_no h]; exact ⟨fun e => (by cases e), fun e => absurd e h⟩
theorem list_same {α : Type} {l m : List α} (h : l.length = m.length) (hh : ∀ (j : Nat) (x y : α), l[j]? = some x → m[j]? = some y → x = y) : l = m := by
  apply List.ext_getElem h
  intro j h1 h2
  exact hh j _ _ (List.getElem?_eq_getElem h1) (List.getElem?_eq_getElem h2)
theorem eq_of_tl {a b : ByteArray} (h : a.toList = b.toList) : a = b := by
  rw [Lib.toList_data, Lib.toList_data] at h; exact ByteArray.ext (Array.toList_inj.1 h)
theorem lt_get {α : Type} {l : List α} {i : Nat} (h : i < l.length) : ∃ x, l[i]? = some x ∧ l[i] = x := ⟨_, List.getElem?_eq_getElem h, rfl⟩
end Go.Proofs.YtnajccljdjllgaaDoor
