/- The state of coding.Read. -/
import Derived.Test.YtbdbmigkcpgmkaaDoorParse
set_option linter.unusedVariables false
set_option linter.unusedSimpArgs false
namespace Go.Proofs.YtbdbmigkcpgmkaaDoor
open Go.RowKit Go.Lib
abbrev shO (nb nn ns : Int) (bv nv : Value) : Obj := .cells #[.int .i64 nb, .int .i64 nn, .int .i64 ns, bv, nv] 36
structure RS (w0 : World) (D r S : Nat) (nb nn ns : Int) (l : List UInt8) (bad : Bool) (bv nv : Value) (X : List Book) (Y : List NV) (w : World) : Prop where
  rd : Rd w0 r l bad w
  own : OwnS w0.heap.size bv nv X Y w
  res : w.heap[D]? = some (shO 0 0 0 (.slice none 0 0) (.slice none 0 0))
  box : w.heap[S]? = some (shO nb nn ns bv nv)
  low : w0.heap.size ≤ D ∧ w0.heap.size ≤ S ∧ D ≠ S
  len : l.length ≤ 1000000
theorem no_cells {w : World} {b i : Nat} {cs cs' : Array Value} {t t' : TypeId} {m m' : Nat × Nat} (h : w.heap[b]? = some (.cells cs t m)) (h' : w.heap[i]? = some (.cells cs' t' m')) (ht : t ≠ t') : b ≠ i := by
  rintro rfl
  rw [h] at h'
  injection h' with h'
  injection h' with h1 h2
  exact ht h2
theorem shelf_ne : 36 ≠ 75 := by decide
section
variable {w0 w w' : World} {D r S : Nat} {nb nn ns : Int} {l : List UInt8} {bad : Bool} {bv nv : Value} {X : List Book} {Y : List NV}
theorem RS.grow (h : RS w0 D r S nb nn ns l bad bv nv X Y w) (g : Grow w w') : RS w0 D r S nb nn ns l bad bv nv X Y w' :=
  ⟨h.rd.grown g, h.own.grow g, g.blk h.res, g.blk h.box, h.low, h.len⟩
theorem RS.five (h : RS w0 D r S nb nn ns l bad bv nv X Y w) : w.cell? ⟨S, 0, none⟩ = some (.int .i64 nb) ∧ w.cell? ⟨S, 1, none⟩ = some (.int .i64 nn) ∧ w.cell? ⟨S, 2, none⟩ = some (.int .i64 ns) ∧ w.cell? ⟨S, 3, none⟩ = some bv ∧ w.cell? ⟨S, 4, none⟩ = some nv :=
  ⟨(cell_of_row w S 0 _ _ _ h.box).trans rfl, (cell_of_row w S 1 _ _ _ h.box).trans rfl, (cell_of_row w S 2 _ _ _ h.box).trans rfl, (cell_of_row w S 3 _ _ _ h.box).trans rfl, (cell_of_row w S 4 _ _ _ h.box).trans rfl⟩
theorem RS.res5 (h : RS w0 D r S nb nn ns l bad bv nv X Y w) : (w.cell? ⟨D, 0, none⟩ = some (.int .i64 0) ∧ w.cell? ⟨D, 1, none⟩ = some (.int .i64 0) ∧ w.cell? ⟨D, 2, none⟩ = some (.int .i64 0) ∧ w.cell? ⟨D, 3, none⟩ = some (.slice none 0 0) ∧ w.cell? ⟨D, 4, none⟩ = some (.slice none 0 0)) ∧ w.frozen? ⟨D, 0, none⟩ = false ∧ w.frozen? ⟨D, 1, none⟩ = false ∧ w.frozen? ⟨D, 2, none⟩ = false ∧ w.frozen? ⟨D, 3, none⟩ = false ∧ w.frozen? ⟨D, 4, none⟩ = false :=
  ⟨⟨(cell_of_row w D 0 _ _ _ h.res).trans rfl, (cell_of_row w D 1 _ _ _ h.res).trans rfl, (cell_of_row w D 2 _ _ _ h.res).trans rfl, (cell_of_row w D 3 _ _ _ h.res).trans rfl, (cell_of_row w D 4 _ _ _ h.res).trans rfl⟩, frozen_of_row w D 0 _ _ h.res, frozen_of_row w D 1 _ _ h.res, frozen_of_row w D 2 _ _ h.res, frozen_of_row w D 3 _ _ h.res, frozen_of_row w D 4 _ _ h.res⟩
theorem RS.free (h : RS w0 D r S nb nn ns l bad bv nv X Y w) (j : Nat) : w.frozen? ⟨S, j, none⟩ = false := frozen_of_row w S j _ _ h.box
theorem RS.lt (h : RS w0 D r S nb nn ns l bad bv nv X Y w) : S < w.heap.size := (Array.getElem?_eq_some_iff.1 h.box).1
/-- The reader was turned. -/
theorem RS.turn (h : RS w0 D r S nb nn ns l bad bv nv X Y w) {l' : List UInt8} {bad' : Bool} (t : Turned r w w') (h' : Rd w0 r l' bad' w') (hl : l'.length ≤ l.length) : RS w0 D r S nb nn ns l' bad' bv nv X Y w' := by
  obtain ⟨-, -, v, hb, -⟩ := h.rd
  exact ⟨h', h.own.kept (.of_turned t hb (by decide)), (t.block D (Array.getElem?_eq_some_iff.1 h.res).1 (no_cells h.res hb shelf_ne)).trans h.res, (t.block S h.lt (no_cells h.box hb shelf_ne)).trans h.box, h.low, Nat.le_trans hl h.len⟩
theorem RS.num (h : RS w0 D r S nb nn ns l bad bv nv X Y w) (n : Nat) (hn : n ≤ 3) :
    Calls Tryd.prog 46 #[.pointer (some ⟨r, 0, none⟩), .int .i64 n] w fun e w' => e = .returned (.int .i64 (numV l n : Nat)) ∧ RS w0 D r S nb nn ns (numL l n) (numO l n bad) bv nv X Y w' :=
  (numF_any w0 r l bad n w h.rd (by have := h.len; omega) hn).mono fun e w' ⟨h1, h2, h3⟩ => ⟨h1, h.turn h2 h3 (numL_le l n)⟩
theorem RS.text (h : RS w0 D r S nb nn ns l bad bv nv X Y w) :
    Calls Tryd.prog 47 #[.pointer (some ⟨r, 0, none⟩)] w fun e w' => e = .returned (.string (txV l)) ∧ RS w0 D r S nb nn ns (txL l) (txO l bad) bv nv X Y w' :=
  (rdtF_any w0 r l bad w h.rd (by have := h.len; omega)).mono fun e w' ⟨h1, h2, h3⟩ => ⟨h1, h.turn h2 h3 (txL_le l)⟩
/-- What is not of type e is as it was. -/
theorem RS.keep (h : RS w0 D r S nb nn ns l bad bv nv X Y w) {e : TypeId} (he : 36 ≠ e ∧ 75 ≠ e) (k : Kept e w w') (g : Grow w0 w') : Rd w0 r l bad w' ∧ w'.heap[D]? = some (shO 0 0 0 (.slice none 0 0) (.slice none 0 0)) ∧ w'.heap[S]? = some (shO nb nn ns bv nv) := by
  obtain ⟨-, h1, v, hb, hv⟩ := h.rd
  exact ⟨⟨g, h1, v, k _ _ _ _ he.2 hb, hv⟩, k _ _ _ _ he.1 h.res, k _ _ _ _ he.1 h.box⟩
/-- The box is stored. -/
theorem RS.put {bv' nv' : Value} {X' : List Book} {Y' : List NV} (hrd : Rd w0 r l bad w) (ho : OwnS w0.heap.size bv' nv' X' Y' w) (hres : w.heap[D]? = some (shO 0 0 0 (.slice none 0 0) (.slice none 0 0))) (hbox : w.heap[S]? = some (shO nb nn ns bv nv)) (low : w0.heap.size ≤ D ∧ w0.heap.size ≤ S ∧ D ≠ S) (len : l.length ≤ 1000000)
    {o : Nat} {u : Value} (he : (#[.int .i64 nb, .int .i64 nn, .int .i64 ns, bv, nv] : Array Value).setIfInBounds o u = #[.int .i64 nb, .int .i64 nn, .int .i64 ns, bv', nv']) : RS w0 D r S nb nn ns l bad bv' nv' X' Y' (w.setCell ⟨S, o, none⟩ u) := by
  have ht := Turned.set w S o u
  obtain ⟨h0, h1, v, hb, hv⟩ := hrd
  refine ⟨⟨ht.grow h0 low.2.1, h1, v, (ht.block r (Array.getElem?_eq_some_iff.1 hb).1 (Ne.symm (no_cells hbox hb shelf_ne))).trans hb, hv⟩, ho.kept (.of_turned ht hbox (by decide)), (ht.block D (Array.getElem?_eq_some_iff.1 hres).1 low.2.2).trans hres, ?_, low, len⟩
  rw [heap_setCell_same w S o _ _ _ hbox, he]
theorem grow_app {e : TypeId} {k : Nat} {v v' : Value} {n : Nat} {xs cs : List Value} {W0 : World} (g : Grow W0 w) (h : RowO W0.heap.size e k v n xs w) (r : AppR W0.heap.size e k w v n xs cs v' w') : Grow W0 w' :=
  Below.grown g r.2.1 g.size (fun b hb => (h.blk hb).1)
/-- A book was appended; now the box is stored. -/
theorem RS.book (h : RS w0 D r S nb nn ns l bad bv nv X Y w) {x : Book} {v' : Value} (ra : AppR w0.heap.size 57 2 w bv X.length (X.flatMap bookC) (bookC x) v' w') :
    w'.cell? ⟨S, 3, none⟩ = some bv ∧ w'.frozen? ⟨S, 3, none⟩ = false ∧ RS w0 D r S nb nn ns l bad v' nv (X ++ [x]) Y (w'.setCell ⟨S, 3, none⟩ v') := by
  have hk := h.own.books.keeps ra.2.1
  obtain ⟨h1, h2, h3⟩ := h.keep (by decide) hk (grow_app h.rd.grow h.own.books ra)
  exact ⟨(cell_of_row w' S 3 _ _ _ h3).trans rfl, frozen_of_row w' S 3 _ _ h3, RS.put h1 (h.own.addBook ra) h2 h3 h.low h.len rfl⟩
/-- A note was appended; now the box is stored. -/
theorem RS.note (h : RS w0 D r S nb nn ns l bad bv nv X Y w) {x : NV} (ht : x.tv = .slice none 0 0 ∧ x.n.tags = []) (hs : x.sv = .slice none 0 0 ∧ x.n.sheets = []) {v' : Value} (ra : AppR w0.heap.size 60 5 w nv Y.length (Y.flatMap noteC) (noteC x) v' w') :
    w'.cell? ⟨S, 4, none⟩ = some nv ∧ w'.frozen? ⟨S, 4, none⟩ = false ∧ RS w0 D r S nb nn ns l bad bv v' X (Y ++ [x]) (w'.setCell ⟨S, 4, none⟩ v') := by
  have hk := h.own.notes.keeps ra.2.1
  obtain ⟨h1, h2, h3⟩ := h.keep (by decide) hk (grow_app h.rd.grow h.own.notes ra)
  exact ⟨(cell_of_row w' S 4 _ _ _ h3).trans rfl, frozen_of_row w' S 4 _ _ h3, RS.put h1 (h.own.addNote ht hs ra) h2 h3 h.low h.len rfl⟩
/-- The last note got one more of its tags; now its cell is stored. -/
theorem RS.retag {Z : List NV} {y : NV} (h : RS w0 D r S nb nn ns l bad bv nv X (Z ++ [y]) w) {x : ByteArray} {v' : Value} {b c : Nat} (e : nv = .slice (some ⟨b, 0, none⟩) (Z.length + 1) c) (ra : AppR w0.heap.size 9 1 w y.tv y.n.tags.length (strC y.n.tags) [.string x] v' w') :
    w'.cell? ⟨b, Z.length * 5 + 3, none⟩ = some y.tv ∧ w'.frozen? ⟨b, Z.length * 5 + 3, none⟩ = false ∧ RS w0 D r S nb nn ns l bad bv nv X (Z ++ [⟨{ y.n with tags := y.n.tags ++ [x] }, v', y.sv⟩]) (w'.setCell ⟨b, Z.length * 5 + 3, none⟩ v') := by
  have hy : (Z ++ [y])[Z.length]? = some y := by simp
  have hr : RowO w0.heap.size 9 1 v' (y.n.tags ++ [x]).length (strC (y.n.tags ++ [x])) w' := by
    have := ra.1
    unfold strC at this ⊢
    rw [List.length_append, List.map_append]; exact this
  obtain ⟨g, hg1, hg2⟩ := ra.2.2.1
  have e' : nv = .slice (some ⟨b, 0, none⟩) (Z ++ [y]).length c := by rw [List.length_append]; exact e
  obtain ⟨h1, h2, h3, h4, h5⟩ := h.own.retag hy hr ra.2.1 (fun q hq => by rw [hg1] at hq; obtain rfl := Option.some.inj hq; exact hg2) e'
  have hgr : Grow w0 w' := Below.grown h.rd.grow ra.2.1 h.rd.grow.size (fun q hq => ((h.own.tags y (by simp)).blk hq).1)
  obtain ⟨k1, k2, k3⟩ := h.keep (by decide) h5 hgr
  obtain ⟨b2, c2, e2, hb2, hc2, hbk, -⟩ := h.own.note hy
  rw [e'] at e2
  injection e2 with e3
  injection e3 with e4
  injection e4 with e5
  subst e5
  obtain ⟨hbase, cur, hcur⟩ := h.own.notes.blk hbk
  have hcur' := h5 _ _ _ _ (by decide) hcur
  have hk2 := kept_of_turned hcur' h4
  have hz : (Z ++ [y]).set Z.length ⟨{ y.n with tags := y.n.tags ++ [x] }, v', y.sv⟩ = Z ++ [⟨{ y.n with tags := y.n.tags ++ [x] }, v', y.sv⟩] := by rw [List.set_append_right _ _ (Nat.le_refl _)]; simp
  rw [hz] at h3
  refine ⟨h1, h2, ?_⟩
  have gg : Grow w0 (w'.setCell ⟨b, Z.length * 5 + 3, none⟩ v') := h4.grow hgr hbase
  obtain ⟨-, q1, v, q2, q3⟩ := k1
  exact ⟨⟨gg, q1, v, hk2 _ _ _ _ (by decide) q2, q3⟩, h3, hk2 _ _ _ _ (by decide) k2, hk2 _ _ _ _ (by decide) k3, h.low, h.len⟩
/-- The last note got one more of its sheets; now its cell is stored. -/
theorem RS.resheet {Z : List NV} {y : NV} (h : RS w0 D r S nb nn ns l bad bv nv X (Z ++ [y]) w) {x : Int} {v' : Value} {b c : Nat} (e : nv = .slice (some ⟨b, 0, none⟩) (Z.length + 1) c) (ra : AppR w0.heap.size 3 1 w y.sv y.n.sheets.length (intC y.n.sheets) [.int .i64 x] v' w') :
    w'.cell? ⟨b, Z.length * 5 + 4, none⟩ = some y.sv ∧ w'.frozen? ⟨b, Z.length * 5 + 4, none⟩ = false ∧ RS w0 D r S nb nn ns l bad bv nv X (Z ++ [⟨{ y.n with sheets := y.n.sheets ++ [x] }, y.tv, v'⟩]) (w'.setCell ⟨b, Z.length * 5 + 4, none⟩ v') := by
  have hy : (Z ++ [y])[Z.length]? = some y := by simp
  have hr : RowO w0.heap.size 3 1 v' (y.n.sheets ++ [x]).length (intC (y.n.sheets ++ [x])) w' := by
    have := ra.1
    unfold intC at this ⊢
    rw [List.length_append, List.map_append]; exact this
  obtain ⟨g, hg1, hg2⟩ := ra.2.2.1
  have e' : nv = .slice (some ⟨b, 0, none⟩) (Z ++ [y]).length c := by rw [List.length_append]; exact e
  obtain ⟨h1, h2, h3, h4, h5⟩ := h.own.resheet hy hr ra.2.1 (fun q hq => by rw [hg1] at hq; obtain rfl := Option.some.inj hq; exact hg2) e'
  have hgr : Grow w0 w' := Below.grown h.rd.grow ra.2.1 h.rd.grow.size (fun q hq => ((h.own.sheets y (by simp)).blk hq).1)
  obtain ⟨k1, k2, k3⟩ := h.keep (by decide) h5 hgr
  obtain ⟨b2, c2, e2, hb2, hc2, hbk, -⟩ := h.own.note hy
  rw [e'] at e2
  injection e2 with e3
  injection e3 with e4
  injection e4 with e5
  subst e5
  obtain ⟨hbase, cur, hcur⟩ := h.own.notes.blk hbk
  have hcur' := h5 _ _ _ _ (by decide) hcur
  have hk2 := kept_of_turned hcur' h4
  have hz : (Z ++ [y]).set Z.length ⟨{ y.n with sheets := y.n.sheets ++ [x] }, y.tv, v'⟩ = Z ++ [⟨{ y.n with sheets := y.n.sheets ++ [x] }, y.tv, v'⟩] := by rw [List.set_append_right _ _ (Nat.le_refl _)]; simp
  rw [hz] at h3
  refine ⟨h1, h2, ?_⟩
  have gg : Grow w0 (w'.setCell ⟨b, Z.length * 5 + 4, none⟩ v') := h4.grow hgr hbase
  obtain ⟨-, q1, v, q2, q3⟩ := k1
  exact ⟨⟨gg, q1, v, hk2 _ _ _ _ (by decide) q2, q3⟩, h3, hk2 _ _ _ _ (by decide) k2, hk2 _ _ _ _ (by decide) k3, h.low, h.len⟩
theorem RS.lastc {Z : List NV} {y : NV} {b c : Nat} (h : RS w0 D r S nb nn ns l bad bv (.slice (some ⟨b, 0, none⟩) (Z.length + 1) c) X (Z ++ [y]) w) (j : Nat) (u : Value) (hu : (noteC y)[j]? = some u) : w.cell? ⟨b, Z.length * 5 + j, none⟩ = some u ∧ w.frozen? ⟨b, Z.length * 5 + j, none⟩ = false ∧ b < w.heap.size := by
  obtain ⟨b', c', e, hb, -, -, hc⟩ := h.own.note (i := Z.length) (y := y) (by simp)
  injection e with e
  injection e with e
  injection e with e
  subst e
  exact ⟨(hc j u hu).1, (hc j u hu).2, hb⟩
/-- The result's cell is stored. -/
def OwnD (base : Nat) (bv nv : Value) (X : List Book) (Y : List NV) (W0 : World) (D : Nat) (w : World) : Prop := Grow W0 w ∧ OwnS base bv nv X Y w ∧ ∃ cs : Array Value, w.heap[D]? = some (.cells cs 36 (0, 0))
theorem OwnD.set {base : Nat} {W0 : World} (h : OwnD base bv nv X Y W0 D w) (hD : W0.heap.size ≤ D) (j : Nat) (u : Value) : OwnD base bv nv X Y W0 D (w.setCell ⟨D, j, none⟩ u) := by
  obtain ⟨h0, h1, cs, h2⟩ := h
  have ht := Turned.set w D j u
  exact ⟨ht.grow h0 hD, h1.kept (.of_turned ht h2 (by decide)), _, heap_setCell_same w D j _ _ _ h2⟩
end
end Go.Proofs.YtbdbmigkcpgmkaaDoor
