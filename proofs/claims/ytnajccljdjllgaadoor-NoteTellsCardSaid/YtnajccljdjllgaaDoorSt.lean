/- The state of a shelf that is changed: its box, the result's cell, the rows; and what a change answers. -/
import Derived.Test.YtnajccljdjllgaaDoorFindP
import Derived.Test.YtnajccljdjllgaaDoorChg
import Derived.Sort.Row
set_option linter.unusedVariables false
set_option linter.unusedSimpArgs false
namespace Go.Proofs.YtnajccljdjllgaaDoor
open Go.RowKit Go.Lib
theorem results_cell_tmp2 {P : Program} {fn : Func} {p t u : Tmp} {ty : TypeId} (h : fn.results = #[.cell p ty, .tmp t, .tmp u]) (tmps : Array Value) (w : World) :
    (results fn tmps).run P w = ((asAddr (tmps.getD p undef)).run P w).andThen fun a w₁ => ((loadVar ty a).run P w₁).andThen fun v w₂ => .ok (.tuple #[v, tmps.getD t undef, tmps.getD u undef]) w₂ := by
  simp [results, h, Sem.run_bind]
theorem three_boxes (w : World) (o1 o2 o3 : Obj) : (((w.alloc o1).alloc o2).alloc o3).heap[w.heap.size]? = some o1 ∧ (((w.alloc o1).alloc o2).alloc o3).heap[w.heap.size + 1]? = some o2 ∧ (((w.alloc o1).alloc o2).alloc o3).heap[w.heap.size + 2]? = some o3 := by
  obtain ⟨h1, h2⟩ := two_boxes2 w o1 o2
  refine ⟨((Grow.refl _).alloc o3).blk h1, ((Grow.refl _).alloc o3).blk h2, ?_⟩
  have h := heap_alloc_new ((w.alloc o1).alloc o2) o3
  rwa [show ((w.alloc o1).alloc o2).heap.size = w.heap.size + 2 by simp] at h
theorem map_setN {l : List Note} (hu : l.Pairwise fun a b => a.id < b.id) {Y : List NV} (hm : Y.map NV.n = l) {i : Nat} {y z : NV} (hy : Y[i]? = some y) (f : Note → Note) (hz : z.n = f y.n) {id : Int} (hid : y.n.id = id) : (Y.set i z).map NV.n = updN id f l := by
  subst hid
  rw [List.map_set, hm, hz, ← set_updN hu (x := y.n) (by rw [← hm, List.getElem?_map, hy]; rfl) f]
theorem map_filterN {Y : List NV} {l : List Note} (hm : Y.map NV.n = l) (p : Note → Bool) : (Y.filter fun y => p y.n).map NV.n = l.filter p := by
  rw [← hm, List.filter_map]; rfl
theorem nv_get {Y : List NV} {l : List Note} (hm : Y.map NV.n = l) {i : Nat} {x : Note} (hx : l[i]? = some x) : ∃ y, Y[i]? = some y ∧ y.n = x := by
  rw [← hm, List.getElem?_map] at hx
  cases h : Y[i]? with
  | none => rw [h] at hx; cases hx
  | some y => rw [h] at hx; exact ⟨y, rfl, by simpa using hx⟩
abbrev shQ (nb nn ns : Int) (bv nv : Value) : Obj := .cells #[.int .i64 nb, .int .i64 nn, .int .i64 ns, bv, nv] 28
abbrev zV : Value := .agg #[.int .i64 0, .int .i64 0, .int .i64 0, .slice none 0 0, .slice none 0 0]
abbrev set5w (w : World) (b : Nat) (v0 v1 v2 v3 v4 : Value) : World := ((((w.setCell ⟨b, 0, none⟩ v0).setCell ⟨b, 1, none⟩ v1).setCell ⟨b, 2, none⟩ v2).setCell ⟨b, 3, none⟩ v3).setCell ⟨b, 4, none⟩ v4
theorem turned_cell (w : World) (b j : Nat) (u : Value) : Turned b w (w.setCell ⟨b, j, none⟩ u) := ⟨rfl, rfl, rfl, by simp, fun i _ hb => heap_setCell_other w ⟨b, j, none⟩ i u hb⟩
theorem set5 {w : World} {b : Nat} {t : TypeId} {u0 u1 u2 u3 u4 : Value} (h : w.heap[b]? = some (.cells #[u0, u1, u2, u3, u4] t (0, 0))) (v0 v1 v2 v3 v4 : Value) :
    (set5w w b v0 v1 v2 v3 v4).heap[b]? = some (.cells #[v0, v1, v2, v3, v4] t (0, 0)) ∧ Turned b w (set5w w b v0 v1 v2 v3 v4) := by
  have h1 := heap_setCell_same w b 0 _ t v0 h
  have h2 := heap_setCell_same _ b 1 _ t v1 h1
  have h3 := heap_setCell_same _ b 2 _ t v2 h2
  have h4 := heap_setCell_same _ b 3 _ t v3 h3
  have h5 := heap_setCell_same _ b 4 _ t v4 h4
  exact ⟨h5, ((((turned_cell _ _ _ _).trans (turned_cell _ _ _ _)).trans (turned_cell _ _ _ _)).trans (turned_cell _ _ _ _)).trans (turned_cell _ _ _ _)⟩
theorem set5_other {w : World} {b c : Nat} {o : Obj} (v0 v1 v2 v3 v4 : Value) (hc : c ≠ b) (ho : w.heap[c]? = some o) : (set5w w b v0 v1 v2 v3 v4).heap[c]? = some o :=
  ((((((turned_cell w b 0 v0).trans (turned_cell _ b 1 v1)).trans (turned_cell _ b 2 v2)).trans (turned_cell _ b 3 v3)).trans (turned_cell _ b 4 v4)).block c (Array.getElem?_eq_some_iff.1 ho).1 hc).trans ho
structure StB (w0 : World) (B D : Nat) (nb nn ns : Int) (bv nv : Value) (X : List Book) (Y : List NV) (w : World) : Prop where
  grow : Grow w0 w
  box : w.heap[B]? = some (shQ nb nn ns bv nv)
  res : w.heap[D]? = some (shQ 0 0 0 (.slice none 0 0) (.slice none 0 0))
  own : OwnS w0.heap.size bv nv X Y w
  low : w0.heap.size ≤ B ∧ w0.heap.size ≤ D ∧ B ≠ D
section
variable {w0 w w' : World} {B D : Nat} {nb nn ns : Int} {bv nv : Value} {X : List Book} {Y : List NV}
theorem StB.five (h : StB w0 B D nb nn ns bv nv X Y w) : (w.cell? ⟨B, 0, none⟩ = some (.int .i64 nb) ∧ w.cell? ⟨B, 1, none⟩ = some (.int .i64 nn) ∧ w.cell? ⟨B, 2, none⟩ = some (.int .i64 ns) ∧ w.cell? ⟨B, 3, none⟩ = some bv ∧ w.cell? ⟨B, 4, none⟩ = some nv) ∧ B < w.heap.size := n5 h.box
theorem StB.res5 (h : StB w0 B D nb nn ns bv nv X Y w) : (w.cell? ⟨D, 0, none⟩ = some (.int .i64 0) ∧ w.cell? ⟨D, 1, none⟩ = some (.int .i64 0) ∧ w.cell? ⟨D, 2, none⟩ = some (.int .i64 0) ∧ w.cell? ⟨D, 3, none⟩ = some (.slice none 0 0) ∧ w.cell? ⟨D, 4, none⟩ = some (.slice none 0 0)) ∧ D < w.heap.size := n5 h.res
theorem StB.boxF (h : StB w0 B D nb nn ns bv nv X Y w) (j : Nat) : w.frozen? ⟨B, j, none⟩ = false := frozen_of_row w B j _ _ h.box
theorem StB.resF (h : StB w0 B D nb nn ns bv nv X Y w) (j : Nat) : w.frozen? ⟨D, j, none⟩ = false := frozen_of_row w D j _ _ h.res
theorem shelf_kept {b : Nat} {cur : Array Value} (hb : w.heap[b]? = some (.cells cur 28 (0, 0))) (t : Turned b w w') : KeptS w w' := KeptS.of_turned t hb ⟨by decide, by decide, by decide, by decide⟩
/-- The box's field j is stored, the rows have been changed ahead. -/
theorem StB.put {bv' nv' : Value} {X' : List Book} {Y' : List NV} {nb' nn' ns' : Int} (g : Grow w0 w) (ho : OwnS w0.heap.size bv' nv' X' Y' w) (hres : w.heap[D]? = some (shQ 0 0 0 (.slice none 0 0) (.slice none 0 0))) (hbox : w.heap[B]? = some (shQ nb nn ns bv nv)) (low : w0.heap.size ≤ B ∧ w0.heap.size ≤ D ∧ B ≠ D)
    {j : Nat} {u : Value} (e : (#[.int .i64 nb, .int .i64 nn, .int .i64 ns, bv, nv] : Array Value).setIfInBounds j u = #[.int .i64 nb', .int .i64 nn', .int .i64 ns', bv', nv']) : StB w0 B D nb' nn' ns' bv' nv' X' Y' (w.setCell ⟨B, j, none⟩ u) := by
  have ht := turned_cell w B j u
  refine ⟨ht.grow g low.1, ?_, ?_, ho.kept (shelf_kept hbox ht), low⟩
  · rw [heap_setCell_same w B j _ _ u hbox, e]
  · exact (ht.block D (Array.getElem?_eq_some_iff.1 hres).1 (Ne.symm low.2.2)).trans hres
/-- A change of rows alone. -/
theorem StB.rows {X' : List Book} {Y' : List NV} (h : StB w0 B D nb nn ns bv nv X Y w) (ho : OwnS w0.heap.size bv nv X' Y' w') {b : Nat} {cur : Array Value} {e : TypeId} (hb : w.heap[b]? = some (.cells cur e (0, 0))) (he : e ≠ 28) (hl : w0.heap.size ≤ b) (t : Turned b w w') : StB w0 B D nb nn ns bv nv X' Y' w' := by
  have k := kept_of_turned hb t
  exact ⟨t.grow h.grow hl, k _ _ _ _ (Ne.symm he) h.box, k _ _ _ _ (Ne.symm he) h.res, ho, h.low⟩
theorem StB.more (h : StB w0 B D nb nn ns bv nv X Y w) (g : Grow w w') : StB w0 B D nb nn ns bv nv X Y w' := ⟨h.grow.trans g, g.blk h.box, g.blk h.res, h.own.grow g, h.low⟩
theorem StB.fin (h : StB w0 B D nb nn ns bv nv X Y w) : OwnD2 w0.heap.size bv nv X Y w0 D w := ⟨h.grow, h.own, _, h.res⟩
/-- The copy is put into the box. -/
theorem StB.start {s : Shelf} {V wk w3 : World} {bv0 nv0 : Value} (gV : Grow w0 V) (hbx : V.heap[B]? = some (shB s bv0 nv0)) (hrx : V.heap[D]? = some (shB ⟨0, 0, 0, [], []⟩ (.slice none 0 0) (.slice none 0 0))) (gk : Grow V wk) (g3 : Grow wk w3) (ho : OwnS wk.heap.size bv nv X Y w3) (low : w0.heap.size ≤ B ∧ w0.heap.size ≤ D ∧ B ≠ D) :
    StB w0 B D s.nb s.nn s.ns bv nv X Y (set5w w3 B (.int .i64 s.nb) (.int .i64 s.nn) (.int .i64 s.ns) bv nv) := by
  have hb := (gk.trans g3).blk hbx
  have hr := (gk.trans g3).blk hrx
  obtain ⟨h1, h2⟩ := set5 hb (.int .i64 s.nb) (.int .i64 s.nn) (.int .i64 s.ns) bv nv
  exact ⟨h2.grow ((gV.trans gk).trans g3) low.1, h1, (h2.block D (Array.getElem?_eq_some_iff.1 hr).1 (Ne.symm low.2.2)).trans hr, (ho.base_mono (gV.trans gk).size).kept (shelf_kept hb h2), low⟩
theorem StB.keep (h : StB w0 B D nb nn ns bv nv X Y w) {e : TypeId} (he : 28 ≠ e) (k : Kept e w w') : w'.heap[B]? = some (shQ nb nn ns bv nv) ∧ w'.heap[D]? = some (shQ 0 0 0 (.slice none 0 0) (.slice none 0 0)) := ⟨k _ _ _ _ he h.box, k _ _ _ _ he h.res⟩
theorem grown_grow {v : Value} {e : TypeId} {k n : Nat} {xs : List Value} (g0 : Grow w0 w) (h : RowO w0.heap.size e k v n xs w) (g : w.grownBy w' (blkOf v)) : Grow w0 w' := Below.grown g0 g g0.size (fun b hb => (h.blk hb).1)
/-- The books' row was turned; now the box is stored. -/
theorem StB.toB (h : StB w0 B D nb nn ns bv nv X Y w) {v' : Value} {X' : List Book} (hr : RowO w0.heap.size 37 2 v' X'.length (X'.flatMap bookC) w') (g : w.grownBy w' (blkOf bv)) :
    w'.cell? ⟨B, 3, none⟩ = some bv ∧ w'.frozen? ⟨B, 3, none⟩ = false ∧ B < w'.heap.size ∧ StB w0 B D nb nn ns v' nv X' Y (w'.setCell ⟨B, 3, none⟩ v') := by
  have hk := h.own.books.keeps g
  obtain ⟨h1, h2⟩ := h.keep (by decide) hk
  exact ⟨(cell_of_row w' B 3 _ _ _ h1).trans rfl, frozen_of_row w' B 3 _ _ h1, (Array.getElem?_eq_some_iff.1 h1).1, StB.put (grown_grow h.grow h.own.books g) (h.own.books' hk hr) h2 h1 h.low rfl⟩
theorem StB.book (h : StB w0 B D nb nn ns bv nv X Y w) {x : Book} {v' : Value} (ra : AppR w0.heap.size 37 2 w bv X.length (X.flatMap bookC) (bookC x) v' w') :
    w'.cell? ⟨B, 3, none⟩ = some bv ∧ w'.frozen? ⟨B, 3, none⟩ = false ∧ B < w'.heap.size ∧ StB w0 B D nb nn ns v' nv (X ++ [x]) Y (w'.setCell ⟨B, 3, none⟩ v') := by
  refine h.toB ?_ ra.2.1
  have := ra.1
  rw [List.length_append, List.flatMap_append]
  simpa using this
/-- The notes' row was turned. -/
theorem StB.toN (h : StB w0 B D nb nn ns bv nv X Y w) {v' : Value} {Y' : List NV} (ho : OwnS w0.heap.size bv v' X Y' w') (g : w.grownBy w' (blkOf nv)) :
    w'.cell? ⟨B, 4, none⟩ = some nv ∧ w'.frozen? ⟨B, 4, none⟩ = false ∧ B < w'.heap.size ∧ StB w0 B D nb nn ns bv v' X Y' (w'.setCell ⟨B, 4, none⟩ v') := by
  have hk := h.own.notes.keeps g
  obtain ⟨h1, h2⟩ := h.keep (by decide) hk
  exact ⟨(cell_of_row w' B 4 _ _ _ h1).trans rfl, frozen_of_row w' B 4 _ _ h1, (Array.getElem?_eq_some_iff.1 h1).1, StB.put (grown_grow h.grow h.own.notes g) ho h2 h1 h.low rfl⟩
theorem StB.subN (h : StB w0 B D nb nn ns bv nv X Y w) {v' : Value} {Y' : List NV} (hs : Y'.Sublist Y) (hr : RowO w0.heap.size 41 5 v' Y'.length (Y'.flatMap noteC) w') (g : w.grownBy w' (blkOf nv)) :
    w'.cell? ⟨B, 4, none⟩ = some nv ∧ w'.frozen? ⟨B, 4, none⟩ = false ∧ B < w'.heap.size ∧ StB w0 B D nb nn ns bv v' X Y' (w'.setCell ⟨B, 4, none⟩ v') :=
  h.toN (h.own.notes' (h.own.notes.keeps g) hr (fun y hy => h.own.tags y (hs.subset hy)) (fun y hy => h.own.sheets y (hs.subset hy)) (h.own.tsep.sublist hs) (h.own.ssep.sublist hs)) g
theorem StB.note (h : StB w0 B D nb nn ns bv nv X Y w) {x : NV} (ht : x.tv = .slice none 0 0 ∧ x.n.tags = []) (hs : x.sv = .slice none 0 0 ∧ x.n.sheets = []) {v' : Value} (ra : AppR w0.heap.size 41 5 w nv Y.length (Y.flatMap noteC) (noteC x) v' w') :
    w'.cell? ⟨B, 4, none⟩ = some nv ∧ w'.frozen? ⟨B, 4, none⟩ = false ∧ B < w'.heap.size ∧ StB w0 B D nb nn ns bv v' X (Y ++ [x]) (w'.setCell ⟨B, 4, none⟩ v') := h.toN (h.own.addNote ht hs ra) ra.2.1
/-- A book's name is stored. -/
theorem StB.setB (h : StB w0 B D nb nn ns bv nv X Y w) {i : Nat} {x : Book} (hx : X[i]? = some x) (s : ByteArray) {b c : Nat} (e : bv = .slice (some ⟨b, 0, none⟩) X.length c) : StB w0 B D nb nn ns bv nv (X.set i { x with name := s }) Y (w.setCell ⟨b, i * 2 + 1, none⟩ (.string s)) := by
  obtain ⟨h1, h2⟩ := h.own.setBook hx s e
  have hc : (X.flatMap bookC)[i * 2 + 1]? = some (.string x.name) := by rw [flat_get bookC (fun _ => rfl) X i 1 x hx (by decide)]; rfl
  obtain ⟨b', c', e1, -, -, -, hb⟩ := h.own.books.cell hc
  rw [e] at e1
  injection e1 with e1
  injection e1 with e1
  injection e1 with e1
  subst e1
  obtain ⟨hl, cur, hcur⟩ := h.own.books.blk hb
  exact h.rows h1 hcur (by decide) hl h2
theorem StB.nrow (h : StB w0 B D nb nn ns bv nv X Y w) {i : Nat} {y : NV} (hy : Y[i]? = some y) {b c : Nat} (e : nv = .slice (some ⟨b, 0, none⟩) Y.length c) : w0.heap.size ≤ b ∧ ∃ cur : Array Value, w.heap[b]? = some (.cells cur 41 (0, 0)) := by
  have hc : (Y.flatMap noteC)[i * 5 + 1]? = some (.int .i64 y.n.book) := by rw [flat_get noteC (fun _ => rfl) Y i 1 y hy (by decide)]; rfl
  obtain ⟨b', c', e1, -, -, -, hb⟩ := h.own.notes.cell hc
  rw [e] at e1
  injection e1 with e1
  injection e1 with e1
  injection e1 with e1
  subst e1
  exact h.own.notes.blk hb
theorem StB.setN (h : StB w0 B D nb nn ns bv nv X Y w) {i : Nat} {y : NV} (hy : Y[i]? = some y) (s : ByteArray) {b c : Nat} (e : nv = .slice (some ⟨b, 0, none⟩) Y.length c) : StB w0 B D nb nn ns bv nv X (Y.set i { y with n := { y.n with name := s } }) (w.setCell ⟨b, i * 5 + 2, none⟩ (.string s)) := by
  obtain ⟨h1, h2⟩ := h.own.setName hy s e
  obtain ⟨hl, cur, hcur⟩ := h.nrow hy e
  exact h.rows h1 hcur (by decide) hl h2
theorem StB.setQ (h : StB w0 B D nb nn ns bv nv X Y w) {i : Nat} {y : NV} (hy : Y[i]? = some y) (q : Int) {b c : Nat} (e : nv = .slice (some ⟨b, 0, none⟩) Y.length c) : StB w0 B D nb nn ns bv nv X (Y.set i { y with n := { y.n with book := q } }) (w.setCell ⟨b, i * 5 + 1, none⟩ (.int .i64 q)) := by
  obtain ⟨h1, h2⟩ := h.own.setBookOf hy q e
  obtain ⟨hl, cur, hcur⟩ := h.nrow hy e
  exact h.rows h1 hcur (by decide) hl h2
/-- A note's tags were turned; now its cell is stored. -/
theorem StB.retag (h : StB w0 B D nb nn ns bv nv X Y w) {i : Nat} {y : NV} (hy : Y[i]? = some y) {v : Value} {l : List ByteArray} {w1 : World} (hr : RowO w0.heap.size 9 1 v l.length (strC l) w1) (g : w.grownBy w1 (blkOf y.tv))
    (hb : ∀ b, blkOf v = some b → blkOf y.tv = some b ∨ w.heap.size ≤ b) {b c : Nat} (e : nv = .slice (some ⟨b, 0, none⟩) Y.length c) :
    w1.cell? ⟨b, i * 5 + 3, none⟩ = some y.tv ∧ w1.frozen? ⟨b, i * 5 + 3, none⟩ = false ∧ b < w1.heap.size ∧ StB w0 B D nb nn ns bv nv X (Y.set i ⟨{ y.n with tags := l }, v, y.sv⟩) (w1.setCell ⟨b, i * 5 + 3, none⟩ v) := by
  obtain ⟨c1, c2, ho, ht, hk⟩ := h.own.retag hy hr g hb e
  obtain ⟨hl, cur, hcur⟩ := h.nrow hy e
  have hc1 := hk _ _ _ _ (by decide) hcur
  have hB := hk _ _ _ _ (by decide) h.box
  have hD := hk _ _ _ _ (by decide) h.res
  have k2 := kept_of_turned hc1 ht
  have gg : Grow w0 w1 := grown_grow h.grow (h.own.tags y (List.mem_of_getElem? hy)) g
  exact ⟨c1, c2, (Array.getElem?_eq_some_iff.1 hc1).1, ⟨ht.grow gg hl, k2 _ _ _ _ (by decide) hB, k2 _ _ _ _ (by decide) hD, ho, h.low⟩⟩
theorem StB.resheet (h : StB w0 B D nb nn ns bv nv X Y w) {i : Nat} {y : NV} (hy : Y[i]? = some y) {v : Value} {l : List Int} {w1 : World} (hr : RowO w0.heap.size 3 1 v l.length (intC l) w1) (g : w.grownBy w1 (blkOf y.sv))
    (hb : ∀ b, blkOf v = some b → blkOf y.sv = some b ∨ w.heap.size ≤ b) {b c : Nat} (e : nv = .slice (some ⟨b, 0, none⟩) Y.length c) :
    w1.cell? ⟨b, i * 5 + 4, none⟩ = some y.sv ∧ w1.frozen? ⟨b, i * 5 + 4, none⟩ = false ∧ b < w1.heap.size ∧ StB w0 B D nb nn ns bv nv X (Y.set i ⟨{ y.n with sheets := l }, y.tv, v⟩) (w1.setCell ⟨b, i * 5 + 4, none⟩ v) := by
  obtain ⟨c1, c2, ho, ht, hk⟩ := h.own.resheet hy hr g hb e
  obtain ⟨hl, cur, hcur⟩ := h.nrow hy e
  have hc1 := hk _ _ _ _ (by decide) hcur
  have hB := hk _ _ _ _ (by decide) h.box
  have hD := hk _ _ _ _ (by decide) h.res
  have k2 := kept_of_turned hc1 ht
  have gg : Grow w0 w1 := grown_grow h.grow (h.own.sheets y (List.mem_of_getElem? hy)) g
  exact ⟨c1, c2, (Array.getElem?_eq_some_iff.1 hc1).1, ⟨ht.grow gg hl, k2 _ _ _ _ (by decide) hB, k2 _ _ _ _ (by decide) hD, ho, h.low⟩⟩
theorem StB.tagApp (h : StB w0 B D nb nn ns bv nv X Y w) {i : Nat} {y : NV} (hy : Y[i]? = some y) {x : ByteArray} {v' : Value} (ra : AppR w0.heap.size 9 1 w y.tv y.n.tags.length (strC y.n.tags) [.string x] v' w') {b c : Nat} (e : nv = .slice (some ⟨b, 0, none⟩) Y.length c) :
    w'.cell? ⟨b, i * 5 + 3, none⟩ = some y.tv ∧ w'.frozen? ⟨b, i * 5 + 3, none⟩ = false ∧ b < w'.heap.size ∧ StB w0 B D nb nn ns bv nv X (Y.set i ⟨{ y.n with tags := y.n.tags ++ [x] }, v', y.sv⟩) (w'.setCell ⟨b, i * 5 + 3, none⟩ v') := by
  have hr : RowO w0.heap.size 9 1 v' (y.n.tags ++ [x]).length (strC (y.n.tags ++ [x])) w' := by
    have := ra.1
    unfold strC at this ⊢
    rw [List.length_append, List.map_append]; exact this
  obtain ⟨g, hg1, hg2⟩ := ra.2.2.1
  exact h.retag hy hr ra.2.1 (fun q hq => by rw [hg1] at hq; obtain rfl := Option.some.inj hq; exact hg2) e
theorem StB.sheetApp (h : StB w0 B D nb nn ns bv nv X Y w) {i : Nat} {y : NV} (hy : Y[i]? = some y) {x : Int} {v' : Value} (ra : AppR w0.heap.size 3 1 w y.sv y.n.sheets.length (intC y.n.sheets) [.int .i64 x] v' w') {b c : Nat} (e : nv = .slice (some ⟨b, 0, none⟩) Y.length c) :
    w'.cell? ⟨b, i * 5 + 4, none⟩ = some y.sv ∧ w'.frozen? ⟨b, i * 5 + 4, none⟩ = false ∧ b < w'.heap.size ∧ StB w0 B D nb nn ns bv nv X (Y.set i ⟨{ y.n with sheets := y.n.sheets ++ [x] }, y.tv, v'⟩) (w'.setCell ⟨b, i * 5 + 4, none⟩ v') := by
  have hr : RowO w0.heap.size 3 1 v' (y.n.sheets ++ [x]).length (intC (y.n.sheets ++ [x])) w' := by
    have := ra.1
    unfold intC at this ⊢
    rw [List.length_append, List.map_append]; exact this
  obtain ⟨g, hg1, hg2⟩ := ra.2.2.1
  exact h.resheet hy hr ra.2.1 (fun q hq => by rw [hg1] at hq; obtain rfl := Option.some.inj hq; exact hg2) e
theorem setCell_self {w : World} {b j : Nat} {v : Value} (h : w.cell? ⟨b, j, none⟩ = some v) : w.setCell ⟨b, j, none⟩ v = w := by
  rw [Go.Sort.setCell_eq]
  refine Go.Sort.mapBlock_id w b _ fun c e fr hb => ?_
  rw [cell_of_row w b j _ _ _ hb] at h
  obtain ⟨hj, e⟩ := Array.getElem?_eq_some_iff.1 h
  rw [← e]
  apply Array.ext_getElem?
  intro i
  rw [Array.getElem?_setIfInBounds]
  split
  · rename_i hij; subst hij; simp [hj]
  · rfl
/-- A note's tags were turned where they stand. -/
theorem StB.resort (h : StB w0 B D nb nn ns bv nv X Y w) {i : Nat} {y : NV} (hy : Y[i]? = some y) {l : List ByteArray} {w1 : World} (hr : RowO w0.heap.size 9 1 y.tv l.length (strC l) w1) (g : w.grownBy w1 (blkOf y.tv)) {b c : Nat} (e : nv = .slice (some ⟨b, 0, none⟩) Y.length c) :
    StB w0 B D nb nn ns bv nv X (Y.set i ⟨{ y.n with tags := l }, y.tv, y.sv⟩) w1 := by
  obtain ⟨c1, -, -, h2⟩ := h.retag hy hr g (fun b hb => .inl hb) e
  rw [setCell_self c1] at h2
  exact h2
/-- A number of the box is stored. -/
theorem StB.num0 (h : StB w0 B D nb nn ns bv nv X Y w) (x : Int) : StB w0 B D x nn ns bv nv X Y (w.setCell ⟨B, 0, none⟩ (.int .i64 x)) := StB.put h.grow h.own h.res h.box h.low rfl
theorem StB.num1 (h : StB w0 B D nb nn ns bv nv X Y w) (x : Int) : StB w0 B D nb x ns bv nv X Y (w.setCell ⟨B, 1, none⟩ (.int .i64 x)) := StB.put h.grow h.own h.res h.box h.low rfl
theorem StB.num2 (h : StB w0 B D nb nn ns bv nv X Y w) (x : Int) : StB w0 B D nb nn x bv nv X Y (w.setCell ⟨B, 2, none⟩ (.int .i64 x)) := StB.put h.grow h.own h.res h.box h.low rfl
end
theorem OwnD2.drew {base D : Nat} {bv nv : Value} {X : List Book} {Y : List NV} {W0 w : World} (h : OwnD2 base bv nv X Y W0 D w) : OwnD2 base bv nv X Y W0 D w.drew :=
  ⟨h.1.drew, h.2.1.grow (Grow.refl w).drew, h.2.2.elim fun cs hc => ⟨cs, (Grow.refl w).drew.blk hc⟩⟩
/-- What a change answers: a shelf of the call's own, and an error. -/
def RetC (r : Res) (w : World) (e : Ending) (w' : World) : Prop :=
  Grow w w' ∧ ∃ bv nv Y, e = .returned (.tuple #[shelfV r.s bv nv, .int .i64 r.e]) ∧ OwnS w.heap.size bv nv r.s.books Y w' ∧ Y.map NV.n = r.s.notes
def RetM (r : Res) (w : World) (e : Ending) (w' : World) : Prop :=
  Grow w w' ∧ ∃ bv nv Y, e = .returned (.tuple #[shelfV r.s bv nv, .int .i64 r.n, .int .i64 r.e]) ∧ OwnS w.heap.size bv nv r.s.books Y w' ∧ Y.map NV.n = r.s.notes
theorem ret_badC {r : Res} {e : Int} {w w' : World} (h : r = bad e) (g : Grow w w') : RetC r w (.returned (.tuple #[zV, .int .i64 e])) w' := by
  subst h; exact ⟨g, _, _, [], rfl, OwnS.nil, rfl⟩
theorem ret_badM {r : Res} {e : Int} {w w' : World} (h : r = bad e) (g : Grow w w') : RetM r w (.returned (.tuple #[zV, .int .i64 0, .int .i64 e])) w' := by
  subst h; exact ⟨g, _, _, [], rfl, OwnS.nil, rfl⟩
theorem ret_okC {r : Res} {s : Shelf} {n : Int} {w w' : World} {bv nv : Value} {Y : List NV} {D : Nat} (h : r = ⟨s, n, 0⟩) (ho : OwnD2 w.heap.size bv nv s.books Y w D w') (hm : Y.map NV.n = s.notes) : RetC r w (.returned (.tuple #[shelfV s bv nv, .int .i64 0])) w' := by
  subst h; exact ⟨ho.1, bv, nv, Y, rfl, ho.2.1, hm⟩
theorem ret_okM {r : Res} {s : Shelf} {n : Int} {w w' : World} {bv nv : Value} {Y : List NV} {D : Nat} (h : r = ⟨s, n, 0⟩) (ho : OwnD2 w.heap.size bv nv s.books Y w D w') (hm : Y.map NV.n = s.notes) : RetM r w (.returned (.tuple #[shelfV s bv nv, .int .i64 n, .int .i64 0])) w' := by
  subst h; exact ⟨ho.1, bv, nv, Y, rfl, ho.2.1, hm⟩
theorem res_bad {e e' : Int} (h : e = e') (h0 : e' ≠ 0) (s : Shelf) (n : Int) : resOf e s n = bad e' := by subst h; exact resOf_no h0 s n
end Go.Proofs.YtnajccljdjllgaaDoor
