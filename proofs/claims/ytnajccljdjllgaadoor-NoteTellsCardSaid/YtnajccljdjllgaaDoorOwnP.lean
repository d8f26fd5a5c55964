/- A copy of a shelf: shelf.own, note.own. -/
import Derived.Test.YtnajccljdjllgaaDoorClone
import Derived.Test.YtnajccljdjllgaaDoorSameb
import Derived.Deep.RegionLaw
set_option linter.unusedVariables false
set_option linter.unusedSimpArgs false
namespace Go.Proofs.YtnajccljdjllgaaDoor
open Go.RowKit Go.Lib
theorem chunk_split {xs : List Value} {k : Nat} (i : Nat) : (((xs.drop k).drop (i * k)).take k) = ((xs.drop ((i + 1) * k)).take k) := by
  rw [List.drop_drop, Nat.add_mul, Nat.one_mul, Nat.add_comm k]
theorem books_cells {w : World} : ∀ (l : List Book) (xs : List Value), xs.length = l.length * 2 → (∀ (i : Nat) a, l[i]? = some a → BookR w a ((xs.drop (i * 2)).take 2)) → xs = l.flatMap bookC
  | [], xs, h, _ => List.eq_nil_of_length_eq_zero (by simpa using h)
  | a :: l, xs, h, hR => by
    have h0 : xs.take 2 = bookC a := by have := hR 0 a rfl; unfold BookR at this; simpa using this
    have ih := books_cells (w := w) l (xs.drop 2) (by rw [List.length_drop, h, List.length_cons]; omega) (fun i b hb => by rw [chunk_split]; exact hR (i + 1) b (by simpa using hb))
    rw [List.flatMap_cons, ← h0, ← ih, List.take_append_drop]
theorem notes_cells {w : World} : ∀ (l : List Note) (xs : List Value), xs.length = l.length * 5 → (∀ (i : Nat) a, l[i]? = some a → NoteR w a ((xs.drop (i * 5)).take 5)) → ∃ Y : List NV, Y.map NV.n = l ∧ xs = Y.flatMap noteC ∧ ∀ y ∈ Y, Texts w y.tv y.n.tags ∧ Ints w y.sv y.n.sheets
  | [], xs, h, _ => ⟨[], rfl, List.eq_nil_of_length_eq_zero (by simpa using h), by simp⟩
  | a :: l, xs, h, hR => by
    obtain ⟨tv, sv, h0, ht, hs⟩ := hR 0 a rfl
    obtain ⟨Y, h1, h2, h3⟩ := notes_cells (w := w) l (xs.drop 5) (by rw [List.length_drop, h, List.length_cons]; omega) (fun i b hb => by rw [chunk_split]; exact hR (i + 1) b (by simpa using hb))
    refine ⟨⟨a, tv, sv⟩ :: Y, by rw [List.map_cons, h1], ?_, fun y hy => ?_⟩
    · have h0' : xs.take 5 = noteC ⟨a, tv, sv⟩ := by simpa using h0
      rw [List.flatMap_cons, ← h0', ← h2, List.take_append_drop]
    · rcases List.mem_cons.1 hy with rfl | hy
      · exact ⟨ht, hs⟩
      · exact h3 y hy
theorem text_cells {w : World} : ∀ (l : List ByteArray) (xs : List Value), xs.length = l.length * 1 → (∀ (i : Nat) a, l[i]? = some a → TextR w a ((xs.drop (i * 1)).take 1)) → xs = strC l
  | [], xs, h, _ => List.eq_nil_of_length_eq_zero (by simpa using h)
  | a :: l, xs, h, hR => by
    have h0 : xs.take 1 = [.string a] := by have := hR 0 a rfl; unfold TextR at this; simpa using this
    have ih := text_cells (w := w) l (xs.drop 1) (by rw [List.length_drop, h, List.length_cons]; omega) (fun i b hb => by rw [chunk_split]; exact hR (i + 1) b (by simpa using hb))
    show xs = Value.string a :: strC l
    rw [← ih]
    have := List.take_append_drop 1 xs
    rw [h0] at this
    exact this.symm
theorem int_cells {w : World} : ∀ (l : List Int) (xs : List Value), xs.length = l.length * 1 → (∀ (i : Nat) a, l[i]? = some a → IntR w a ((xs.drop (i * 1)).take 1)) → xs = intC l
  | [], xs, h, _ => List.eq_nil_of_length_eq_zero (by simpa using h)
  | a :: l, xs, h, hR => by
    have h0 : xs.take 1 = [.int .i64 a] := by have := hR 0 a rfl; unfold IntR at this; simpa using this
    have ih := int_cells (w := w) l (xs.drop 1) (by rw [List.length_drop, h, List.length_cons]; omega) (fun i b hb => by rw [chunk_split]; exact hR (i + 1) b (by simpa using hb))
    show xs = Value.int .i64 a :: intC l
    rw [← ih]
    have := List.take_append_drop 1 xs
    rw [h0] at this
    exact this.symm
/-- The first i notes' rows are the call's own, the others' as they were in w0. -/
structure OwnP (base : Nat) (bv nv : Value) (X : List Book) (Y : List NV) (i : Nat) (w0 w : World) : Prop where
  books : RowO base 37 2 bv X.length (X.flatMap bookC) w
  notes : RowO base 41 5 nv Y.length (Y.flatMap noteC) w
  done : ∀ (j : Nat) y, j < i → Y[j]? = some y → RowO base 9 1 y.tv y.n.tags.length (strC y.n.tags) w ∧ RowO base 3 1 y.sv y.n.sheets.length (intC y.n.sheets) w
  rest : ∀ (j : Nat) y, i ≤ j → Y[j]? = some y → Texts w0 y.tv y.n.tags ∧ Ints w0 y.sv y.n.sheets
  tsep : ∀ (j k : Nat) y z, j < k → k < i → Y[j]? = some y → Y[k]? = some z → ∀ b, blkOf y.tv = some b → blkOf z.tv ≠ some b
  ssep : ∀ (j k : Nat) y z, j < k → k < i → Y[j]? = some y → Y[k]? = some z → ∀ b, blkOf y.sv = some b → blkOf z.sv ≠ some b
section
variable {base : Nat} {bv nv : Value} {X : List Book} {Y : List NV} {i : Nat} {w0 w w' : World}
theorem OwnP.kept (h : OwnP base bv nv X Y i w0 w) (k : KeptS w w') : OwnP base bv nv X Y i w0 w' := by
  have one : ∀ {e : TypeId} {c : Nat} {v : Value} {n : Nat} {xs : List Value}, (e = 37 ∨ e = 41 ∨ e = 9 ∨ e = 3) → RowO base e c v n xs w → RowO base e c v n xs w' := fun he hr =>
    hr.kept_of fun g hg => by obtain ⟨-, cur, hc⟩ := hr.blk hg; rw [hc]; exact k g cur _ he hc
  exact ⟨one (.inl rfl) h.books, one (.inr (.inl rfl)) h.notes, fun j y hj hy => ⟨one (.inr (.inr (.inl rfl))) (h.done j y hj hy).1, one (.inr (.inr (.inr rfl))) (h.done j y hj hy).2⟩, h.rest, h.tsep, h.ssep⟩
theorem OwnP.all (h : OwnP base bv nv X Y i w0 w) (hi : Y.length ≤ i) : OwnS base bv nv X Y w := by
  refine ⟨h.books, h.notes, fun y hy => ?_, fun y hy => ?_, ?_, ?_⟩
  · obtain ⟨j, hj⟩ := List.getElem?_of_mem hy
    exact (h.done j y (by have := (List.getElem?_eq_some_iff.1 hj).1; omega) hj).1
  · obtain ⟨j, hj⟩ := List.getElem?_of_mem hy
    exact (h.done j y (by have := (List.getElem?_eq_some_iff.1 hj).1; omega) hj).2
  · rw [List.pairwise_iff_getElem]
    intro j k hj hk hjk
    exact h.tsep j k _ _ hjk (by omega) (List.getElem?_eq_getElem hj) (List.getElem?_eq_getElem hk)
  · rw [List.pairwise_iff_getElem]
    intro j k hj hk hjk
    exact h.ssep j k _ _ hjk (by omega) (List.getElem?_eq_getElem hj) (List.getElem?_eq_getElem hk)
/-- A note's cells. -/
theorem OwnP.note (h : OwnP base bv nv X Y i w0 w) {j : Nat} {y : NV} (hy : Y[j]? = some y) {b c : Nat} (e : nv = .slice (some ⟨b, 0, none⟩) Y.length c) (p : Nat) (u : Value) (hu : (noteC y)[p]? = some u) : w.cell? ⟨b, j * 5 + p, none⟩ = some u ∧ w.frozen? ⟨b, j * 5 + p, none⟩ = false ∧ b < w.heap.size := by
  have hp : p < 5 := by have := (List.getElem?_eq_some_iff.1 hu).1; simpa using this
  have hc : (Y.flatMap noteC)[j * 5 + p]? = some u := by rw [flat_get noteC (fun _ => rfl) Y j p y hy hp]; exact hu
  obtain ⟨b', c', e1, h1, h2, h3, -⟩ := h.notes.cell hc
  rw [e] at e1
  injection e1 with e2
  injection e2 with e2
  injection e2 with e2
  subst e2
  exact ⟨h1, h2, h3⟩
theorem OwnP.start {w1 : World} (g : Grow w0 w1) (hb : RowO base 37 2 bv X.length (X.flatMap bookC) w1) (hn : RowO base 41 5 nv Y.length (Y.flatMap noteC) w1) (hr : ∀ y ∈ Y, Texts w0 y.tv y.n.tags ∧ Ints w0 y.sv y.n.sheets) : OwnP base bv nv X Y 0 w0 w1 :=
  ⟨hb, hn, fun j y hj => absurd hj (by omega), fun j y _ hy => hr y (List.mem_of_getElem? hy), fun j k y z _ hk => absurd hk (by omega), fun j k y z _ hk => absurd hk (by omega)⟩
/-- The next note's rows, laid anew. -/
theorem OwnP.step (h : OwnP base bv nv X Y i w0 w) {y : NV} (hy : Y[i]? = some y) (g : Grow w w') {tv sv : Value} (ht : RowO w.heap.size 9 1 tv y.n.tags.length (strC y.n.tags) w') (hs : RowO w.heap.size 3 1 sv y.n.sheets.length (intC y.n.sheets) w') (hbase : base ≤ w.heap.size)
    {b c : Nat} (e : nv = .slice (some ⟨b, 0, none⟩) Y.length c) :
    OwnP base bv nv X (Y.set i ⟨y.n, tv, sv⟩) (i + 1) w0 ((w'.setCell ⟨b, i * 5 + 3, none⟩ tv).setCell ⟨b, i * 5 + 4, none⟩ sv) ∧ Turned b w' ((w'.setCell ⟨b, i * 5 + 3, none⟩ tv).setCell ⟨b, i * 5 + 4, none⟩ sv) ∧ base ≤ b ∧ ∃ cur : Array Value, w'.heap[b]? = some (.cells cur 41 (0, 0)) := by
  have h' := h.kept (.of_grow g)
  have hi := (List.getElem?_eq_some_iff.1 hy).1
  have hc3 : (Y.flatMap noteC)[i * 5 + 3]? = some y.tv := by rw [flat_get noteC (fun _ => rfl) Y i 3 y hy (by decide)]; rfl
  obtain ⟨b1, c1, e1, -, hr1, t1, cur1, hcur1⟩ := h'.notes.stored hc3 tv
  rw [e] at e1
  injection e1 with e2
  injection e2 with e2
  injection e2 with e2
  subst e2
  rw [flat_set noteC (fun _ => rfl) (y := ⟨y.n, tv, y.sv⟩) hy (by decide) rfl] at hr1
  have hy2 : (Y.set i ⟨y.n, tv, y.sv⟩)[i]? = some ⟨y.n, tv, y.sv⟩ := List.getElem?_set_self hi
  have hc4 : ((Y.set i ⟨y.n, tv, y.sv⟩).flatMap noteC)[i * 5 + 4]? = some y.sv := by rw [flat_get noteC (fun _ => rfl) _ i 4 _ hy2 (by decide)]; rfl
  obtain ⟨b2, c2, e3, hb2, hr2, t2, cur2, hcur2⟩ := hr1.stored hc4 sv
  rw [e] at e3
  injection e3 with e4
  injection e4 with e4
  injection e4 with e4
  subst e4
  rw [flat_set noteC (fun _ => rfl) (y := ⟨y.n, tv, sv⟩) hy2 (by decide) rfl, List.set_set] at hr2
  have k1 := kept_of_turned hcur1 t1
  have k2 := kept_of_turned hcur2 t2
  have kk := k1.trans k2
  have hst : ∀ (j : Nat) z, (Y.set i ⟨y.n, tv, sv⟩)[j]? = some z → (j = i ∧ z = ⟨y.n, tv, sv⟩) ∨ (j ≠ i ∧ Y[j]? = some z) := fun j z hz => by
    rw [List.getElem?_set] at hz
    by_cases e : i = j
    · rw [if_pos e, if_pos (by omega)] at hz
      exact .inl ⟨e.symm, (Option.some.inj hz).symm⟩
    · rw [if_neg e] at hz; exact .inr ⟨fun e' => e e'.symm, hz⟩
  refine ⟨⟨h'.books.kept (by decide) kk, by rw [List.length_set]; exact hr2, fun j z hj hz => ?_, fun j z hj hz => ?_, fun j k p q hjk hk hp hq bb hb1 hb2' => ?_, fun j k p q hjk hk hp hq bb hb1 hb2' => ?_⟩, t1.trans t2, ?_, cur1, hcur1⟩
  · rcases hst j z hz with ⟨rfl, rfl⟩ | ⟨hne, hz⟩
    · exact ⟨(ht.base_mono hbase).kept (by decide) kk, (hs.base_mono hbase).kept (by decide) kk⟩
    · have := h'.done j z (by omega) hz
      exact ⟨this.1.kept (by decide) kk, this.2.kept (by decide) kk⟩
  · rcases hst j z hz with ⟨rfl, rfl⟩ | ⟨hne, hz⟩
    · omega
    · exact h.rest j z (by omega) hz
  · rcases hst j p hp with ⟨e7, -⟩ | ⟨hne, hp'⟩
    · omega
    rcases hst k q hq with ⟨e7, e8⟩ | ⟨hne2, hq'⟩
    · rw [e8] at hb2'
      have a1 := (h.done j p (by omega) hp').1.blk_lt hb1
      have a2 := (ht.blk hb2').1
      omega
    · exact h.tsep j k p q hjk (by omega) hp' hq' bb hb1 hb2'
  · rcases hst j p hp with ⟨e7, -⟩ | ⟨hne, hp'⟩
    · omega
    rcases hst k q hq with ⟨e7, e8⟩ | ⟨hne2, hq'⟩
    · rw [e8] at hb2'
      have a1 := (h.done j p (by omega) hp').2.blk_lt hb1
      have a2 := (hs.blk hb2').1
      omega
    · exact h.ssep j k p q hjk (by omega) hp' hq' bb hb1 hb2'
  · exact (h.notes.blk (g := b) (by
      obtain ⟨b3, c3, e5, -, -, -, hb3⟩ := h.notes.cell hc3
      have e6 : some b = some b3 := by
        have := e.symm.trans e5
        injection this with e6
        injection e6 with e6
        injection e6 with e6
        rw [e6]
      rw [e6]; exact hb3)).1
end
theorem OwnS.base_mono {base base' : Nat} {bv nv : Value} {X : List Book} {Y : List NV} {w : World} (h : OwnS base bv nv X Y w) (hb : base' ≤ base) : OwnS base' bv nv X Y w :=
  ⟨h.books.base_mono hb, h.notes.base_mono hb, fun y hy => (h.tags y hy).base_mono hb, fun y hy => (h.sheets y hy).base_mono hb, h.tsep, h.ssep⟩
/-- What a copy answers. -/
def RetOwn (s : Shelf) (w : World) (e : Ending) (w' : World) : Prop :=
  ∃ bv nv Y, e = .returned (shelfV s bv nv) ∧ OwnS w.heap.size bv nv s.books Y w' ∧ Y.map NV.n = s.notes ∧ Grow w w'
abbrev shB (s : Shelf) (bv nv : Value) : Obj := .cells #[.int .i64 s.nb, .int .i64 s.nn, .int .i64 s.ns, bv, nv] 28
theorem sh5 {w : World} {b : Nat} {t : TypeId} {m : Nat × Nat} {u0 u1 u2 u3 u4 : Value} (hb : w.heap[b]? = some (.cells #[u0, u1, u2, u3, u4] t m)) :
    w.cell? ⟨b, 0, none⟩ = some u0 ∧ w.cell? ⟨b, 1, none⟩ = some u1 ∧ w.cell? ⟨b, 2, none⟩ = some u2 ∧ w.cell? ⟨b, 3, none⟩ = some u3 ∧ w.cell? ⟨b, 4, none⟩ = some u4 :=
  ⟨(cell_of_row w b 0 _ _ _ hb).trans rfl, (cell_of_row w b 1 _ _ _ hb).trans rfl, (cell_of_row w b 2 _ _ _ hb).trans rfl, (cell_of_row w b 3 _ _ _ hb).trans rfl, (cell_of_row w b 4 _ _ _ hb).trans rfl⟩
/-- The boxes of a copy's walk: the shelf's, the result's. -/
structure OwnB (s : Shelf) (w : World) (bv nv : Value) (Y : List NV) (i : Nat) (wx : World) : Prop where
  grow : Grow w wx
  box : wx.heap[w.heap.size]? = some (shB s bv nv)
  res : wx.heap[w.heap.size + 1]? = some (shB ⟨0, 0, 0, [], []⟩ (.slice none 0 0) (.slice none 0 0))
  own : OwnP w.heap.size bv nv s.books Y i w wx
  map : Y.map NV.n = s.notes
end Go.Proofs.YtnajccljdjllgaaDoor
