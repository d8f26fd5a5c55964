/- The walk of jotterref17.May: it is mayS. -/
import Derived.Test.YtnajccljdjllgaaDoorRefm
set_option linter.unusedVariables false
set_option linter.unusedSimpArgs false
namespace Go.Proofs.YtnajccljdjllgaaDoor
open Go.RowKit Go.Lib
theorem rsheetsOk_iff (ns : Int) : ∀ (L S : List Int), sheetsOk ns S L = true ↔ (∀ y ∈ L, 1 ≤ y ∧ y ≤ ns - 1) ∧ L.Nodup ∧ ∀ y ∈ L, y ∉ S
  | [], S => by simp [sheetsOk]
  | x :: L, S => by
    have ih := rsheetsOk_iff ns L (x :: S)
    unfold sheetsOk
    rw [Bool.and_eq_true, Bool.and_eq_true, Bool.and_eq_true, ih, decide_eq_true_eq, decide_eq_true_eq, Bool.not_eq_true', decide_eq_false_iff_not, List.nodup_cons]
    constructor
    · rintro ⟨⟨h1, h2, h3⟩, h4, h5, h6⟩
      refine ⟨fun y hy => ?_, ⟨fun hx => h6 x hx (List.mem_cons_self), h5⟩, fun y hy => ?_⟩
      · rcases List.mem_cons.1 hy with rfl | hy
        · exact ⟨h2, h3⟩
        · exact h4 y hy
      · rcases List.mem_cons.1 hy with rfl | hy
        · exact h1
        · exact fun h => h6 y hy (List.mem_cons_of_mem _ h)
    · rintro ⟨h1, ⟨h2, h3⟩, h4⟩
      have hx := h1 x List.mem_cons_self
      refine ⟨⟨h4 x List.mem_cons_self, hx.1, hx.2⟩, fun y hy => h1 y (List.mem_cons_of_mem _ hy), h3, fun y hy hm => ?_⟩
      rcases List.mem_cons.1 hm with rfl | hm
      · exact h2 hy
      · exact h4 y (List.mem_cons_of_mem _ hy) hm
theorem sheetAt_get {L : List Int} {i : Nat} (h : i < L.length) : sheetAt L i = L[i] := getD_of (List.getElem?_eq_getElem h)
theorem refSheetsOk_iff (ns : Int) (L : List Int) : allTo L.length (refSheetOk ns L) = true ↔ (∀ y ∈ L, 1 ≤ y ∧ y ≤ ns - 1) ∧ L.Nodup := by
  rw [allTo_iff]
  constructor
  · intro h
    refine ⟨fun y hy => ?_, ?_⟩
    · obtain ⟨i, hi, rfl⟩ := List.getElem_of_mem hy
      have h2 := h i hi
      unfold refSheetOk at h2
      rw [Bool.and_eq_true, Bool.and_eq_true, decide_eq_true_eq, decide_eq_true_eq, sheetAt_get hi] at h2
      exact h2.1
    · refine List.pairwise_iff_getElem.2 fun i j hi hj hij => ?_
      have h2 := h j hj
      unfold refSheetOk at h2
      rw [Bool.and_eq_true, allTo_iff] at h2
      have h3 := h2.2 i hij
      rw [Bool.not_eq_true', beq_eq_false_iff_ne, sheetAt_get hi, sheetAt_get hj] at h3
      exact h3
  · rintro ⟨h1, h2⟩ j hj
    unfold refSheetOk
    rw [Bool.and_eq_true, Bool.and_eq_true, decide_eq_true_eq, decide_eq_true_eq, allTo_iff, sheetAt_get hj]
    refine ⟨h1 _ (List.getElem_mem hj), fun k hk => ?_⟩
    rw [Bool.not_eq_true', beq_eq_false_iff_ne, sheetAt_get (by omega)]
    exact List.pairwise_iff_getElem.1 h2 k j (by omega) hj hk
theorem refSheetsOk_eq (ns : Int) (L : List Int) : allTo L.length (refSheetOk ns L) = sheetsOk ns [] L := by
  rw [Bool.eq_iff_iff, refSheetsOk_iff, rsheetsOk_iff]
  simp
theorem refMay_eq (s : Shelf) : (refBooksB s && refNotesB s && refSheetsB s) = mayS s := by
  unfold refBooksB refNotesB refSheetsB mayS mayHead
  rw [refSheetsOk_eq, show allSheets s = s.notes.flatMap (·.sheets) from rfl]
  generalize allTo s.books.length (bookOk s) = A
  generalize allTo s.notes.length (noteOk s) = B
  generalize sheetsOk s.ns [] (s.notes.flatMap (·.sheets)) = C
  generalize (decide (1 ≤ s.nb) && decide (s.nb ≤ 65536)) = D
  generalize (decide (1 ≤ s.nn) && decide (s.nn ≤ 65536)) = E
  generalize (decide (1 ≤ s.ns) && decide (s.ns ≤ 4096)) = F
  generalize decide (s.books.length ≤ 6) = G
  generalize decide (s.notes.length ≤ 12) = H
  cases A <;> cases B <;> cases C <;> cases D <;> cases E <;> cases F <;> cases G <;> cases H <;> rfl
theorem few_of {s : Shelf} (h : refNotesB s = true) : FewSheets s := by
  unfold refNotesB at h
  rw [Bool.and_eq_true, Bool.and_eq_true, decide_eq_true_eq, allTo_iff] at h
  obtain ⟨⟨h1, -⟩, h2⟩ := h
  refine ⟨by omega, fun n hn => ?_⟩
  obtain ⟨i, hi, rfl⟩ := List.getElem_of_mem hn
  have h3 := h2 i hi
  unfold noteOk at h3
  rw [Bool.and_eq_true] at h3
  have h4 := h3.1
  unfold noteHead at h4
  rw [Bool.and_eq_true, decide_eq_true_eq, show noteAt s i = s.notes[i] from getD_of (List.getElem?_eq_getElem hi)] at h4
  have := h4.2
  omega
set_option maxRecDepth 100000 in
set_option maxHeartbeats 1000000 in
theorem refMay_any (s : Shelf) (bv nv : Value) (w : World) (h : ShelfR w s bv nv) (hz : TameS s) :
    Calls Tryd.prog 65 #[shelfV s bv nv] w fun e w' => e = .returned (.bool (mayS s)) ∧ Grow w w' := by
  have g0 : Grow w (w.alloc (.cells #[.int .i64 s.nb, .int .i64 s.nn, .int .i64 s.ns, bv, nv] 28)) := (Grow.refl w).alloc _
  have c1 := refBooks_any s bv nv _ (h.grow g0) hz
  have cN := fun W (g : Grow w W) => refNotes_any s bv nv W (h.grow g) hz
  have cS := fun W (g : Grow w W) (hf : FewSheets s) => refSheets_any s bv nv W (h.grow g) hf
  have HE := Lib.hid (refMay_eq s)
  have hbox : (w.alloc (.cells #[.int .i64 s.nb, .int .i64 s.nn, .int .i64 s.ns, bv, nv] 28)).heap[w.heap.size]? = some (.cells #[.int .i64 s.nb, .int .i64 s.nn, .int .i64 s.ns, bv, nv] 28 (0, 0)) := heap_alloc_new w _
  obtain ⟨a1, k1, rfl⟩ := h.1.mk
  obtain ⟨a2, k2, rfl⟩ := h.2.mk
  clear h hz
  unfold shelfV at c1 cN cS ⊢
  have HB := Lib.hid hbox
  have hlt : w.heap.size < (w.alloc (.cells #[.int .i64 s.nb, .int .i64 s.nn, .int .i64 s.ns, .slice a1 s.books.length k1, .slice a2 s.notes.length k2] 28)).heap.size := by simp
  have HL := Lib.hid hlt
  clear hbox hlt
  cases e1 : refBooksB s
  · rw [e1] at c1
    have HN := Lib.hid (show mayS s = false by rw [← HE.out, e1]; rfl)
    clear e1 HE
    go_enter Tryd.func65, Tryd.ntmps65
    go_wp2_with fail
    refine c1.mono ?_
    rintro e w1 ⟨rfl, g1⟩
    go_wp2_with fail
    go_ret
    exact ⟨ret_bool HN.out.symm, g0.trans g1⟩
  rw [e1] at c1
  cases e2 : refNotesB s
  · have HN := Lib.hid (show mayS s = false by rw [← HE.out, e2]; simp)
    rw [e2] at cN
    clear e1 e2 HE
    go_enter Tryd.func65, Tryd.ntmps65
    go_wp2_with fail
    refine c1.mono ?_
    rintro e w1 ⟨rfl, g1⟩
    have hb1 := (Below.block g1 _ HL.out).trans HB.out
    have x0 := (cell_of_row w1 w.heap.size 0 _ _ _ hb1).trans rfl
    have x1 := (cell_of_row w1 w.heap.size 1 _ _ _ hb1).trans rfl
    have x2 := (cell_of_row w1 w.heap.size 2 _ _ _ hb1).trans rfl
    have x3 := (cell_of_row w1 w.heap.size 3 _ _ _ hb1).trans rfl
    have x4 := (cell_of_row w1 w.heap.size 4 _ _ _ hb1).trans rfl
    clear hb1
    go_wp2_with fail
    refine (cN w1 (g0.trans g1)).mono ?_
    rintro e w2 ⟨rfl, g2⟩
    go_wp2_with fail
    go_ret
    exact ⟨ret_bool HN.out.symm, (g0.trans g1).trans g2⟩
  have HF := Lib.hid (few_of e2)
  have HN := Lib.hid (show refSheetsB s = mayS s by rw [← HE.out, e1, e2]; rfl)
  rw [e2] at cN
  clear e1 e2 HE
  go_enter Tryd.func65, Tryd.ntmps65
  go_wp2_with fail
  refine c1.mono ?_
  rintro e w1 ⟨rfl, g1⟩
  have hb1 := (Below.block g1 _ HL.out).trans HB.out
  have HB1 := Lib.hid hb1
  have x0 := (cell_of_row w1 w.heap.size 0 _ _ _ hb1).trans rfl
  have x1 := (cell_of_row w1 w.heap.size 1 _ _ _ hb1).trans rfl
  have x2 := (cell_of_row w1 w.heap.size 2 _ _ _ hb1).trans rfl
  have x3 := (cell_of_row w1 w.heap.size 3 _ _ _ hb1).trans rfl
  have x4 := (cell_of_row w1 w.heap.size 4 _ _ _ hb1).trans rfl
  clear hb1
  go_wp2_with fail
  refine (cN w1 (g0.trans g1)).mono ?_
  rintro e w2 ⟨rfl, g2⟩
  clear x0 x1 x2 x3 x4
  have hb2 := (Below.block g2 _ (Array.getElem?_eq_some_iff.1 HB1.out).1).trans HB1.out
  have x0 := (cell_of_row w2 w.heap.size 0 _ _ _ hb2).trans rfl
  have x1 := (cell_of_row w2 w.heap.size 1 _ _ _ hb2).trans rfl
  have x2 := (cell_of_row w2 w.heap.size 2 _ _ _ hb2).trans rfl
  have x3 := (cell_of_row w2 w.heap.size 3 _ _ _ hb2).trans rfl
  have x4 := (cell_of_row w2 w.heap.size 4 _ _ _ hb2).trans rfl
  clear hb2
  go_wp2_with fail
  refine (cS w2 ((g0.trans g1).trans g2) HF.out).mono ?_
  rintro e w3 ⟨rfl, g3⟩
  go_wp2_with fail
  go_ret
  exact ⟨ret_bool HN.out, ((g0.trans g1).trans g2).trans g3⟩
end Go.Proofs.YtnajccljdjllgaaDoor
