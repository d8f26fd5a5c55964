/- shelf.Find. -/
import Derived.Test.YtieohecgoaakmaaDoorOwnW
import Derived.Test.YtieohecgoaakmaaDoorIdxN
import Derived.Test.YtieohecgoaakmaaDoorMay
set_option linter.unusedVariables false
set_option linter.unusedSimpArgs false
namespace Go.Proofs.YtieohecgoaakmaaDoor
open Go.RowKit Go.Lib
/-- What Find answers: a note of a copy, or none. -/
def RetFind (s : Shelf) (id : Int) (w : World) (e : Ending) (w' : World) : Prop :=
  Grow w w' ∧ ((∃ x bv nv Y y, mayS s = true ∧ 0 ≤ noteIx s id ∧ s.notes[(noteIx s id).toNat]? = some x ∧ e = .returned (.tuple #[noteV x y.tv y.sv, .bool true]) ∧ OwnS w.heap.size bv nv s.books Y w' ∧ Y.map NV.n = s.notes ∧ Y[(noteIx s id).toNat]? = some y ∧ y.n = x) ∨
    ((mayS s = false ∨ noteIx s id = -1) ∧ e = .returned (.tuple #[noteV ⟨0, 0, ⟨#[]⟩, [], []⟩ (.slice none 0 0) (.slice none 0 0), .bool false])))
/-- The result's cell, beside rows of the call's own. -/
def OwnN (base : Nat) (bv nv : Value) (X : List Book) (Y : List NV) (W0 : World) (D : Nat) (w : World) : Prop := Grow W0 w ∧ OwnS base bv nv X Y w ∧ blkOf nv ≠ some D ∧ ∃ cs : Array Value, w.heap[D]? = some (.cells cs 38 (0, 0))
theorem OwnN.set {base D : Nat} {bv nv : Value} {X : List Book} {Y : List NV} {W0 w : World} (h : OwnN base bv nv X Y W0 D w) (hD : W0.heap.size ≤ D) (j : Nat) (u : Value) : OwnN base bv nv X Y W0 D (w.setCell ⟨D, j, none⟩ u) := by
  obtain ⟨h0, h1, h2, cs, h3⟩ := h
  have ht : Turned D w (w.setCell ⟨D, j, none⟩ u) := ⟨rfl, rfl, rfl, by simp, fun i _ hb => heap_setCell_other w ⟨D, j, none⟩ i u hb⟩
  have hk := kept_of_turned h3 ht
  exact ⟨ht.grow h0 hD, ⟨h1.books.kept (by decide) hk, h1.notes.turned ht h2, fun y hy => (h1.tags y hy).kept (by decide) hk, fun y hy => (h1.sheets y hy).kept (by decide) hk, h1.tsep, h1.ssep⟩, h2, _, heap_setCell_same w D j _ _ _ h3⟩
theorem n5 {w : World} {b : Nat} {t : TypeId} {m : Nat × Nat} {u0 u1 u2 u3 u4 : Value} (hb : w.heap[b]? = some (.cells #[u0, u1, u2, u3, u4] t m)) :
    (w.cell? ⟨b, 0, none⟩ = some u0 ∧ w.cell? ⟨b, 1, none⟩ = some u1 ∧ w.cell? ⟨b, 2, none⟩ = some u2 ∧ w.cell? ⟨b, 3, none⟩ = some u3 ∧ w.cell? ⟨b, 4, none⟩ = some u4) ∧ b < w.heap.size :=
  ⟨sh5 hb, (Array.getElem?_eq_some_iff.1 hb).1⟩
abbrev noO : Obj := .cells #[.int .i64 0, .int .i64 0, .string ⟨#[]⟩, .slice none 0 0, .slice none 0 0] 38
set_option maxRecDepth 100000 in
set_option maxHeartbeats 4000000 in
theorem find_any (s : Shelf) (bv nv : Value) (id : Int) (w : World) (h : ShelfR w s bv nv) (hz : TameS s) (hT : Tabs w) :
    Calls Tryd.prog 14 #[shelfV s bv nv, .int .i64 id] w (RetFind s id w) := by
  have cM := fun W (g : Grow w W) => mayS_any s bv nv W (h.grow g) hz (hT.below g)
  have cN := fun W (g : Grow w W) => note_any s bv nv id W (h.grow g) (by have := hz.1.2.1; omega)
  have cO := fun W (g : Grow w W) => own_any s bv nv W (h.grow g) hz.1
  have hnl := hz.1.2.1
  obtain ⟨a1, c1, rfl⟩ := h.1.mk
  obtain ⟨a2, c2, rfl⟩ := h.2.mk
  have HXX := Lib.hid (two_boxes2 w (shB s (.slice a1 s.books.length c1) (.slice a2 s.notes.length c2)) noO)
  have hbd := idx_bd (fun x : Note => x.id == id) s.notes
  have HGI := Lib.hid (show 0 ≤ noteIx s id → ∃ x, s.notes[(noteIx s id).toNat]? = some x ∧ (x.id == id) = true from fun h0 => idx_get (p := fun x : Note => x.id == id) (l := s.notes) rfl h0)
  have HRF := Lib.hid (show noteIx s id = idx (fun x : Note => x.id == id) s.notes from rfl)
  rw [← HRF.out] at hbd
  rw [← HRF.out] at cN
  clear h hz hT
  unfold shelfV at cM cN cO ⊢
  go_enter Tryd.func14, Tryd.ntmps14
  go_upto_region 1 with (fail)
  generalize hV : (w.alloc (.cells #[.int .i64 s.nb, .int .i64 s.nn, .int .i64 s.ns, .slice a1 s.books.length c1, .slice a2 s.notes.length c2] 25)).alloc (.cells #[.int .i64 0, .int .i64 0, .string ⟨#[]⟩, .slice none 0 0, .slice none 0 0] 38) = V
  have gV : Grow w V := by rw [← hV]; exact ((Grow.refl w).alloc _).alloc _
  have HBX : Hid (V.heap[w.heap.size]? = some (shB s (.slice a1 s.books.length c1) (.slice a2 s.notes.length c2))) := by rw [← hV]; exact Lib.hid HXX.out.1
  have HRX : Hid (V.heap[w.heap.size + 1]? = some noO) := by rw [← hV]; exact Lib.hid HXX.out.2
  obtain ⟨⟨p0, p1, p2, p3, p4⟩, hpz⟩ := n5 HBX.out
  have cM1 := cM V gV
  clear hV
  have fin : ∀ W, Grow V W → (mayS s = false ∨ noteIx s id = -1) → RetFind s id w (.returned (.tuple #[noteV ⟨0, 0, ⟨#[]⟩, [], []⟩ (.slice none 0 0) (.slice none 0 0), .bool false])) W := fun W g hh => ⟨gV.trans g, .inr ⟨hh, rfl⟩⟩
  have HFIN := Lib.hid fin
  clear fin
  cases hm : mayS s with
  | false =>
    have HM := Lib.hid hm
    rw [hm] at cM1
    clear hm
    go_wp2_with fail
    refine cM1.mono ?_
    rintro e w1 ⟨rfl, g1⟩
    have HG1 := Lib.hid g1
    obtain ⟨⟨e0, e1, e2, e3, e4⟩, hez⟩ := n5 (g1.blk HRX.out)
    have f0 := frozen_of_row w1 (w.heap.size + 1) 0 _ _ (g1.blk HRX.out)
    have f1 := frozen_of_row w1 (w.heap.size + 1) 1 _ _ (g1.blk HRX.out)
    have f2 := frozen_of_row w1 (w.heap.size + 1) 2 _ _ (g1.blk HRX.out)
    have f3 := frozen_of_row w1 (w.heap.size + 1) 3 _ _ (g1.blk HRX.out)
    have f4 := frozen_of_row w1 (w.heap.size + 1) 4 _ _ (g1.blk HRX.out)
    clear cM1 g1 p0 p1 p2 p3 p4
    go_wp2_with fail
    refine bodyPost_ret (v := .tuple #[noteV ⟨0, 0, ⟨#[]⟩, [], []⟩ (.slice none 0 0) (.slice none 0 0), .bool false]) ?_ rfl ?_
    · rw [results_cell_tmp rfl]
      unfold noteV
      go_simp
    · refine ⟨?_, .inr ⟨.inl HM.out, rfl⟩⟩
      repeat' (first | exact gV.trans HG1.out | refine Grow.set ?_ (by simp) _)
  | true =>
    have HM := Lib.hid hm
    rw [hm] at cM1
    clear hm
    go_wp2_with fail
    refine cM1.mono ?_
    rintro e w1 ⟨rfl, g1⟩
    have cN1 := cN w1 (gV.trans g1)
    obtain ⟨⟨p0, p1, p2, p3, p4⟩, hpz⟩ := n5 (g1.blk HBX.out)
    have HG1 := Lib.hid g1
    clear cM1 g1
    go_wp2_with fail
    refine cN1.mono ?_
    rintro e w2 ⟨rfl, g2⟩
    have HG2 := Lib.hid (HG1.out.trans g2)
    clear cN1 g2
    by_cases hi : noteIx s id < 0
    · have HI := Lib.hid (show noteIx s id = -1 by omega)
      obtain ⟨⟨e0, e1, e2, e3, e4⟩, hez⟩ := n5 (HG2.out.blk HRX.out)
      have f0 := frozen_of_row w2 (w.heap.size + 1) 0 _ _ (HG2.out.blk HRX.out)
      have f1 := frozen_of_row w2 (w.heap.size + 1) 1 _ _ (HG2.out.blk HRX.out)
      have f2 := frozen_of_row w2 (w.heap.size + 1) 2 _ _ (HG2.out.blk HRX.out)
      have f3 := frozen_of_row w2 (w.heap.size + 1) 3 _ _ (HG2.out.blk HRX.out)
      have f4 := frozen_of_row w2 (w.heap.size + 1) 4 _ _ (HG2.out.blk HRX.out)
      go_wp2_with fail
      refine bodyPost_ret (v := .tuple #[noteV ⟨0, 0, ⟨#[]⟩, [], []⟩ (.slice none 0 0) (.slice none 0 0), .bool false]) ?_ rfl ?_
      · rw [results_cell_tmp rfl]
        unfold noteV
        go_simp
      · refine ⟨?_, .inr ⟨.inr HI.out, rfl⟩⟩
        repeat' (first | exact gV.trans HG2.out | refine Grow.set ?_ (by simp) _)
    · have hi0 : 0 ≤ noteIx s id := by omega
      obtain ⟨x, hx, -⟩ := HGI.out hi0
      obtain ⟨i, hii⟩ : ∃ i : Nat, noteIx s id = i := ⟨(noteIx s id).toNat, by omega⟩
      have HX := Lib.hid hx
      have HII := Lib.hid hii
      have HH0 := Lib.hid hi0
      obtain ⟨⟨p0, p1, p2, p3, p4⟩, hpz⟩ := n5 (HG2.out.blk HBX.out)
      have cO1 := cO w2 (gV.trans HG2.out)
      rw [hii]
      rw [hii] at hi0 hi hbd
      have hil : (i : Int) < s.notes.length := by omega
      clear hx hii hi hbd
      go_wp2_with fail
      refine cO1.mono ?_
      rintro e w3 ⟨bv', nv', Y, rfl, ho, hmap, g3⟩
      have hYl : Y.length = s.notes.length := by rw [← hmap, List.length_map]
      have hxi : s.notes[i]? = some x := by have := HX.out; rw [HII.out] at this; exact this
      obtain ⟨y, hy, -⟩ := lt_get (l := Y) (i := i) (by omega)
      have hyn : y.n = x := by
        have : (Y.map NV.n)[i]? = some y.n := by rw [List.getElem?_map, hy]; rfl
        rw [hmap, hxi] at this; exact (Option.some.inj this).symm
      obtain ⟨nb, nc, env, hnb, hnc, hblk, hcl⟩ := ho.note hy
      obtain ⟨ba, bc, ebv, -⟩ := ho.books.slice
      obtain ⟨ta, tc, etv, -⟩ := (ho.tags y (List.mem_of_getElem? hy)).slice
      obtain ⟨sa, sc, esv, -⟩ := (ho.sheets y (List.mem_of_getElem? hy)).slice
      have q0 : w3.cell? ⟨nb, i * 5, none⟩ = some (.int .i64 y.n.id) := (hcl 0 _ rfl).1
      have q1 := (hcl 1 _ rfl).1
      have q2 := (hcl 2 _ rfl).1
      have q3 : w3.cell? ⟨nb, i * 5 + 3, none⟩ = some y.tv := (hcl 3 _ rfl).1
      have q4 : w3.cell? ⟨nb, i * 5 + 4, none⟩ = some y.sv := (hcl 4 _ rfl).1
      rw [hYl] at env
      have HO := Lib.hid ho
      have HMAP := Lib.hid hmap
      have HY := Lib.hid hy
      have HYN := Lib.hid hyn
      have HBK := Lib.hid hblk
      have hg3 := HG2.out.trans g3
      have HG3 := Lib.hid hg3
      obtain ⟨⟨e0, e1, e2, e3, e4⟩, hez⟩ := n5 (hg3.blk HRX.out)
      have f0 := frozen_of_row w3 (w.heap.size + 1) 0 _ _ (hg3.blk HRX.out)
      have f1 := frozen_of_row w3 (w.heap.size + 1) 1 _ _ (hg3.blk HRX.out)
      have f2 := frozen_of_row w3 (w.heap.size + 1) 2 _ _ (hg3.blk HRX.out)
      have f3 := frozen_of_row w3 (w.heap.size + 1) 3 _ _ (hg3.blk HRX.out)
      have f4 := frozen_of_row w3 (w.heap.size + 1) 4 _ _ (hg3.blk HRX.out)
      rw [etv] at q3
      rw [esv] at q4
      have HTV := Lib.hid etv
      have HSV := Lib.hid esv
      have hnbb : nb ≠ w.heap.size + 1 := by
        have h1 := (ho.notes.blk hblk).1
        have h2 : w.heap.size + 1 < w2.heap.size := (Array.getElem?_eq_some_iff.1 (HG2.out.blk HRX.out)).1
        omega
      have HNB := Lib.hid hnbb
      have HOD := Lib.hid (show OwnN w2.heap.size bv' nv' s.books Y w (w.heap.size + 1) w3 from ⟨gV.trans hg3, ho, by rw [hblk]; exact fun e => hnbb (Option.some.inj e), _, hg3.blk HRX.out⟩)
      clear cO1 ho hmap hy hyn hblk hg3 g3 hcl etv esv hnc hxi hYl p0 p1 p2 p3 p4
      subst env ebv
      have hfld : ∀ W : World, (Instr.field 25 (.agg #[.int .i64 s.nb, .int .i64 s.nn, .int .i64 s.ns, .slice ba s.books.length bc, .slice (some ⟨nb, 0, none⟩) s.notes.length nc]) 4).run Tryd.prog W = .ok (.slice (some ⟨nb, 0, none⟩) s.notes.length nc) W := fun _ => by kernel_rfl
      unfold shelfV
      go_wp2_with fail
      refine bodyPost_ret (v := .tuple #[.agg #[.int .i64 y.n.id, .int .i64 y.n.book, .string y.n.name, .slice ta y.n.tags.length tc, .slice sa y.n.sheets.length sc], .bool true]) ?_ rfl ?_
      · rw [results_cell_tmp rfl]
        go_simp
      · have hfin : ∀ W', OwnN w2.heap.size (.slice ba s.books.length bc) (.slice (some ⟨nb, 0, none⟩) s.notes.length nc) s.books Y w (w.heap.size + 1) W' → RetFind s id w (.returned (.tuple #[.agg #[.int .i64 y.n.id, .int .i64 y.n.book, .string y.n.name, .slice ta y.n.tags.length tc, .slice sa y.n.sheets.length sc], .bool true])) W' := fun W' hW => by
          refine ⟨hW.1, .inl ⟨x, _, _, Y, y, HM.out, HH0.out, HX.out, ?_, hW.2.1.base_mono (gV.trans HG2.out).size, HMAP.out, by rw [HII.out]; exact HY.out, HYN.out⟩⟩
          rw [← HYN.out, HTV.out, HSV.out]; rfl
        refine hfin _ ?_
        repeat' (first | exact HOD.out | refine OwnN.set ?_ (by omega) _ _)
end Go.Proofs.YtieohecgoaakmaaDoor
