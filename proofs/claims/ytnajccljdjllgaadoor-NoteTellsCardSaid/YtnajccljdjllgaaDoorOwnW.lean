/- The walks of shelf.own and note.own. -/
import Derived.Test.YtnajccljdjllgaaDoorOwnP
set_option linter.unusedVariables false
set_option linter.unusedSimpArgs false
namespace Go.Proofs.YtnajccljdjllgaaDoor
open Go.RowKit Go.Lib
theorem results_cell {P : Program} {fn : Func} {p : Tmp} {ty : TypeId} (h : fn.results = #[.cell p ty]) (tmps : Array Value) (w : World) :
    (results fn tmps).run P w = ((asAddr (tmps.getD p undef)).run P w).andThen fun a w₁ => (loadVar ty a).run P w₁ := by
  simp [results, h, Sem.run_bind]
theorem two_boxes2 (w : World) (o1 o2 : Obj) : ((w.alloc o1).alloc o2).heap[w.heap.size]? = some o1 ∧ ((w.alloc o1).alloc o2).heap[w.heap.size + 1]? = some o2 :=
  ⟨(Below.block ((Grow.refl (w.alloc o1)).alloc o2) _ (Array.getElem?_eq_some_iff.1 (heap_alloc_new w o1)).1).trans (heap_alloc_new w o1), by
    have h := heap_alloc_new (w.alloc o1) o2
    rwa [show (w.alloc o1).heap.size = w.heap.size + 1 from Array.size_push _] at h⟩
/-- The result's cell is stored. -/
def OwnD2 (base : Nat) (bv nv : Value) (X : List Book) (Y : List NV) (W0 : World) (D : Nat) (w : World) : Prop := Grow W0 w ∧ OwnS base bv nv X Y w ∧ ∃ cs : Array Value, w.heap[D]? = some (.cells cs 28 (0, 0))
theorem OwnD2.set {base D : Nat} {bv nv : Value} {X : List Book} {Y : List NV} {W0 w : World} (h : OwnD2 base bv nv X Y W0 D w) (hD : W0.heap.size ≤ D) (j : Nat) (u : Value) : OwnD2 base bv nv X Y W0 D (w.setCell ⟨D, j, none⟩ u) := by
  obtain ⟨h0, h1, cs, h2⟩ := h
  have ht : Turned D w (w.setCell ⟨D, j, none⟩ u) := ⟨rfl, rfl, rfl, by simp, fun i _ hb => heap_setCell_other w ⟨D, j, none⟩ i u hb⟩
  exact ⟨ht.grow h0 hD, h1.kept (.of_turned ht h2 (by decide)), _, heap_setCell_same w D j _ _ _ h2⟩
theorem own_begin {s : Shelf} {w V w1 w2 : World} {bv nv : Value} (h : ShelfR w s bv nv) (gV : Grow w V) (hb : V.heap[w.heap.size]? = some (shB s bv nv)) (hr : V.heap[w.heap.size + 1]? = some (shB ⟨0, 0, 0, [], []⟩ (.slice none 0 0) (.slice none 0 0)))
    {v1 v2 : Value} {xs1 xs2 : List Value} (r1 : RowO V.drew.heap.size 37 2 v1 s.books.length xs1 w1) (g1 : Grow V.drew w1) (l1 : xs1.length = s.books.length * 2) (c1 : ∀ (i : Nat) a, s.books[i]? = some a → BookR w a ((xs1.drop (i * 2)).take 2))
    (r2 : RowO w1.heap.size 41 5 v2 s.notes.length xs2 w2) (g2 : Grow w1 w2) (l2 : xs2.length = s.notes.length * 5) (c2 : ∀ (i : Nat) a, s.notes[i]? = some a → NoteR w a ((xs2.drop (i * 5)).take 5)) :
    ∃ Y, OwnB s w v1 v2 Y 0 ((w2.setCell ⟨w.heap.size, 3, none⟩ v1).setCell ⟨w.heap.size, 4, none⟩ v2) := by
  obtain ⟨Y, h1, h2, h3⟩ := notes_cells s.notes xs2 l2 c2
  have e1 := books_cells s.books xs1 l1 c1
  subst e1 h2
  have gg : Grow V w2 := ((Grow.refl V).drew.trans g1).trans g2
  have hz : w.heap.size ≤ V.heap.size := gV.size
  have hz1 : w.heap.size ≤ w1.heap.size := Nat.le_trans hz g1.size
  have hb2 := gg.blk hb
  have hr2 := gg.blk hr
  have t1 : Turned w.heap.size w2 (w2.setCell ⟨w.heap.size, 3, none⟩ v1) := ⟨rfl, rfl, rfl, by simp, fun i _ hb => heap_setCell_other w2 ⟨w.heap.size, 3, none⟩ i v1 hb⟩
  have hb3 := heap_setCell_same w2 w.heap.size 3 _ _ v1 hb2
  have t2 : Turned w.heap.size (w2.setCell ⟨w.heap.size, 3, none⟩ v1) ((w2.setCell ⟨w.heap.size, 3, none⟩ v1).setCell ⟨w.heap.size, 4, none⟩ v2) := ⟨rfl, rfl, rfl, by simp, fun i _ hb => heap_setCell_other (w2.setCell ⟨w.heap.size, 3, none⟩ v1) ⟨w.heap.size, 4, none⟩ i v2 hb⟩
  have hb4 := heap_setCell_same (w2.setCell ⟨w.heap.size, 3, none⟩ v1) w.heap.size 4 _ _ v2 hb3
  have tt := t1.trans t2
  have hn : Y.length = s.notes.length := by rw [← h1, List.length_map]
  have hlt : w.heap.size + 1 < w2.heap.size := (Array.getElem?_eq_some_iff.1 hr2).1
  refine ⟨Y, tt.grow (gV.trans gg) (Nat.le_refl _), hb4.trans rfl, (tt.block _ hlt (by omega)).trans hr2, ?_, h1⟩
  refine (OwnP.start (gV.trans gg) ((r1.grow g2).base_mono hz) ?_ h3).kept (.of_turned tt hb2 (by decide))
  rw [hn]; exact r2.base_mono hz1
theorem own_next {s : Shelf} {w wr w1 w2 : World} {bv : Value} {nb nc i : Nat} {Y : List NV} {y : NV} (hB : OwnB s w bv (.slice (some ⟨nb, 0, none⟩) s.notes.length nc) Y i wr) (hy : Y[i]? = some y) (hnv : (Value.slice (some ⟨nb, 0, none⟩) s.notes.length nc) = .slice (some ⟨nb, 0, none⟩) Y.length nc)
    {v1 v2 : Value} {xs1 xs2 : List Value} (r1 : RowO wr.drew.heap.size 9 1 v1 y.n.tags.length xs1 w1) (g1 : Grow wr.drew w1) (l1 : xs1.length = y.n.tags.length * 1) (c1 : ∀ (i : Nat) a, y.n.tags[i]? = some a → TextR w a ((xs1.drop (i * 1)).take 1))
    (r2 : RowO w1.heap.size 3 1 v2 y.n.sheets.length xs2 w2) (g2 : Grow w1 w2) (l2 : xs2.length = y.n.sheets.length * 1) (c2 : ∀ (i : Nat) a, y.n.sheets[i]? = some a → IntR w a ((xs2.drop (i * 1)).take 1)) :
    OwnB s w bv (.slice (some ⟨nb, 0, none⟩) s.notes.length nc) (Y.set i ⟨y.n, v1, v2⟩) (i + 1) ((w2.setCell ⟨nb, i * 5 + 3, none⟩ v1).setCell ⟨nb, i * 5 + 4, none⟩ v2) := by
  have e1 := text_cells y.n.tags xs1 l1 c1
  have e2 := int_cells y.n.sheets xs2 l2 c2
  subst e1 e2
  have g : Grow wr w2 := ((Grow.refl wr).drew.trans g1).trans g2
  obtain ⟨h1, h2, h3, cur, h4⟩ := hB.own.step (w' := w2) hy g (r1.grow g2) (r2.base_mono (by have := g1.size; exact this)) hB.grow.size hnv
  have hc := kept_of_turned h4 h2
  refine ⟨h2.grow (hB.grow.trans g) h3, hc _ _ _ _ (by decide) (g.blk hB.box), hc _ _ _ _ (by decide) (g.blk hB.res), h1, ?_⟩
  rw [← hB.map]
  apply List.ext_getElem?
  intro j
  rw [List.getElem?_map, List.getElem?_map, List.getElem?_set]
  have hi := (List.getElem?_eq_some_iff.1 hy).1
  by_cases e : i = j
  · subst e; rw [if_pos rfl, if_pos hi, hy]; rfl
  · rw [if_neg e]
set_option maxRecDepth 100000 in
set_option maxHeartbeats 4000000 in
theorem own_any (s : Shelf) (bv nv : Value) (w : World) (h : ShelfR w s bv nv) (hz : Tame s) :
    Calls Tryd.prog 61 #[shelfV s bv nv] w (RetOwn s w) := by
  obtain ⟨a1, c1, rfl⟩ := h.1.mk
  obtain ⟨a2, c2, rfl⟩ := h.2.mk
  have HH := Lib.hid h
  have HZ := Lib.hid hz
  have hnl := hz.2.1
  have HXX := Lib.hid (two_boxes2 w (shB s (.slice a1 s.books.length c1) (.slice a2 s.notes.length c2)) (shB ⟨0, 0, 0, [], []⟩ (.slice none 0 0) (.slice none 0 0)))
  clear h hz
  unfold shelfV
  go_enter Tryd.func61, Tryd.ntmps61
  go_upto_region 1 with (fail)
  generalize hV : (w.alloc (.cells #[.int .i64 s.nb, .int .i64 s.nn, .int .i64 s.ns, .slice a1 s.books.length c1, .slice a2 s.notes.length c2] 28)).alloc (.cells #[.int .i64 0, .int .i64 0, .int .i64 0, .slice none 0 0, .slice none 0 0] 28) = V
  have gV : Grow w V := by rw [← hV]; exact ((Grow.refl w).alloc _).alloc _
  have hbx : V.heap[w.heap.size]? = some (shB s (.slice a1 s.books.length c1) (.slice a2 s.notes.length c2)) := by rw [← hV]; exact HXX.out.1
  have hrx : V.heap[w.heap.size + 1]? = some (shB ⟨0, 0, 0, [], []⟩ (.slice none 0 0) (.slice none 0 0)) := by rw [← hV]; exact HXX.out.2
  have HBX := Lib.hid hbx
  have HRX := Lib.hid hrx
  have hsz : w.heap.size + 1 < V.heap.size := (Array.getElem?_eq_some_iff.1 hrx).1
  have gVd := gV.drew
  have cB := clone_books w (.slice a1 s.books.length c1) s.books V.drew (Reads.hold HH.out.1 gVd) HZ.out.1
  have cN := fun W (g : Grow V.drew W) => clone_notes w (.slice a2 s.notes.length c2) s.notes W (Reads.hold HH.out.2 (gVd.trans g)) HZ.out.2.1
  obtain ⟨p0, p1, p2, p3, p4⟩ := sh5 hbx
  have f3 := frozen_of_row V w.heap.size 3 _ _ hbx
  have f4 := frozen_of_row V w.heap.size 4 _ _ hbx
  clear hV hbx hrx
  go_cut [1] (fun v1 wx => v1 = .pointer (some ⟨w.heap.size, 0, none⟩) ∧ ∃ bv' nv' Y, OwnB s w bv' nv' Y 0 wx)
  case first =>
    go_region_law ((first
      | (go_simp; go_at_call 93; refine cB.mono ?_; rintro e w1 ⟨v1, xs1, rfl, hr1, g1, hl1, hR1⟩; obtain ⟨b1, d1, e1, -⟩ := hr1.slice; subst e1; have hb1 := Grow.blk (Grow.trans (Grow.refl V).drew g1) HBX.out; obtain ⟨r0, r1, r2, r3, r4⟩ := sh5 hb1; have s3 := frozen_of_row w1 w.heap.size 3 _ _ hb1; have s4 := frozen_of_row w1 w.heap.size 4 _ _ hb1; have hz1 : w.heap.size < w1.heap.size := (Array.getElem?_eq_some_iff.1 hb1).1; have HR1 := Lib.hid hr1; have HG1 := Lib.hid g1; have HL1 := Lib.hid hl1; have HC1 := Lib.hid hR1; clear hr1 g1 hl1 hR1 hb1)
      | (go_simp; go_at_call 94; refine (cN _ HG1.out).mono ?_; rintro e w2 ⟨v2, xs2, rfl, hr2, g2, hl2, hR2⟩; obtain ⟨b2, d2, e2, -⟩ := hr2.slice; subst e2; have hb2 := Grow.blk (Grow.trans (Grow.trans (Grow.refl V).drew HG1.out) g2) HBX.out; obtain ⟨t0, t1, t2, t3, t4⟩ := sh5 hb2; have u3 := frozen_of_row w2 w.heap.size 3 _ _ hb2; have u4 := frozen_of_row w2 w.heap.size 4 _ _ hb2; have hz2 : w.heap.size < w2.heap.size := (Array.getElem?_eq_some_iff.1 hb2).1; have HB2 := Lib.hid hb2; have HR2 := Lib.hid hr2; have HG2 := Lib.hid g2; have HL2 := Lib.hid hl2; have HC2 := Lib.hid hR2; clear hr2 g2 hl2 hR2 hb2)))
    all_goals
      go_wp2_with fail
      go_meet
      exact ⟨rfl, _, _, own_begin HH.out gV HBX.out HRX.out HR1.out HG1.out HL1.out HC1.out HR2.out HG2.out HL2.out HC2.out⟩
  case rest =>
    obtain ⟨rfl, bv', nv', Y0, hb0⟩ := hcut
    have hn0 : Y0.length = s.notes.length := by rw [← hb0.map, List.length_map]
    obtain ⟨na, nc, hnv, -⟩ := hb0.own.notes.slice
    rw [hn0] at hnv
    obtain ⟨ba, bc, hbv, -⟩ := hb0.own.books.slice
    subst hnv hbv
    have HB0 := Lib.hid hb0
    obtain ⟨k0, k1, k2, k3, k4⟩ := sh5 hb0.box
    have hw0 : w.heap.size < wc.heap.size := (Array.getElem?_eq_some_iff.1 hb0.box).1
    clear hb0 hn0 p0 p1 p2 p3 p4 f3 f4 cB cN gV gVd hsz HBX HRX
    go_wp2_with fail
    go_loopw [16] (fun v16 wx => ∃ i : Nat, v16 = .int .i64 i ∧ i ≤ s.notes.length ∧ ∃ Y, OwnB s w (.slice ba s.books.length bc) (.slice na s.notes.length nc) Y i wx) (fun v16 _ => s.notes.length - (Go.RowKit.intOf v16).toNat)
    case atStart => exact ⟨0, rfl, by omega, _, HB0.out⟩
    case round =>
      obtain ⟨i, rfl, hi, Y, hb⟩ := hrel
      have HB := Lib.hid hb
      obtain ⟨k0, k1, k2, k3, k4⟩ := sh5 hb.box
      have hw1 : w.heap.size < wr.heap.size := (Array.getElem?_eq_some_iff.1 hb.box).1
      have hYl : Y.length = s.notes.length := by rw [← hb.map, List.length_map]
      have HYL := Lib.hid hYl
      by_cases hlt : i < s.notes.length
      · have hlt' : (i : Int) < s.notes.length := by omega
        obtain ⟨y, hy, -⟩ := lt_get (l := Y) (i := i) (by omega)
        have HY := Lib.hid hy
        have hyn : s.notes[i]? = some y.n := by rw [← hb.map, List.getElem?_map, hy]; rfl
        obtain ⟨z1, z2, z3, z4⟩ := HZ.out.note hyn
        obtain ⟨hty, hsy⟩ := hb.own.rest i y (Nat.le_refl _) hy
        have hnb : ∃ b, na = some ⟨b, 0, none⟩ := by
          have hc : (Y.flatMap noteC)[i * 5 + 3]? = some y.tv := by rw [flat_get noteC (fun _ => rfl) Y i 3 y hy (by decide)]; rfl
          obtain ⟨b, c, e, -⟩ := hb.own.notes.cell hc
          injection e with e; exact ⟨b, e⟩
        obtain ⟨nb, rfl⟩ := hnb
        have HNV := Lib.hid (show (Value.slice (some ⟨nb, 0, none⟩) s.notes.length nc) = .slice (some ⟨nb, 0, none⟩) Y.length nc by rw [hYl])
        have q3 := hb.own.note hy HNV.out 3 _ rfl
        have q4 := hb.own.note hy HNV.out 4 _ rfl
        obtain ⟨ta, tc, etv⟩ := hty.mk
        obtain ⟨sa, sc, esv⟩ := hsy.mk
        have HTV := Lib.hid etv
        have HSV := Lib.hid esv
        rw [etv] at q3
        rw [esv] at q4
        have q3c := q3.1
        have q3f := q3.2.1
        have q4c := q4.1
        have q4f := q4.2.1
        have hnbz := q3.2.2
        have cT := clone_texts w (.slice ta y.n.tags.length tc) y.n.tags wr.drew (by rw [← etv]; exact Reads.hold hty (hb.grow.trans (Grow.refl wr).drew)) z2
        have cI := fun W (g : Grow wr.drew W) => clone_ints w (.slice sa y.n.sheets.length sc) y.n.sheets W (by rw [← esv]; exact Reads.hold hsy ((hb.grow.trans (Grow.refl wr).drew).trans g)) z3
        clear hb hYl hy hyn hty hsy etv esv q3 q4 z1 z2 z3 z4 HB0
        go_upto_region 6 with (fail)
        go_region_law ((first
          | (go_simp; go_at_call 95; refine cT.mono ?_; rintro e w1 ⟨v1, xs1, rfl, hr1, g1, hl1, hR1⟩; obtain ⟨b1, d1, e1, -⟩ := hr1.slice; subst e1; have gg := Grow.trans (Grow.refl wr).drew g1; have m3 := (gg.cells nb (i * 5 + 3) hnbz).trans q3c; have m4 := (gg.cells nb (i * 5 + 4) hnbz).trans q4c; have n3 := (gg.marks nb (i * 5 + 3) hnbz).trans q3f; have n4 := (gg.marks nb (i * 5 + 4) hnbz).trans q4f; have hz1 := Nat.lt_of_lt_of_le hnbz gg.size; have HR1 := Lib.hid hr1; have HG1 := Lib.hid g1; have HL1 := Lib.hid hl1; have HC1 := Lib.hid hR1; clear hr1 g1 hl1 hR1 gg)
          | (go_simp; go_at_call 96; refine (cI _ HG1.out).mono ?_; rintro e w2 ⟨v2, xs2, rfl, hr2, g2, hl2, hR2⟩; obtain ⟨b2, d2, e2, -⟩ := hr2.slice; subst e2; have gg := Grow.trans (Grow.trans (Grow.refl wr).drew HG1.out) g2; have m3 := (gg.cells nb (i * 5 + 3) hnbz).trans q3c; have m4 := (gg.cells nb (i * 5 + 4) hnbz).trans q4c; have n3 := (gg.marks nb (i * 5 + 3) hnbz).trans q3f; have n4 := (gg.marks nb (i * 5 + 4) hnbz).trans q4f; have hz2 := Nat.lt_of_lt_of_le hnbz gg.size; have HR2 := Lib.hid hr2; have HG2 := Lib.hid g2; have HL2 := Lib.hid hl2; have HC2 := Lib.hid hR2; clear hr2 g2 hl2 hR2 gg)))
        all_goals
          go_wp2_with fail
          go_roundw
          case rel => exact ⟨i + 1, by go_num, by omega, _, own_next HB.out HY.out HNV.out HR1.out HG1.out HL1.out HC1.out HR2.out HG2.out HL2.out HC2.out⟩
          case measure => simp [Go.RowKit.intOf]; omega
      · have hlt' : ¬ (i : Int) < s.notes.length := by omega
        obtain ⟨e0, e1, e2, e3, e4⟩ := sh5 hb.res
        have f0 := frozen_of_row wr (w.heap.size + 1) 0 _ _ hb.res
        have f1 := frozen_of_row wr (w.heap.size + 1) 1 _ _ hb.res
        have f2 := frozen_of_row wr (w.heap.size + 1) 2 _ _ hb.res
        have f3 := frozen_of_row wr (w.heap.size + 1) 3 _ _ hb.res
        have f4 := frozen_of_row wr (w.heap.size + 1) 4 _ _ hb.res
        have hi' : Y.length ≤ i := by omega
        have HOD := Lib.hid (show OwnD2 w.heap.size (.slice ba s.books.length bc) (.slice na s.notes.length nc) s.books Y w (w.heap.size + 1) wr from ⟨hb.grow, hb.own.all hi', _, hb.res⟩)
        have HMP := Lib.hid hb.map
        have hw2 : w.heap.size + 1 < wr.heap.size := (Array.getElem?_eq_some_iff.1 hb.res).1
        clear hb hYl HB0 hi'
        go_wp2_with fail
        refine bodyPost_ret (v := .agg #[.int .i64 s.nb, .int .i64 s.nn, .int .i64 s.ns, .slice ba s.books.length bc, .slice na s.notes.length nc]) ?_ rfl ?_
        · rw [results_cell rfl]
          go_simp
        · have hfin : ∀ W', OwnD2 w.heap.size (.slice ba s.books.length bc) (.slice na s.notes.length nc) s.books Y w (w.heap.size + 1) W' → RetOwn s w (.returned (.agg #[.int .i64 s.nb, .int .i64 s.nn, .int .i64 s.ns, .slice ba s.books.length bc, .slice na s.notes.length nc])) W' := fun W' hW => ⟨_, _, Y, rfl, hW.2.1, HMP.out, hW.1⟩
          refine hfin _ ?_
          repeat' (first | exact HOD.out | refine OwnD2.set ?_ (by omega) _ _)
end Go.Proofs.YtnajccljdjllgaaDoor
