/- The shelf of one note; what the awake of chapter 18 comes to, in plain words. The awake of chapter 18. The state of the laws' both: two shelves in boxes; what a change answers, opened. The walk of jotterlaw18.both. What each change of a note leaves, in plain words (NoteScript). Acts on a shelf, as arguments. The walk of the law NoteScript. -/
import Derived.Test.YtnajccljdjllgaaDoorOut
import Derived.Test.YtnajccljdjllgaaDoorJc18
import Derived.Test.YtnajccljdjllgaaDoorSameb
import Derived.Test.YtnajccljdjllgaaDoorJn18
import Derived.Deep.RegionLaw
import Derived.Deep.RegionHeld3
import Derived.Test.YtnajccljdjllgaaDoorOpen
import Derived.Test.YtnajccljdjllgaaDoorGr
import Derived.Test.YtnajccljdjllgaaDoorGreat
set_option linter.unusedVariables false
set_option linter.unusedSimpArgs false
namespace Go.Proofs.YtnajccljdjllgaaDoor
open Go.RowKit Go.Lib
def tnB : ByteArray := ⟨#[98]⟩
def tnN : ByteArray := ⟨#[110]⟩
def tnX : ByteArray := ⟨#[120]⟩
def nSh (ns : Int) (ts : List ByteArray) (ss : List Int) : Shelf := ⟨2, 2, ns, [⟨1, tnB⟩], [⟨1, 1, tnN, ts, ss⟩]⟩
def o1 : Shelf := nSh 1 [] []
def o2 : Shelf := nSh 2 [] [1]
def o3 : Shelf := nSh 3 [] [1, 2]
def o4 : Shelf := nSh 3 [] [2]
def o5 : Shelf := nSh 1 [tnX] []
theorem may_o1 : mayS o1 = true := by decide +kernel
theorem may_o2 : mayS o2 = true := by decide +kernel
theorem may_o3 : mayS o3 = true := by decide +kernel
theorem may_o4 : mayS o4 = true := by decide +kernel
theorem app_1 : appendR o1 1 = ⟨o2, 1, 0⟩ := by
  have : appendE o1 1 = 0 := by decide +kernel
  rw [appendR, resOf_ok this]; rfl
theorem app_2 : appendR o2 1 = ⟨o3, 2, 0⟩ := by
  have : appendE o2 1 = 0 := by decide +kernel
  rw [appendR, resOf_ok this]; rfl
theorem rem_3 : removeR o3 1 0 = ⟨o4, 1, 0⟩ := by
  have : sheetE o3 1 0 = 0 := by decide +kernel
  rw [removeR, resOf_ok this]; rfl
theorem she_4 : sheetE o4 1 0 = 0 ∧ sheetV o4 1 0 = 2 := by
  have : sheetE o4 1 0 = 0 := by decide +kernel
  exact ⟨this, by rw [sheetV, if_pos this]; rfl⟩
theorem tag_1 : tagR o1 1 tnX = ⟨o5, 0, 0⟩ := by
  have : tagE o1 1 tnX = 0 := by decide +kernel
  rw [tagR, resOf_ok this]; rfl
set_option maxRecDepth 100000 in
theorem one_any (w : World) : Calls Tryd.prog 45 #[] w fun e w' => ∃ xa xc ya yc, Grow w w' ∧ e = .returned (.agg #[.int .i64 2, .int .i64 2, .int .i64 1, .slice xa 1 xc, .slice ya 1 yc]) ∧ ShelfR w' o1 (.slice xa 1 xc) (.slice ya 1 yc) := by
  go_enter Tryd.func45, Tryd.ntmps45
  go_wp2_with fail
  refine bodyPost_ret (v := .agg #[.int .i64 2, .int .i64 2, .int .i64 1, .slice (some ⟨w.heap.size + 1, 0, none⟩) 1 1, .slice (some ⟨w.heap.size + 1 + 1, 0, none⟩) 1 1]) ?_ rfl ?_
  · rw [results_cell rfl]
    go_simp
  · have key : ∀ W, Grow w W → W.heap[w.heap.size + 1]? = some (.cells #[.int .i64 1, .string tnB] 37 (0, 0)) → W.heap[w.heap.size + 1 + 1]? = some (.cells #[.int .i64 1, .int .i64 1, .string tnN, .slice none 0 0, .slice none 0 0] 41 (0, 0)) →
        ∃ xa xc ya yc, Grow w W ∧ Ending.returned (.agg #[.int .i64 2, .int .i64 2, .int .i64 1, .slice (some ⟨w.heap.size + 1, 0, none⟩) 1 1, .slice (some ⟨w.heap.size + 1 + 1, 0, none⟩) 1 1]) = .returned (.agg #[.int .i64 2, .int .i64 2, .int .i64 1, .slice xa 1 xc, .slice ya 1 yc]) ∧ ShelfR W o1 (.slice xa 1 xc) (.slice ya 1 yc) := fun W g k2 k3 => by
      refine ⟨_, _, _, _, g, rfl, ⟨_, _, rfl, by decide, fun _ => ⟨_, 0, rfl, (Array.getElem?_eq_some_iff.1 k2).1, fun i hi => ⟨bookC ⟨1, tnB⟩, rfl, fun x hx => ?_, fun j v hj => ?_⟩⟩⟩, ⟨_, _, rfl, by decide, fun _ => ⟨_, 0, rfl, (Array.getElem?_eq_some_iff.1 k3).1, fun i hi => ⟨[.int .i64 1, .int .i64 1, .string tnN, .slice none 0 0, .slice none 0 0], rfl, fun x hx => ?_, fun j v hj => ?_⟩⟩⟩⟩
      · obtain rfl : i = 0 := by have : o1.books.length = 1 := rfl; omega
        obtain rfl := Option.some.inj hx
        rfl
      · obtain rfl : i = 0 := by have : o1.books.length = 1 := rfl; omega
        rw [cell_of_row W _ _ _ _ _ k2]
        simpa using hj
      · obtain rfl : i = 0 := by have : o1.notes.length = 1 := rfl; omega
        obtain rfl := Option.some.inj hx
        exact ⟨_, _, rfl, Reads.nil, Reads.nil⟩
      · obtain rfl : i = 0 := by have : o1.notes.length = 1 := rfl; omega
        rw [cell_of_row W _ _ _ _ _ k3]
        simpa using hj
    exact key _ ((((Grow.refl w).alloc _).alloc _).alloc _) (three_boxes w _ _ _).2.1 (three_boxes w _ _ _).2.2
end Go.Proofs.YtnajccljdjllgaaDoor
set_option linter.unusedVariables false
set_option linter.unusedSimpArgs false
namespace Go.Proofs.YtnajccljdjllgaaDoor
open Go.RowKit Go.Lib
theorem tame18 (s : Shelf) (h : mayS s = true) : TameS s := (mayS_iff.1 h).tame
set_option maxRecDepth 100000 in
set_option maxHeartbeats 4000000 in
theorem awake18_any (w : World) (hT : Tabs w) : Calls Tryd.prog 14 #[] w fun e w' => e = .returned (.bool true) ∧ Grow w w' := by
  have GW := Lib.hid (Grow.refl w)
  have HTB := Lib.hid hT
  clear hT
  go_enter Tryd.func14, Tryd.ntmps14
  have c := one_any w
  try unfold shelfV at c
  go_wp2_with fail
  refine c.mono ?_
  clear c
  rintro e U1 ⟨xa_o, xc_o, ya_o, yc_o, g, rfl, hr⟩
  replace GW := Lib.hid (GW.out.trans g)
  have HR_o := Lib.hid hr
  clear hr g
  obtain ⟨a, hRES, hea⟩ : ∃ q, appendR o1 1 = ⟨q, 1, 0⟩ ∧ q = o2 := ⟨o2, app_1, rfl⟩
  have HEa := Lib.hid hea
  clear hea
  have HRES_a := Lib.hid hRES
  have c0 := (append_any o1 _ _ 1 _ HR_o.out (tame18 o1 may_o1) (HTB.out.below GW.out)).mono fun _ _ => RetM.out hRES
  clear hRES
  have c := c0
  try unfold shelfV at c
  go_wp2_with fail
  refine c.mono ?_
  clear c c0
  rintro e U2 ⟨xa_a, xc_a, ya_a, yc_a, g, rfl, hr⟩
  go_upto_region 2 with (fail)
  generalize hV : U2.alloc (.cells #[.int .i64 a.nb, .int .i64 a.nn, .int .i64 a.ns, .slice xa_a a.books.length xc_a, .slice ya_a a.notes.length yc_a] 28) = U3
  have gV : Grow U2 U3 := by rw [← hV]; exact (Grow.refl U2).alloc _
  have HB_a : Hid (U3.heap[U2.heap.size]? = some (.cells #[.int .i64 a.nb, .int .i64 a.nn, .int .i64 a.ns, .slice xa_a a.books.length xc_a, .slice ya_a a.notes.length yc_a] 28 (0, 0))) := by rw [← hV]; exact Lib.hid (heap_alloc_new U2 _)
  clear hV
  replace GW := Lib.hid (GW.out.trans (g.trans gV))
  have HR_a := Lib.hid (ShelfR.grow hr gV)
  clear hr g gV
  clear HR_o
  obtain ⟨b, hRES, hea⟩ : ∃ q, appendR a 1 = ⟨q, 2, 0⟩ ∧ q = o3 := ⟨o3, by rw [HEa.out]; exact app_2, rfl⟩
  have HEb := Lib.hid hea
  clear hea
  have HRES_b := Lib.hid hRES
  have c0 := (append_any a _ _ 1 _ HR_a.out (by rw [HEa.out]; exact tame18 o2 may_o2) (HTB.out.below GW.out)).mono fun _ _ => RetM.out hRES
  clear hRES
  have c := c0
  try unfold shelfV at c
  obtain ⟨⟨p0, p1, p2, p3, p4⟩, pz⟩ := n5 HB_a.out
  go_wp2_with fail
  refine c.mono ?_
  clear c c0
  clear p0 p1 p2 p3 p4 pz
  rintro e U4 ⟨xa_b, xc_b, ya_b, yc_b, g, rfl, hr⟩
  go_upto_region 3 with (fail)
  generalize hV : U4.alloc (.cells #[.int .i64 b.nb, .int .i64 b.nn, .int .i64 b.ns, .slice xa_b b.books.length xc_b, .slice ya_b b.notes.length yc_b] 28) = U5
  have gV : Grow U4 U5 := by rw [← hV]; exact (Grow.refl U4).alloc _
  have HB_b : Hid (U5.heap[U4.heap.size]? = some (.cells #[.int .i64 b.nb, .int .i64 b.nn, .int .i64 b.ns, .slice xa_b b.books.length xc_b, .slice ya_b b.notes.length yc_b] 28 (0, 0))) := by rw [← hV]; exact Lib.hid (heap_alloc_new U4 _)
  clear hV
  replace GW := Lib.hid (GW.out.trans (g.trans gV))
  replace HR_a := Lib.hid (HR_a.out.grow (g.trans gV))
  replace HB_a := Lib.hid (Grow.blk (g.trans gV) HB_a.out)
  have HR_b := Lib.hid (ShelfR.grow hr gV)
  clear hr g gV
  obtain ⟨u, hRES, hea⟩ : ∃ q, removeR b 1 0 = ⟨q, 1, 0⟩ ∧ q = o4 := ⟨o4, by rw [HEb.out]; exact rem_3, rfl⟩
  have HEu := Lib.hid hea
  clear hea
  have HRES_u := Lib.hid hRES
  have c0 := (remove_any b _ _ 1 0 _ HR_b.out (by rw [HEb.out]; exact tame18 o3 may_o3) (HTB.out.below GW.out)).mono fun _ _ => RetM.out hRES
  clear hRES
  have c := c0
  try unfold shelfV at c
  obtain ⟨⟨p0, p1, p2, p3, p4⟩, pz⟩ := n5 HB_b.out
  go_wp2_with fail
  refine c.mono ?_
  clear c c0
  clear p0 p1 p2 p3 p4 pz
  rintro e U6 ⟨xa_u, xc_u, ya_u, yc_u, g, rfl, hr⟩
  go_upto_region 4 with (fail)
  generalize hV : U6.alloc (.cells #[.int .i64 u.nb, .int .i64 u.nn, .int .i64 u.ns, .slice xa_u u.books.length xc_u, .slice ya_u u.notes.length yc_u] 28) = U7
  have gV : Grow U6 U7 := by rw [← hV]; exact (Grow.refl U6).alloc _
  have HB_u : Hid (U7.heap[U6.heap.size]? = some (.cells #[.int .i64 u.nb, .int .i64 u.nn, .int .i64 u.ns, .slice xa_u u.books.length xc_u, .slice ya_u u.notes.length yc_u] 28 (0, 0))) := by rw [← hV]; exact Lib.hid (heap_alloc_new U6 _)
  clear hV
  replace GW := Lib.hid (GW.out.trans (g.trans gV))
  replace HR_a := Lib.hid (HR_a.out.grow (g.trans gV))
  replace HB_a := Lib.hid (Grow.blk (g.trans gV) HB_a.out)
  replace HR_b := Lib.hid (HR_b.out.grow (g.trans gV))
  replace HB_b := Lib.hid (Grow.blk (g.trans gV) HB_b.out)
  have HR_u := Lib.hid (ShelfR.grow hr gV)
  clear hr g gV
  have c := nSheet_any u _ _ 1 0 _ HR_u.out (by rw [HEu.out]; exact tame18 o4 may_o4) (HTB.out.below GW.out)
  try unfold shelfV at c
  obtain ⟨⟨p0, p1, p2, p3, p4⟩, pz⟩ := n5 HB_u.out
  rw [show sheetV u 1 0 = 2 by rw [HEu.out]; exact she_4.2, show sheetE u 1 0 = 0 by rw [HEu.out]; exact she_4.1] at c
  go_wp2_with fail
  refine c.mono ?_
  clear c
  clear p0 p1 p2 p3 p4 pz
  rintro e U8 ⟨rfl, g⟩
  replace GW := Lib.hid (GW.out.trans g)
  replace HR_a := Lib.hid (HR_a.out.grow g)
  replace HB_a := Lib.hid (Grow.blk g HB_a.out)
  replace HR_b := Lib.hid (HR_b.out.grow g)
  replace HB_b := Lib.hid (Grow.blk g HB_b.out)
  replace HR_u := Lib.hid (HR_u.out.grow g)
  replace HB_u := Lib.hid (Grow.blk g HB_u.out)
  clear g
  have c := one_any U8
  try unfold shelfV at c
  go_wp2_with fail
  refine c.mono ?_
  clear c
  rintro e U9 ⟨xa_q, xc_q, ya_q, yc_q, g, rfl, hr⟩
  replace GW := Lib.hid (GW.out.trans g)
  replace HR_a := Lib.hid (HR_a.out.grow g)
  replace HB_a := Lib.hid (Grow.blk g HB_a.out)
  replace HR_b := Lib.hid (HR_b.out.grow g)
  replace HB_b := Lib.hid (Grow.blk g HB_b.out)
  replace HR_u := Lib.hid (HR_u.out.grow g)
  replace HB_u := Lib.hid (Grow.blk g HB_u.out)
  have HR_q := Lib.hid hr
  clear hr g
  obtain ⟨v, hRES, hea⟩ : ∃ q, tagR o1 1 tnX = ⟨q, 0, 0⟩ ∧ q = o5 := ⟨o5, tag_1, rfl⟩
  have HEv := Lib.hid hea
  clear hea
  have HRES_v := Lib.hid hRES
  have c0 := (tag_any o1 _ _ 1 tnX _ HR_q.out (tame18 o1 may_o1) (by decide) (HTB.out.below GW.out)).mono fun _ _ => RetC.out hRES
  clear hRES
  have c := c0
  try unfold shelfV at c
  go_wp2_with fail
  refine c.mono ?_
  clear c c0
  rintro e U10 ⟨xa_v, xc_v, ya_v, yc_v, g, rfl, hr⟩
  go_upto_region 6 with (fail)
  generalize hV : U10.alloc (.cells #[.int .i64 v.nb, .int .i64 v.nn, .int .i64 v.ns, .slice xa_v v.books.length xc_v, .slice ya_v v.notes.length yc_v] 28) = U11
  have gV : Grow U10 U11 := by rw [← hV]; exact (Grow.refl U10).alloc _
  have HB_v : Hid (U11.heap[U10.heap.size]? = some (.cells #[.int .i64 v.nb, .int .i64 v.nn, .int .i64 v.ns, .slice xa_v v.books.length xc_v, .slice ya_v v.notes.length yc_v] 28 (0, 0))) := by rw [← hV]; exact Lib.hid (heap_alloc_new U10 _)
  clear hV
  replace GW := Lib.hid (GW.out.trans (g.trans gV))
  replace HR_a := Lib.hid (HR_a.out.grow (g.trans gV))
  replace HB_a := Lib.hid (Grow.blk (g.trans gV) HB_a.out)
  replace HR_b := Lib.hid (HR_b.out.grow (g.trans gV))
  replace HB_b := Lib.hid (Grow.blk (g.trans gV) HB_b.out)
  replace HR_u := Lib.hid (HR_u.out.grow (g.trans gV))
  replace HB_u := Lib.hid (Grow.blk (g.trans gV) HB_u.out)
  have HR_v := Lib.hid (ShelfR.grow hr gV)
  clear hr g gV
  have hv0 : v.notes[0]? = some ⟨1, 1, tnN, [tnX], []⟩ := by rw [HEv.out]; rfl
  have hvl : v.notes.length = 1 := by rw [HEv.out]; rfl
  obtain ⟨nb, off, tv, sv, ea, hnb, -, -, -, n3, -, htv, -⟩ := Notes.at HR_v.out.2 hv0
  obtain ⟨tva, tvc, etv⟩ := htv.mk
  subst ea etv
  have n3' : U11.cell? ⟨nb, off + 3, none⟩ = some (.slice tva 1 tvc) := by simpa using n3
  have htv' : Texts U11 (.slice tva 1 tvc) [tnX] := htv
  have c := sameTexts_any _ _ [tnX] [tnX] _ (Texts.grow htv' ((Grow.refl _).alloc _)) (show Texts (U11.alloc (.cells #[.string tnX] 9)) (.slice (some ⟨U11.heap.size, 0, none⟩) 1 1) [tnX] from lit_reads (fun t : ByteArray => [Value.string t]) (fun _ => rfl) U11 [tnX] 9 (fun x => rfl)) (by decide)
  rw [same_yes rfl] at c
  rw [hvl] at HB_v
  clear n3 htv htv' hv0 hvl
  obtain ⟨⟨p0, p1, p2, p3, p4⟩, pz⟩ := n5 HB_v.out
  go_wp2_with fail
  refine c.mono ?_
  clear c
  rintro e UX ⟨rfl, gX⟩
  have GX := ((GW.out).alloc (.cells #[.string tnX] 9)).trans gX
  go_wp2_with fail
  go_ret
  exact ⟨rfl, GX⟩
end Go.Proofs.YtnajccljdjllgaaDoor
set_option linter.unusedVariables false
set_option linter.unusedSimpArgs false
namespace Go.Proofs.YtnajccljdjllgaaDoor
open Go.RowKit Go.Lib
theorem numOf_any (n : Int) (w : World) : Calls Tryd.prog 20 #[.int .i64 n] w fun e w' => e = .returned (.int .i64 n) ∧ w' = w := by
  go_enter Tryd.func20, Tryd.ntmps20
  go_wp2_with fail
  go_ret
  exact ⟨rfl, rfl⟩
theorem n4 {w : World} {b : Nat} {t : TypeId} {m : Nat × Nat} {u0 u1 u2 u3 : Value} (hb : w.heap[b]? = some (.cells #[u0, u1, u2, u3] t m)) :
    (w.cell? ⟨b, 0, none⟩ = some u0 ∧ w.cell? ⟨b, 1, none⟩ = some u1 ∧ w.cell? ⟨b, 2, none⟩ = some u2 ∧ w.cell? ⟨b, 3, none⟩ = some u3) ∧ b < w.heap.size :=
  ⟨⟨(cell_of_row w b 0 _ _ _ hb).trans rfl, (cell_of_row w b 1 _ _ _ hb).trans rfl, (cell_of_row w b 2 _ _ _ hb).trans rfl, (cell_of_row w b 3 _ _ _ hb).trans rfl⟩, (Array.getElem?_eq_some_iff.1 hb).1⟩
theorem resOf_n0 (e : Int) (s : Shelf) : (resOf e s 0).n = 0 := by unfold resOf; split <;> rfl
theorem results_cct {P : Program} {fn : Func} {p q u : Tmp} {ty ty2 : TypeId} (h : fn.results = #[.cell p ty, .cell q ty2, .tmp u]) (tmps : Array Value) (w : World) :
    (results fn tmps).run P w = ((asAddr (tmps.getD p undef)).run P w).andThen fun a w₁ => ((loadVar ty a).run P w₁).andThen fun v w₂ => ((asAddr (tmps.getD q undef)).run P w₂).andThen fun a2 w₃ => ((loadVar ty2 a2).run P w₃).andThen fun v2 w₄ => .ok (.tuple #[v, v2, tmps.getD u undef]) w₄ := by
  simp [results, h, Sem.run_bind]
def RetC1 (S : Shelf) (E : Int) (w : World) (e : Ending) (w' : World) : Prop := ∃ xa xc ya yc Y, e = .returned (.tuple #[.agg #[.int .i64 S.nb, .int .i64 S.nn, .int .i64 S.ns, .slice xa S.books.length xc, .slice ya S.notes.length yc], .int .i64 E]) ∧ OwnS w.heap.size (.slice xa S.books.length xc) (.slice ya S.notes.length yc) S.books Y w' ∧ Y.map NV.n = S.notes ∧ Grow w w'
def RetM1 (S : Shelf) (N E : Int) (w : World) (e : Ending) (w' : World) : Prop := ∃ xa xc ya yc Y, e = .returned (.tuple #[.agg #[.int .i64 S.nb, .int .i64 S.nn, .int .i64 S.ns, .slice xa S.books.length xc, .slice ya S.notes.length yc], .int .i64 N, .int .i64 E]) ∧ OwnS w.heap.size (.slice xa S.books.length xc) (.slice ya S.notes.length yc) S.books Y w' ∧ Y.map NV.n = S.notes ∧ Grow w w'
theorem RetC.one {r : Res} {S : Shelf} {N E : Int} (hr : r = ⟨S, N, E⟩) {w w' : World} {e : Ending} (h : RetC r w e w') : RetC1 S E w e w' := by
  subst hr
  obtain ⟨g, bv, nv, Y, h1, h2, h3⟩ := h
  obtain ⟨xa, xc, e1, -⟩ := h2.books.slice
  obtain ⟨ya, yc, e2, -⟩ := h2.notes.slice
  have hl : Y.length = S.notes.length := by rw [← h3, List.length_map]
  rw [hl] at e2
  subst e1 e2
  exact ⟨xa, xc, ya, yc, Y, h1, h2, h3, g⟩
theorem RetM.one {r : Res} {S : Shelf} {N E : Int} (hr : r = ⟨S, N, E⟩) {w w' : World} {e : Ending} (h : RetM r w e w') : RetM1 S N E w e w' := by
  subst hr
  obtain ⟨g, bv, nv, Y, h1, h2, h3⟩ := h
  obtain ⟨xa, xc, e1, -⟩ := h2.books.slice
  obtain ⟨ya, yc, e2, -⟩ := h2.notes.slice
  have hl : Y.length = S.notes.length := by rw [← h3, List.length_map]
  rw [hl] at e2
  subst e1 e2
  exact ⟨xa, xc, ya, yc, Y, h1, h2, h3, g⟩
theorem own_shelf {base : Nat} {bv nv : Value} {S : Shelf} {Y : List NV} {w : World} (h : OwnS base bv nv S.books Y w) (hm : Y.map NV.n = S.notes) : ShelfR w S bv nv := ⟨h.reads.1, by rw [← hm]; exact h.reads.2⟩
abbrev zQ : Obj := shQ 0 0 0 (.slice none 0 0) (.slice none 0 0)
abbrev shO (S : Shelf) (bv nv : Value) : Obj := shQ S.nb S.nn S.ns bv nv
/-- Both shelves lie in their boxes (A, B); C, D are boxes that are still empty. -/
structure BothSt (w : World) (A B C D : Nat) (S : Shelf) (bv nv : Value) (Y : List NV) (b2 n2 : Value) (W : World) : Prop where
  grow : Grow w W
  a : W.heap[A]? = some (shO S bv nv)
  b : W.heap[B]? = some (shO S b2 n2)
  c : W.heap[C]? = some zQ
  d : W.heap[D]? = some zQ
  own : OwnS w.heap.size bv nv S.books Y W
  map : Y.map NV.n = S.notes
  two : ShelfR W S b2 n2
theorem both_one {w V w1 : World} {A : Nat} {S : Shelf} {bv nv : Value} {Y : List NV} (gV : Grow w V) (hA : V.heap[A]? = some zQ) (hl : w.heap.size ≤ A) (g1 : Grow V w1) (ho : OwnS V.heap.size bv nv S.books Y w1) :
    (set5w w1 A (.int .i64 S.nb) (.int .i64 S.nn) (.int .i64 S.ns) bv nv).heap[A]? = some (shO S bv nv) ∧ Grow w (set5w w1 A (.int .i64 S.nb) (.int .i64 S.nn) (.int .i64 S.ns) bv nv) ∧ OwnS w.heap.size bv nv S.books Y (set5w w1 A (.int .i64 S.nb) (.int .i64 S.nn) (.int .i64 S.ns) bv nv) ∧
      ∀ (i : Nat) (o : Obj), i ≠ A → V.heap[i]? = some o → (set5w w1 A (.int .i64 S.nb) (.int .i64 S.nn) (.int .i64 S.ns) bv nv).heap[i]? = some o := by
  have hb := g1.blk hA
  obtain ⟨h1, h2⟩ := set5 hb (.int .i64 S.nb) (.int .i64 S.nn) (.int .i64 S.ns) bv nv
  exact ⟨h1, h2.grow (gV.trans g1) hl, (ho.base_mono gV.size).kept (shelf_kept hb h2), fun i o hi ho => set5_other _ _ _ _ _ hi (g1.blk ho)⟩
theorem both_two {w V w2 : World} {A B C D : Nat} {S : Shelf} {bv nv b2 n2 : Value} {Y : List NV} (gV : Grow w V) (hA : V.heap[A]? = some (shO S bv nv)) (hB : V.heap[B]? = some zQ) (hC : V.heap[C]? = some zQ) (hD : V.heap[D]? = some zQ) (hl : w.heap.size ≤ B) (ne : A ≠ B ∧ C ≠ B ∧ D ≠ B)
    (ho : OwnS w.heap.size bv nv S.books Y V) (hm : Y.map NV.n = S.notes) (g2 : Grow V w2) {Y2 : List NV} (ho2 : OwnS V.heap.size b2 n2 S.books Y2 w2) (hm2 : Y2.map NV.n = S.notes) :
    BothSt w A B C D S bv nv Y b2 n2 (set5w w2 B (.int .i64 S.nb) (.int .i64 S.nn) (.int .i64 S.ns) b2 n2) := by
  have hb := g2.blk hB
  obtain ⟨h1, h2⟩ := set5 hb (.int .i64 S.nb) (.int .i64 S.nn) (.int .i64 S.ns) b2 n2
  have k := shelf_kept hb h2
  exact ⟨h2.grow (gV.trans g2) hl, set5_other _ _ _ _ _ ne.1 (g2.blk hA), h1, set5_other _ _ _ _ _ ne.2.1 (g2.blk hC), set5_other _ _ _ _ _ ne.2.2 (g2.blk hD), (ho.grow g2).kept k, hm, own_shelf (ho2.kept k) hm2⟩
/-- What both answers. -/
def RetB (S : Shelf) (w : World) (e : Ending) (w' : World) : Prop := ∃ xa xc ya yc Y b2 bc2 n2 nc2, e = .returned (.tuple #[.agg #[.int .i64 S.nb, .int .i64 S.nn, .int .i64 S.ns, .slice xa S.books.length xc, .slice ya S.notes.length yc], .agg #[.int .i64 S.nb, .int .i64 S.nn, .int .i64 S.ns, .slice b2 S.books.length bc2, .slice n2 S.notes.length nc2], .bool true]) ∧ OwnS w.heap.size (.slice xa S.books.length xc) (.slice ya S.notes.length yc) S.books Y w' ∧ Y.map NV.n = S.notes ∧ Grow w w'
def RetB8 (S : Shelf) (w : World) (e : Ending) (w' : World) : Prop := ∃ xa xc ya yc Y, e = .returned (.tuple #[.agg #[.int .i64 S.nb, .int .i64 S.nn, .int .i64 S.ns, .slice xa S.books.length xc, .slice ya S.notes.length yc], .bool true]) ∧ OwnS w.heap.size (.slice xa S.books.length xc) (.slice ya S.notes.length yc) S.books Y w' ∧ Y.map NV.n = S.notes ∧ Grow w w'
/-- Rows of the call's own, beside boxes of shelves in which the results are stored. -/
def OwnE (w : World) (bv nv : Value) (X : List Book) (Y : List NV) (L : List Nat) (W : World) : Prop := Grow w W ∧ OwnS w.heap.size bv nv X Y W ∧ ∀ C ∈ L, ∃ cs : Array Value, W.heap[C]? = some (.cells cs 28 (0, 0))
theorem OwnE.drew {w W : World} {bv nv : Value} {X : List Book} {Y : List NV} {L : List Nat} (h : OwnE w bv nv X Y L W) : OwnE w bv nv X Y L W.drew := ⟨h.1.drew, h.2.1.grow (Grow.refl W).drew, fun C hC => (h.2.2 C hC).elim fun cs hc => ⟨cs, (Grow.refl W).drew.blk hc⟩⟩
theorem OwnE.more {w W W' : World} {bv nv : Value} {X : List Book} {Y : List NV} {L : List Nat} (h : OwnE w bv nv X Y L W) (g : Grow W W') : OwnE w bv nv X Y L W' := ⟨h.1.trans g, h.2.1.grow g, fun C hC => (h.2.2 C hC).elim fun cs hc => ⟨cs, g.blk hc⟩⟩
theorem OwnE.set {w W : World} {bv nv : Value} {X : List Book} {Y : List NV} {L : List Nat} (h : OwnE w bv nv X Y L W) {C : Nat} (hC : C ∈ L) (hl : w.heap.size ≤ C) (j : Nat) (u : Value) : OwnE w bv nv X Y L (W.setCell ⟨C, j, none⟩ u) := by
  obtain ⟨cs, hc⟩ := h.2.2 C hC
  have ht := turned_cell W C j u
  refine ⟨ht.grow h.1 hl, h.2.1.kept (shelf_kept hc ht), fun E hE => ?_⟩
  by_cases e : E = C
  · subst e; exact ⟨_, heap_setCell_same W E j _ _ u hc⟩
  · obtain ⟨c2, h2⟩ := h.2.2 E hE
    exact ⟨c2, (ht.block E (Array.getElem?_eq_some_iff.1 h2).1 e).trans h2⟩
theorem BothSt.ends {w W : World} {A B C D : Nat} {S : Shelf} {bv nv b2 n2 : Value} {Y : List NV} (h : BothSt w A B C D S bv nv Y b2 n2 W) : OwnE w bv nv S.books Y [C, D] W := ⟨h.grow, h.own, fun E hE => by
  simp only [List.mem_cons, List.not_mem_nil, or_false] at hE
  rcases hE with rfl | rfl
  · exact ⟨_, h.c⟩
  · exact ⟨_, h.d⟩⟩
theorem same_tame {S : Shelf} (h : TameS S) : Tame S := h.1
theorem rsame (S : Shelf) : same S S = true := same_yes rfl
end Go.Proofs.YtnajccljdjllgaaDoor
set_option linter.unusedVariables false
set_option linter.unusedSimpArgs false
namespace Go.Proofs.YtnajccljdjllgaaDoor
open Go.RowKit Go.Lib
theorem replace_may {s : Shelf} {id k : Int} (h : sheetE s id k = 0) : MayP (replaceR s id k).s := by
  rw [replaceR, resOf_ok h]; exact mayS_iff.1 (sheetE_zero.1 h).1
theorem replace_tame (s : Shelf) (id k : Int) : TameS (replaceR s id k).s := tame_res replace_may
def act18R (s : Shelf) (x a b : Int) (t : ByteArray) : Res := if x = 0 then tagR s a t else if x = 1 then untagR s a t else if x = 2 then appendR s a else if x = 3 then replaceR s a b else if x = 4 then removeR s a b else ⟨zS, 0, 0⟩
theorem act18R_tame (s : Shelf) (x a b : Int) (t : ByteArray) : TameS (act18R s x a b t).s := by
  unfold act18R
  repeat' split
  · exact tag_tame s a t
  · exact untag_tame s a t
  · exact append_tame s a
  · exact replace_tame s a b
  · exact remove_tame s a b
  · exact zS_tame
theorem boxes18 (w : World) (o0 : Obj) (o1 : Obj) (o2 : Obj) (o3 : Obj) (o4 : Obj) : ((((((w.alloc o0).alloc o1).alloc o2).alloc o3).alloc o4)).heap[w.heap.size]? = some o0 ∧ ((((((w.alloc o0).alloc o1).alloc o2).alloc o3).alloc o4)).heap[w.heap.size + 1]? = some o1 ∧ ((((((w.alloc o0).alloc o1).alloc o2).alloc o3).alloc o4)).heap[w.heap.size + 2]? = some o2 ∧ ((((((w.alloc o0).alloc o1).alloc o2).alloc o3).alloc o4)).heap[w.heap.size + 3]? = some o3 ∧ ((((((w.alloc o0).alloc o1).alloc o2).alloc o3).alloc o4)).heap[w.heap.size + 4]? = some o4 := by
  refine ⟨?_, ?_, ?_, ?_, ?_⟩
  · have h := heap_alloc_new (w) o0
    rw [show (w).heap.size = w.heap.size by simp] at h
    exact ((((((Grow.refl _).alloc o1).alloc o2).alloc o3).alloc o4) : Grow _ _).blk h
  · have h := heap_alloc_new ((w.alloc o0)) o1
    rw [show ((w.alloc o0)).heap.size = w.heap.size + 1 by simp] at h
    exact (((((Grow.refl _).alloc o2).alloc o3).alloc o4) : Grow _ _).blk h
  · have h := heap_alloc_new (((w.alloc o0).alloc o1)) o2
    rw [show (((w.alloc o0).alloc o1)).heap.size = w.heap.size + 2 by simp] at h
    exact ((((Grow.refl _).alloc o3).alloc o4) : Grow _ _).blk h
  · have h := heap_alloc_new ((((w.alloc o0).alloc o1).alloc o2)) o3
    rw [show ((((w.alloc o0).alloc o1).alloc o2)).heap.size = w.heap.size + 3 by simp] at h
    exact (((Grow.refl _).alloc o4) : Grow _ _).blk h
  · have h := heap_alloc_new (((((w.alloc o0).alloc o1).alloc o2).alloc o3)) o4
    rw [show (((((w.alloc o0).alloc o1).alloc o2).alloc o3)).heap.size = w.heap.size + 4 by simp] at h
    exact h
set_option maxRecDepth 100000 in
set_option maxHeartbeats 8000000 in
theorem both18_any (s : Shelf) (bv nv : Value) (x a b : Int) (t : ByteArray) (w : World) (h : ShelfR w s bv nv) (hz : TameS s) (ht : t.size ≤ 1000000000) (hT : Tabs w) :
    Calls Tryd.prog 16 #[shelfV s bv nv, .agg #[.int .i64 x, .int .i64 a, .int .i64 b, .string t]] w (RetB8 (act18R s x a b t).s w) := by
  obtain ⟨S, N, E, hR⟩ : ∃ S N E, act18R s x a b t = ⟨S, N, E⟩ := ⟨_, _, _, rfl⟩
  have HTS := Lib.hid (show TameS S by have := act18R_tame s x a b t; rw [hR] at this; exact this)
  rw [hR]
  have HR := Lib.hid hR
  have HH := Lib.hid h
  have HZ := Lib.hid hz
  have HTB := Lib.hid hT
  obtain ⟨a1, c1, rfl⟩ := h.1.mk
  obtain ⟨a2, c2, rfl⟩ := h.2.mk
  have HXX := Lib.hid (boxes18 w (.cells #[.int .i64 s.nb, .int .i64 s.nn, .int .i64 s.ns, .slice a1 s.books.length c1, .slice a2 s.notes.length c2] 28) (.cells #[.int .i64 x, .int .i64 a, .int .i64 b, .string t] 44) (.cells #[.int .i64 0, .int .i64 0, .int .i64 0, .slice none 0 0, .slice none 0 0] 28) (.cells #[.int .i64 0, .int .i64 0, .int .i64 0, .slice none 0 0, .slice none 0 0] 28) (.cells #[.int .i64 0, .int .i64 0, .int .i64 0, .slice none 0 0, .slice none 0 0] 28))
  clear h hz hT hR
  unfold shelfV
  go_enter Tryd.func16, Tryd.ntmps16
  go_upto_region 2 with (fail)
  generalize hV : (((((w.alloc (.cells #[.int .i64 s.nb, .int .i64 s.nn, .int .i64 s.ns, .slice a1 s.books.length c1, .slice a2 s.notes.length c2] 28)).alloc (.cells #[.int .i64 x, .int .i64 a, .int .i64 b, .string t] 44)).alloc (.cells #[.int .i64 0, .int .i64 0, .int .i64 0, .slice none 0 0, .slice none 0 0] 28)).alloc (.cells #[.int .i64 0, .int .i64 0, .int .i64 0, .slice none 0 0, .slice none 0 0] 28)).alloc (.cells #[.int .i64 0, .int .i64 0, .int .i64 0, .slice none 0 0, .slice none 0 0] 28)) = V
  have gV : Grow w V := by rw [← hV]; exact ((((((Grow.refl w).alloc _).alloc _).alloc _).alloc _).alloc _)
  have HB0 : Hid (V.heap[w.heap.size]? = some (.cells #[.int .i64 s.nb, .int .i64 s.nn, .int .i64 s.ns, .slice a1 s.books.length c1, .slice a2 s.notes.length c2] 28)) := by rw [← hV]; exact Lib.hid HXX.out.1
  have HB1 : Hid (V.heap[w.heap.size + 1]? = some (.cells #[.int .i64 x, .int .i64 a, .int .i64 b, .string t] 44)) := by rw [← hV]; exact Lib.hid HXX.out.2.1
  have HB2 : Hid (V.heap[w.heap.size + 2]? = some (.cells #[.int .i64 0, .int .i64 0, .int .i64 0, .slice none 0 0, .slice none 0 0] 28)) := by rw [← hV]; exact Lib.hid HXX.out.2.2.1
  have HB3 : Hid (V.heap[w.heap.size + 3]? = some (.cells #[.int .i64 0, .int .i64 0, .int .i64 0, .slice none 0 0, .slice none 0 0] 28)) := by rw [← hV]; exact Lib.hid HXX.out.2.2.2.1
  have HB4 : Hid (V.heap[w.heap.size + 4]? = some (.cells #[.int .i64 0, .int .i64 0, .int .i64 0, .slice none 0 0, .slice none 0 0] 28)) := by rw [← hV]; exact Lib.hid HXX.out.2.2.2.2
  clear hV HXX
  obtain ⟨⟨p0, p1, p2, p3, p4⟩, hpz⟩ := n5 HB0.out
  obtain ⟨⟨q0, q1, q2, q3⟩, hqz⟩ := n4 HB1.out
  go_upto_block 0 with (fail)
  go_cut [8, 9, 10, 11] (fun v8 v9 v10 v11 wx => ∃ xa xc ya yc Y b2 n2, v8 = .int .i64 N ∧ v9 = .int .i64 N ∧ v10 = .int .i64 E ∧ v11 = .int .i64 E ∧ BothSt w (w.heap.size + 3) (w.heap.size + 4) (w.heap.size + 2) (w.heap.size + 2) S (.slice xa S.books.length xc) (.slice ya S.notes.length yc) Y b2 n2 wx)
  case first =>
    by_cases hx0 : x = 0
    · subst hx0
      have hR1 : tagR s a t = ⟨S, N, E⟩ := by have h9 := HR.out; unfold act18R at h9; simpa using h9
      have hN : N = 0 := by have h9 := congrArg Res.n hR1; rw [show (tagR s a t).n = 0 from resOf_n0 _ _] at h9; exact h9.symm
      have c := (tag_any s _ _ a t V (HH.out.grow gV) HZ.out ht (HTB.out.below gV)).mono fun _ _ => RetC.one hR1
      unfold shelfV at c
      go_wp2_with fail
      refine c.mono ?_
      clear c
      rintro e w1 ⟨xa, xc, ya, yc, Y, rfl, ho, hm, g1⟩
      obtain ⟨k1, k2, k3, k4⟩ := both_one gV HB3.out (by omega) g1 ho
      obtain ⟨⟨e0, e1, e2, e3, e4⟩, ez⟩ := n5 (g1.blk HB3.out)
      have f0 := frozen_of_row w1 (w.heap.size + 3) 0 _ _ (g1.blk HB3.out)
      have f1 := frozen_of_row w1 (w.heap.size + 3) 1 _ _ (g1.blk HB3.out)
      have f2 := frozen_of_row w1 (w.heap.size + 3) 2 _ _ (g1.blk HB3.out)
      have f3 := frozen_of_row w1 (w.heap.size + 3) 3 _ _ (g1.blk HB3.out)
      have f4 := frozen_of_row w1 (w.heap.size + 3) 4 _ _ (g1.blk HB3.out)
      unfold set5w at k1 k2 k3 k4
      clear p0 p1 p2 p3 p4 hpz q0 q1 q2 q3 hqz
      go_upto_region 7 with (fail)
      generalize ((((w1.setCell ⟨w.heap.size + 3, 0, none⟩ (.int .i64 S.nb)).setCell ⟨w.heap.size + 3, 1, none⟩ (.int .i64 S.nn)).setCell ⟨w.heap.size + 3, 2, none⟩ (.int .i64 S.ns)).setCell ⟨w.heap.size + 3, 3, none⟩ (.slice xa S.books.length xc)).setCell ⟨w.heap.size + 3, 4, none⟩ (.slice ya S.notes.length yc) = W1 at *
      have KA := Lib.hid k1
      have KG := Lib.hid k2
      have KO := Lib.hid k3
      have KB0 := Lib.hid (k4 _ _ (by omega) HB0.out)
      have KB1 := Lib.hid (k4 _ _ (by omega) HB1.out)
      have KB := Lib.hid (k4 _ _ (by omega) HB4.out)
      have KC := Lib.hid (k4 _ _ (by omega) HB2.out)
      have KD := Lib.hid (k4 _ _ (by omega) HB2.out)
      have KM := Lib.hid hm
      clear k1 k2 k3 k4 ho hm g1 e0 e1 e2 e3 e4 ez f0 f1 f2 f3 f4
      obtain ⟨⟨p0, p1, p2, p3, p4⟩, hpz⟩ := n5 KB0.out
      obtain ⟨⟨q0, q1, q2, q3⟩, hqz⟩ := n4 KB1.out
      have c := (refTag_any s _ _ a t W1 (HH.out.grow KG.out) HZ.out ht (HTB.out.below KG.out)).mono fun _ _ => RetC.one hR1
      unfold shelfV at c
      go_wp2_with fail
      refine c.mono ?_
      clear c
      rintro e w2 ⟨xa2, xc2, ya2, yc2, Y2, rfl, ho, hm, g2⟩
      have k := both_two (A := w.heap.size + 3) (B := w.heap.size + 4) (C := w.heap.size + 2) (D := w.heap.size + 2) KG.out KA.out KB.out KC.out KD.out (by omega) ⟨by omega, by omega, by omega⟩ KO.out KM.out g2 ho hm
      obtain ⟨⟨e0, e1, e2, e3, e4⟩, ez⟩ := n5 (g2.blk KB.out)
      have f0 := frozen_of_row w2 (w.heap.size + 4) 0 _ _ (g2.blk KB.out)
      have f1 := frozen_of_row w2 (w.heap.size + 4) 1 _ _ (g2.blk KB.out)
      have f2 := frozen_of_row w2 (w.heap.size + 4) 2 _ _ (g2.blk KB.out)
      have f3 := frozen_of_row w2 (w.heap.size + 4) 3 _ _ (g2.blk KB.out)
      have f4 := frozen_of_row w2 (w.heap.size + 4) 4 _ _ (g2.blk KB.out)
      have KK := Lib.hid k
      clear p0 p1 p2 p3 p4 hpz q0 q1 q2 q3 hqz k ho hm g2
      go_wp2_with fail
      go_meet
      exact ⟨xa, xc, ya, yc, Y, _, _, by rw [hN], by rw [hN], rfl, rfl, KK.out⟩
    · have hx0' := hx0
      by_cases hx1 : x = 1
      · subst hx1
        have hR1 : untagR s a t = ⟨S, N, E⟩ := by have h9 := HR.out; unfold act18R at h9; simpa using h9
        have hN : N = 0 := by have h9 := congrArg Res.n hR1; rw [show (untagR s a t).n = 0 from resOf_n0 _ _] at h9; exact h9.symm
        have c := (untag_any s _ _ a t V (HH.out.grow gV) HZ.out ht (HTB.out.below gV)).mono fun _ _ => RetC.one hR1
        unfold shelfV at c
        go_wp2_with fail
        refine c.mono ?_
        clear c
        rintro e w1 ⟨xa, xc, ya, yc, Y, rfl, ho, hm, g1⟩
        obtain ⟨k1, k2, k3, k4⟩ := both_one gV HB3.out (by omega) g1 ho
        obtain ⟨⟨e0, e1, e2, e3, e4⟩, ez⟩ := n5 (g1.blk HB3.out)
        have f0 := frozen_of_row w1 (w.heap.size + 3) 0 _ _ (g1.blk HB3.out)
        have f1 := frozen_of_row w1 (w.heap.size + 3) 1 _ _ (g1.blk HB3.out)
        have f2 := frozen_of_row w1 (w.heap.size + 3) 2 _ _ (g1.blk HB3.out)
        have f3 := frozen_of_row w1 (w.heap.size + 3) 3 _ _ (g1.blk HB3.out)
        have f4 := frozen_of_row w1 (w.heap.size + 3) 4 _ _ (g1.blk HB3.out)
        unfold set5w at k1 k2 k3 k4
        clear p0 p1 p2 p3 p4 hpz q0 q1 q2 q3 hqz
        go_upto_region 10 with (fail)
        generalize ((((w1.setCell ⟨w.heap.size + 3, 0, none⟩ (.int .i64 S.nb)).setCell ⟨w.heap.size + 3, 1, none⟩ (.int .i64 S.nn)).setCell ⟨w.heap.size + 3, 2, none⟩ (.int .i64 S.ns)).setCell ⟨w.heap.size + 3, 3, none⟩ (.slice xa S.books.length xc)).setCell ⟨w.heap.size + 3, 4, none⟩ (.slice ya S.notes.length yc) = W1 at *
        have KA := Lib.hid k1
        have KG := Lib.hid k2
        have KO := Lib.hid k3
        have KB0 := Lib.hid (k4 _ _ (by omega) HB0.out)
        have KB1 := Lib.hid (k4 _ _ (by omega) HB1.out)
        have KB := Lib.hid (k4 _ _ (by omega) HB4.out)
        have KC := Lib.hid (k4 _ _ (by omega) HB2.out)
        have KD := Lib.hid (k4 _ _ (by omega) HB2.out)
        have KM := Lib.hid hm
        clear k1 k2 k3 k4 ho hm g1 e0 e1 e2 e3 e4 ez f0 f1 f2 f3 f4
        obtain ⟨⟨p0, p1, p2, p3, p4⟩, hpz⟩ := n5 KB0.out
        obtain ⟨⟨q0, q1, q2, q3⟩, hqz⟩ := n4 KB1.out
        have c := (refUntag_any s _ _ a t W1 (HH.out.grow KG.out) HZ.out ht (HTB.out.below KG.out)).mono fun _ _ => RetC.one hR1
        unfold shelfV at c
        go_wp2_with fail
        refine c.mono ?_
        clear c
        rintro e w2 ⟨xa2, xc2, ya2, yc2, Y2, rfl, ho, hm, g2⟩
        have k := both_two (A := w.heap.size + 3) (B := w.heap.size + 4) (C := w.heap.size + 2) (D := w.heap.size + 2) KG.out KA.out KB.out KC.out KD.out (by omega) ⟨by omega, by omega, by omega⟩ KO.out KM.out g2 ho hm
        obtain ⟨⟨e0, e1, e2, e3, e4⟩, ez⟩ := n5 (g2.blk KB.out)
        have f0 := frozen_of_row w2 (w.heap.size + 4) 0 _ _ (g2.blk KB.out)
        have f1 := frozen_of_row w2 (w.heap.size + 4) 1 _ _ (g2.blk KB.out)
        have f2 := frozen_of_row w2 (w.heap.size + 4) 2 _ _ (g2.blk KB.out)
        have f3 := frozen_of_row w2 (w.heap.size + 4) 3 _ _ (g2.blk KB.out)
        have f4 := frozen_of_row w2 (w.heap.size + 4) 4 _ _ (g2.blk KB.out)
        have KK := Lib.hid k
        clear p0 p1 p2 p3 p4 hpz q0 q1 q2 q3 hqz k ho hm g2
        go_wp2_with fail
        go_meet
        exact ⟨xa, xc, ya, yc, Y, _, _, by rw [hN], by rw [hN], rfl, rfl, KK.out⟩
      · have hx1' := hx1
        by_cases hx2 : x = 2
        · subst hx2
          have hR1 : appendR s a = ⟨S, N, E⟩ := by have h9 := HR.out; unfold act18R at h9; simpa using h9
          have c := (append_any s _ _ a V (HH.out.grow gV) HZ.out (HTB.out.below gV)).mono fun _ _ => RetM.one hR1
          unfold shelfV at c
          go_wp2_with fail
          refine c.mono ?_
          clear c
          rintro e w1 ⟨xa, xc, ya, yc, Y, rfl, ho, hm, g1⟩
          obtain ⟨k1, k2, k3, k4⟩ := both_one gV HB3.out (by omega) g1 ho
          obtain ⟨⟨e0, e1, e2, e3, e4⟩, ez⟩ := n5 (g1.blk HB3.out)
          have f0 := frozen_of_row w1 (w.heap.size + 3) 0 _ _ (g1.blk HB3.out)
          have f1 := frozen_of_row w1 (w.heap.size + 3) 1 _ _ (g1.blk HB3.out)
          have f2 := frozen_of_row w1 (w.heap.size + 3) 2 _ _ (g1.blk HB3.out)
          have f3 := frozen_of_row w1 (w.heap.size + 3) 3 _ _ (g1.blk HB3.out)
          have f4 := frozen_of_row w1 (w.heap.size + 3) 4 _ _ (g1.blk HB3.out)
          unfold set5w at k1 k2 k3 k4
          clear p0 p1 p2 p3 p4 hpz q0 q1 q2 q3 hqz
          go_upto_region 13 with (fail)
          generalize ((((w1.setCell ⟨w.heap.size + 3, 0, none⟩ (.int .i64 S.nb)).setCell ⟨w.heap.size + 3, 1, none⟩ (.int .i64 S.nn)).setCell ⟨w.heap.size + 3, 2, none⟩ (.int .i64 S.ns)).setCell ⟨w.heap.size + 3, 3, none⟩ (.slice xa S.books.length xc)).setCell ⟨w.heap.size + 3, 4, none⟩ (.slice ya S.notes.length yc) = W1 at *
          have KA := Lib.hid k1
          have KG := Lib.hid k2
          have KO := Lib.hid k3
          have KB0 := Lib.hid (k4 _ _ (by omega) HB0.out)
          have KB1 := Lib.hid (k4 _ _ (by omega) HB1.out)
          have KB := Lib.hid (k4 _ _ (by omega) HB4.out)
          have KC := Lib.hid (k4 _ _ (by omega) HB2.out)
          have KD := Lib.hid (k4 _ _ (by omega) HB2.out)
          have KM := Lib.hid hm
          clear k1 k2 k3 k4 ho hm g1 e0 e1 e2 e3 e4 ez f0 f1 f2 f3 f4
          obtain ⟨⟨p0, p1, p2, p3, p4⟩, hpz⟩ := n5 KB0.out
          obtain ⟨⟨q0, q1, q2, q3⟩, hqz⟩ := n4 KB1.out
          have c := (refAppend_any s _ _ a W1 (HH.out.grow KG.out) HZ.out (HTB.out.below KG.out)).mono fun _ _ => RetM.one hR1
          unfold shelfV at c
          go_wp2_with fail
          refine c.mono ?_
          clear c
          rintro e w2 ⟨xa2, xc2, ya2, yc2, Y2, rfl, ho, hm, g2⟩
          have k := both_two (A := w.heap.size + 3) (B := w.heap.size + 4) (C := w.heap.size + 2) (D := w.heap.size + 2) KG.out KA.out KB.out KC.out KD.out (by omega) ⟨by omega, by omega, by omega⟩ KO.out KM.out g2 ho hm
          obtain ⟨⟨e0, e1, e2, e3, e4⟩, ez⟩ := n5 (g2.blk KB.out)
          have f0 := frozen_of_row w2 (w.heap.size + 4) 0 _ _ (g2.blk KB.out)
          have f1 := frozen_of_row w2 (w.heap.size + 4) 1 _ _ (g2.blk KB.out)
          have f2 := frozen_of_row w2 (w.heap.size + 4) 2 _ _ (g2.blk KB.out)
          have f3 := frozen_of_row w2 (w.heap.size + 4) 3 _ _ (g2.blk KB.out)
          have f4 := frozen_of_row w2 (w.heap.size + 4) 4 _ _ (g2.blk KB.out)
          have KK := Lib.hid k
          clear p0 p1 p2 p3 p4 hpz q0 q1 q2 q3 hqz k ho hm g2
          go_wp2_with fail
          go_meet
          exact ⟨xa, xc, ya, yc, Y, _, _, rfl, rfl, rfl, rfl, KK.out⟩
        · have hx2' := hx2
          by_cases hx3 : x = 3
          · subst hx3
            have hR1 : replaceR s a b = ⟨S, N, E⟩ := by have h9 := HR.out; unfold act18R at h9; simpa using h9
            have c := (replace_any s _ _ a b V (HH.out.grow gV) HZ.out (HTB.out.below gV)).mono fun _ _ => RetM.one hR1
            unfold shelfV at c
            go_wp2_with fail
            refine c.mono ?_
            clear c
            rintro e w1 ⟨xa, xc, ya, yc, Y, rfl, ho, hm, g1⟩
            obtain ⟨k1, k2, k3, k4⟩ := both_one gV HB3.out (by omega) g1 ho
            obtain ⟨⟨e0, e1, e2, e3, e4⟩, ez⟩ := n5 (g1.blk HB3.out)
            have f0 := frozen_of_row w1 (w.heap.size + 3) 0 _ _ (g1.blk HB3.out)
            have f1 := frozen_of_row w1 (w.heap.size + 3) 1 _ _ (g1.blk HB3.out)
            have f2 := frozen_of_row w1 (w.heap.size + 3) 2 _ _ (g1.blk HB3.out)
            have f3 := frozen_of_row w1 (w.heap.size + 3) 3 _ _ (g1.blk HB3.out)
            have f4 := frozen_of_row w1 (w.heap.size + 3) 4 _ _ (g1.blk HB3.out)
            unfold set5w at k1 k2 k3 k4
            clear p0 p1 p2 p3 p4 hpz q0 q1 q2 q3 hqz
            go_upto_region 16 with (fail)
            generalize ((((w1.setCell ⟨w.heap.size + 3, 0, none⟩ (.int .i64 S.nb)).setCell ⟨w.heap.size + 3, 1, none⟩ (.int .i64 S.nn)).setCell ⟨w.heap.size + 3, 2, none⟩ (.int .i64 S.ns)).setCell ⟨w.heap.size + 3, 3, none⟩ (.slice xa S.books.length xc)).setCell ⟨w.heap.size + 3, 4, none⟩ (.slice ya S.notes.length yc) = W1 at *
            have KA := Lib.hid k1
            have KG := Lib.hid k2
            have KO := Lib.hid k3
            have KB0 := Lib.hid (k4 _ _ (by omega) HB0.out)
            have KB1 := Lib.hid (k4 _ _ (by omega) HB1.out)
            have KB := Lib.hid (k4 _ _ (by omega) HB4.out)
            have KC := Lib.hid (k4 _ _ (by omega) HB2.out)
            have KD := Lib.hid (k4 _ _ (by omega) HB2.out)
            have KM := Lib.hid hm
            clear k1 k2 k3 k4 ho hm g1 e0 e1 e2 e3 e4 ez f0 f1 f2 f3 f4
            obtain ⟨⟨p0, p1, p2, p3, p4⟩, hpz⟩ := n5 KB0.out
            obtain ⟨⟨q0, q1, q2, q3⟩, hqz⟩ := n4 KB1.out
            have c := (refReplace_any s _ _ a b W1 (HH.out.grow KG.out) HZ.out (HTB.out.below KG.out)).mono fun _ _ => RetM.one hR1
            unfold shelfV at c
            go_wp2_with fail
            refine c.mono ?_
            clear c
            rintro e w2 ⟨xa2, xc2, ya2, yc2, Y2, rfl, ho, hm, g2⟩
            have k := both_two (A := w.heap.size + 3) (B := w.heap.size + 4) (C := w.heap.size + 2) (D := w.heap.size + 2) KG.out KA.out KB.out KC.out KD.out (by omega) ⟨by omega, by omega, by omega⟩ KO.out KM.out g2 ho hm
            obtain ⟨⟨e0, e1, e2, e3, e4⟩, ez⟩ := n5 (g2.blk KB.out)
            have f0 := frozen_of_row w2 (w.heap.size + 4) 0 _ _ (g2.blk KB.out)
            have f1 := frozen_of_row w2 (w.heap.size + 4) 1 _ _ (g2.blk KB.out)
            have f2 := frozen_of_row w2 (w.heap.size + 4) 2 _ _ (g2.blk KB.out)
            have f3 := frozen_of_row w2 (w.heap.size + 4) 3 _ _ (g2.blk KB.out)
            have f4 := frozen_of_row w2 (w.heap.size + 4) 4 _ _ (g2.blk KB.out)
            have KK := Lib.hid k
            clear p0 p1 p2 p3 p4 hpz q0 q1 q2 q3 hqz k ho hm g2
            go_wp2_with fail
            go_meet
            exact ⟨xa, xc, ya, yc, Y, _, _, rfl, rfl, rfl, rfl, KK.out⟩
          · have hx3' := hx3
            by_cases hx4 : x = 4
            · subst hx4
              have hR1 : removeR s a b = ⟨S, N, E⟩ := by have h9 := HR.out; unfold act18R at h9; simpa using h9
              have c := (remove_any s _ _ a b V (HH.out.grow gV) HZ.out (HTB.out.below gV)).mono fun _ _ => RetM.one hR1
              unfold shelfV at c
              go_wp2_with fail
              refine c.mono ?_
              clear c
              rintro e w1 ⟨xa, xc, ya, yc, Y, rfl, ho, hm, g1⟩
              obtain ⟨k1, k2, k3, k4⟩ := both_one gV HB3.out (by omega) g1 ho
              obtain ⟨⟨e0, e1, e2, e3, e4⟩, ez⟩ := n5 (g1.blk HB3.out)
              have f0 := frozen_of_row w1 (w.heap.size + 3) 0 _ _ (g1.blk HB3.out)
              have f1 := frozen_of_row w1 (w.heap.size + 3) 1 _ _ (g1.blk HB3.out)
              have f2 := frozen_of_row w1 (w.heap.size + 3) 2 _ _ (g1.blk HB3.out)
              have f3 := frozen_of_row w1 (w.heap.size + 3) 3 _ _ (g1.blk HB3.out)
              have f4 := frozen_of_row w1 (w.heap.size + 3) 4 _ _ (g1.blk HB3.out)
              unfold set5w at k1 k2 k3 k4
              clear p0 p1 p2 p3 p4 hpz q0 q1 q2 q3 hqz
              go_upto_region 19 with (fail)
              generalize ((((w1.setCell ⟨w.heap.size + 3, 0, none⟩ (.int .i64 S.nb)).setCell ⟨w.heap.size + 3, 1, none⟩ (.int .i64 S.nn)).setCell ⟨w.heap.size + 3, 2, none⟩ (.int .i64 S.ns)).setCell ⟨w.heap.size + 3, 3, none⟩ (.slice xa S.books.length xc)).setCell ⟨w.heap.size + 3, 4, none⟩ (.slice ya S.notes.length yc) = W1 at *
              have KA := Lib.hid k1
              have KG := Lib.hid k2
              have KO := Lib.hid k3
              have KB0 := Lib.hid (k4 _ _ (by omega) HB0.out)
              have KB1 := Lib.hid (k4 _ _ (by omega) HB1.out)
              have KB := Lib.hid (k4 _ _ (by omega) HB4.out)
              have KC := Lib.hid (k4 _ _ (by omega) HB2.out)
              have KD := Lib.hid (k4 _ _ (by omega) HB2.out)
              have KM := Lib.hid hm
              clear k1 k2 k3 k4 ho hm g1 e0 e1 e2 e3 e4 ez f0 f1 f2 f3 f4
              obtain ⟨⟨p0, p1, p2, p3, p4⟩, hpz⟩ := n5 KB0.out
              obtain ⟨⟨q0, q1, q2, q3⟩, hqz⟩ := n4 KB1.out
              have c := (refRemove_any s _ _ a b W1 (HH.out.grow KG.out) HZ.out (HTB.out.below KG.out)).mono fun _ _ => RetM.one hR1
              unfold shelfV at c
              go_wp2_with fail
              refine c.mono ?_
              clear c
              rintro e w2 ⟨xa2, xc2, ya2, yc2, Y2, rfl, ho, hm, g2⟩
              have k := both_two (A := w.heap.size + 3) (B := w.heap.size + 4) (C := w.heap.size + 2) (D := w.heap.size + 2) KG.out KA.out KB.out KC.out KD.out (by omega) ⟨by omega, by omega, by omega⟩ KO.out KM.out g2 ho hm
              obtain ⟨⟨e0, e1, e2, e3, e4⟩, ez⟩ := n5 (g2.blk KB.out)
              have f0 := frozen_of_row w2 (w.heap.size + 4) 0 _ _ (g2.blk KB.out)
              have f1 := frozen_of_row w2 (w.heap.size + 4) 1 _ _ (g2.blk KB.out)
              have f2 := frozen_of_row w2 (w.heap.size + 4) 2 _ _ (g2.blk KB.out)
              have f3 := frozen_of_row w2 (w.heap.size + 4) 3 _ _ (g2.blk KB.out)
              have f4 := frozen_of_row w2 (w.heap.size + 4) 4 _ _ (g2.blk KB.out)
              have KK := Lib.hid k
              clear p0 p1 p2 p3 p4 hpz q0 q1 q2 q3 hqz k ho hm g2
              go_wp2_with fail
              go_meet
              exact ⟨xa, xc, ya, yc, Y, _, _, rfl, rfl, rfl, rfl, KK.out⟩
            · have hx4' := hx4
              have hR1 : (⟨zS, 0, 0⟩ : Res) = ⟨S, N, E⟩ := by have h9 := HR.out; unfold act18R at h9; rw [if_neg hx0, if_neg hx1, if_neg hx2, if_neg hx3, if_neg hx4] at h9; exact h9
              obtain ⟨rfl, rfl, rfl⟩ : zS = S ∧ (0 : Int) = N ∧ (0 : Int) = E := by injection hR1 with h1 h2 h3; exact ⟨h1, h2, h3⟩
              go_wp2_with fail
              go_meet
              exact ⟨none, 0, none, 0, [], _, _, rfl, rfl, rfl, rfl, ⟨gV, HB3.out, HB4.out, HB2.out, HB2.out, OwnS.nil, rfl, ⟨Reads.nil, Reads.nil⟩⟩⟩
  case rest =>
    obtain ⟨xa, xc, ya, yc, Y, b2, n2, rfl, rfl, rfl, rfl, hb⟩ := hcut
    generalize wc = W at *
    have HB := Lib.hid hb
    have HEN := Lib.hid hb.ends
    have HRS := Lib.hid (own_shelf hb.own hb.map)
    obtain ⟨b2a, b2c, eb2⟩ := hb.two.1.mk
    obtain ⟨n2a, n2c, en2⟩ := hb.two.2.mk
    subst eb2 en2
    have HR2 := Lib.hid hb.two
    obtain ⟨⟨p0, p1, p2, p3, p4⟩, hpz⟩ := n5 hb.a
    obtain ⟨⟨q0, q1, q2, q3, q4⟩, hqz⟩ := n5 hb.b
    obtain ⟨⟨c0, c1', c2', c3, c4⟩, hcz⟩ := n5 hb.c
    have HMAP := Lib.hid hb.map
    have cS := fun W' (g : Grow W W') => sameShelf_any S S _ _ _ _ W' (HRS.out.grow g) (HR2.out.grow g) HTS.out.1
    simp only [rsame] at cS
    have cNu := numOf_any E
    have hee : (E == E) = true := beq_self_eq_true E
    have hnn : (N == N) = true := beq_self_eq_true N
    unfold shelfV at cS
    have fc0 := frozen_of_row W (w.heap.size + 2) 0 _ _ hb.c
    have fc1 := frozen_of_row W (w.heap.size + 2) 1 _ _ hb.c
    have fc2 := frozen_of_row W (w.heap.size + 2) 2 _ _ hb.c
    have fc3 := frozen_of_row W (w.heap.size + 2) 3 _ _ hb.c
    have fc4 := frozen_of_row W (w.heap.size + 2) 4 _ _ hb.c
    clear hb
    have key : ∀ W', Grow W W' → W'.cell? ⟨w.heap.size + 3, 0, none⟩ = some (.int .i64 S.nb) ∧ W'.cell? ⟨w.heap.size + 3, 1, none⟩ = some (.int .i64 S.nn) ∧ W'.cell? ⟨w.heap.size + 3, 2, none⟩ = some (.int .i64 S.ns) ∧ W'.cell? ⟨w.heap.size + 3, 3, none⟩ = some (.slice xa S.books.length xc) ∧ W'.cell? ⟨w.heap.size + 3, 4, none⟩ = some (.slice ya S.notes.length yc) ∧ W'.cell? ⟨w.heap.size + 4, 0, none⟩ = some (.int .i64 S.nb) ∧ W'.cell? ⟨w.heap.size + 4, 1, none⟩ = some (.int .i64 S.nn) ∧ W'.cell? ⟨w.heap.size + 4, 2, none⟩ = some (.int .i64 S.ns) ∧ W'.cell? ⟨w.heap.size + 4, 3, none⟩ = some (.slice b2a S.books.length b2c) ∧ W'.cell? ⟨w.heap.size + 4, 4, none⟩ = some (.slice n2a S.notes.length n2c) := fun W' gW => by
      obtain ⟨⟨p0, p1, p2, p3, p4⟩, -⟩ := n5 (gW.blk HB.out.a)
      obtain ⟨⟨q0, q1, q2, q3, q4⟩, -⟩ := n5 (gW.blk HB.out.b)
      exact ⟨p0, p1, p2, p3, p4, q0, q1, q2, q3, q4⟩
    have HK := Lib.hid key
    have s0 := key _ (Grow.refl W).drew
    clear key
    go_wp2_with fail
    go_region_held3 (fun w' => w'.cell? ⟨w.heap.size + 3, 0, none⟩ = some (.int .i64 S.nb) ∧ w'.cell? ⟨w.heap.size + 3, 1, none⟩ = some (.int .i64 S.nn) ∧ w'.cell? ⟨w.heap.size + 3, 2, none⟩ = some (.int .i64 S.ns) ∧ w'.cell? ⟨w.heap.size + 3, 3, none⟩ = some (.slice xa S.books.length xc) ∧ w'.cell? ⟨w.heap.size + 3, 4, none⟩ = some (.slice ya S.notes.length yc) ∧ w'.cell? ⟨w.heap.size + 4, 0, none⟩ = some (.int .i64 S.nb) ∧ w'.cell? ⟨w.heap.size + 4, 1, none⟩ = some (.int .i64 S.nn) ∧ w'.cell? ⟨w.heap.size + 4, 2, none⟩ = some (.int .i64 S.ns) ∧ w'.cell? ⟨w.heap.size + 4, 3, none⟩ = some (.slice b2a S.books.length b2c) ∧ w'.cell? ⟨w.heap.size + 4, 4, none⟩ = some (.slice n2a S.notes.length n2c))
      (first | with_reducible exact s1 | with_reducible exact s0 | (obtain ⟨z0, z1, z2, z3, z4, z5, z6, z7, z8, z9⟩ := s1; simp [go_sem, z0, z1, z2, z3, z4, z5, z6, z7, z8, z9]))
      (first
        | (go_at_call 20; refine (cNu _).mono ?_; rintro e w3 ⟨rfl, rfl⟩)
        | (go_at_call 9; refine (cS _ (Grow.refl W).drew).mono ?_; rintro e w3 ⟨rfl, g3⟩; have gx := Grow.trans (Grow.refl W).drew g3; have s1 := HK.out _ gx; obtain ⟨⟨t0, t1, t2, t3, t4⟩, tz⟩ := n5 (gx.blk HB.out.c); have gc0 := frozen_of_row w3 (w.heap.size + 2) 0 _ _ (gx.blk HB.out.c); have gc1 := frozen_of_row w3 (w.heap.size + 2) 1 _ _ (gx.blk HB.out.c); have gc2 := frozen_of_row w3 (w.heap.size + 2) 2 _ _ (gx.blk HB.out.c); have gc3 := frozen_of_row w3 (w.heap.size + 2) 3 _ _ (gx.blk HB.out.c); have gc4 := frozen_of_row w3 (w.heap.size + 2) 4 _ _ (gx.blk HB.out.c); have HE3 := Lib.hid (HEN.out.more gx)))
    all_goals
      go_wp2_with fail
      refine bodyPost_ret (v := .tuple #[.agg #[.int .i64 S.nb, .int .i64 S.nn, .int .i64 S.ns, .slice xa S.books.length xc, .slice ya S.notes.length yc], .bool true]) ?_ rfl ?_
      · rw [results_cell_tmp rfl]
        go_simp
      · have hfin : ∀ W', OwnE w (.slice xa S.books.length xc) (.slice ya S.notes.length yc) S.books Y [w.heap.size + 2, w.heap.size + 2] W' → RetB8 S w (.returned (.tuple #[.agg #[.int .i64 S.nb, .int .i64 S.nn, .int .i64 S.ns, .slice xa S.books.length xc, .slice ya S.notes.length yc], .bool true])) W' := fun W' h => ⟨xa, xc, ya, yc, Y, rfl, h.2.1, HMAP.out, h.1⟩
        refine hfin _ ?_
        repeat' (first | with_reducible exact HE3.out | with_reducible refine OwnE.drew ?_ | with_reducible refine OwnE.set ?_ (by simp) (by omega) _ _)
end Go.Proofs.YtnajccljdjllgaaDoor
set_option linter.unusedVariables false
set_option linter.unusedSimpArgs false
namespace Go.Proofs.YtnajccljdjllgaaDoor
open Go.RowKit Go.Lib
structure Step18 (s S : Shelf) : Prop where
  may : MayP S
  ns : s.ns ≤ S.ns
  ns1 : S.ns ≤ s.ns + 1
  len : S.notes.length = s.notes.length
theorem step18_of {s S : Shelf} {e n : Int} (hm : e = 0 → MayP (resOf e S n).s) (hs : MayP S → Step18 s S) : (resOf e S n).s.nb = 0 ∨ Step18 s (resOf e S n).s := by
  by_cases h : e = 0
  · have h1 := hm h
    rw [resOf_ok h] at h1 ⊢
    exact .inr (hs h1)
  · rw [resOf_no h]; exact .inl rfl
theorem updN_len8 (id : Int) (f : Note → Note) (l : List Note) : (updN id f l).length = l.length := List.length_map _
theorem act18_step (s : Shelf) (x a b : Int) (t : ByteArray) : (act18R s x a b t).s.nb = 0 ∨ Step18 s (act18R s x a b t).s := by
  unfold act18R
  repeat' split
  · exact step18_of tag_may fun m => ⟨m, Int.le_refl _, by show s.ns ≤ s.ns + 1; omega, updN_len8 _ _ _⟩
  · exact step18_of untag_may fun m => ⟨m, Int.le_refl _, by show s.ns ≤ s.ns + 1; omega, updN_len8 _ _ _⟩
  · exact step18_of append_may fun m => ⟨m, by show s.ns ≤ s.ns + 1; omega, Int.le_refl _, updN_len8 _ _ _⟩
  · exact step18_of replace_may fun m => ⟨m, Int.le_refl _, by show s.ns ≤ s.ns + 1; omega, rfl⟩
  · exact step18_of remove_may fun m => ⟨m, Int.le_refl _, by show s.ns ≤ s.ns + 1; omega, updN_len8 _ _ _⟩
  · exact .inl rfl
/-- The shelf in its box, between two changes: read, not owned. -/
structure ScrN (w : World) (B : Nat) (s : Shelf) (xa : Option Addr) (xc : Nat) (ya : Option Addr) (yc : Nat) (W : World) : Prop where
  grow : Grow w W
  box : W.heap[B]? = some (shO s (.slice xa s.books.length xc) (.slice ya s.notes.length yc))
  own : (∃ base Y, OwnS base (.slice xa s.books.length xc) (.slice ya s.notes.length yc) s.books Y W ∧ Y.map NV.n = s.notes) ∨ ShelfR w s (.slice xa s.books.length xc) (.slice ya s.notes.length yc)
  low : w.heap.size ≤ B
  may : MayP s
theorem ScrN.reads {w W : World} {B : Nat} {s : Shelf} {xa ya : Option Addr} {xc yc : Nat} (h : ScrN w B s xa xc ya yc W) : ShelfR W s (.slice xa s.books.length xc) (.slice ya s.notes.length yc) := by
  rcases h.own with ⟨base, Y, h1, h2⟩ | h1
  · exact own_shelf h1 h2
  · exact h1.grow h.grow
theorem ScrN.more {w W W' : World} {B : Nat} {s : Shelf} {xa ya : Option Addr} {xc yc : Nat} (h : ScrN w B s xa xc ya yc W) (g : Grow W W') : ScrN w B s xa xc ya yc W' := by
  refine ⟨h.grow.trans g, g.blk h.box, ?_, h.low, h.may⟩
  rcases h.own with ⟨base, Y, h1, h2⟩ | h1
  · exact .inl ⟨base, Y, h1.grow g, h2⟩
  · exact .inr h1
/-- The next shelf is put into the box. -/
theorem ScrN.next {w W W' : World} {B : Nat} {s S : Shelf} {xa ya xa' ya' : Option Addr} {xc yc xc' yc' : Nat} (h : ScrN w B s xa xc ya yc W) (g : Grow W W') {base : Nat} {Y : List NV} (ho : OwnS base (.slice xa' S.books.length xc') (.slice ya' S.notes.length yc') S.books Y W') (hm : Y.map NV.n = S.notes) (p : MayP S) :
    ScrN w B S xa' xc' ya' yc' (set5w W' B (.int .i64 S.nb) (.int .i64 S.nn) (.int .i64 S.ns) (.slice xa' S.books.length xc') (.slice ya' S.notes.length yc')) := by
  have hbx := g.blk h.box
  obtain ⟨h1, h2⟩ := set5 hbx (.int .i64 S.nb) (.int .i64 S.nn) (.int .i64 S.ns) (.slice xa' S.books.length xc') (.slice ya' S.notes.length yc')
  exact ⟨h2.grow (h.grow.trans g) h.low, h1, .inl ⟨base, Y, ho.kept (shelf_kept hbx h2), hm⟩, h.low, p⟩
end Go.Proofs.YtnajccljdjllgaaDoor
set_option linter.unusedVariables false
set_option linter.unusedSimpArgs false
namespace Go.Proofs.YtnajccljdjllgaaDoor
open Go.RowKit Go.Lib
structure ActS where
  d : Int
  a : Int
  b : Int
  t : ByteArray
instance : Inhabited ActS := ⟨⟨0, 0, 0, ⟨#[]⟩⟩⟩
abbrev cellsActS (y : ActS) : List Value := [.int .i64 y.d, .int .i64 y.a, .int .i64 y.b, .string y.t]
def ActSR (_ : World) (y : ActS) (cs : List Value) : Prop := cs = cellsActS y
abbrev ActsS := Reads ActSR 4
theorem ActsS.grow {w W : World} {v : Value} {l : List ActS} (h : ActsS w v l) (g : Grow w W) : ActsS W v l := Reads.grow (w := w) (W := W) (fun _ _ h => h) h g
theorem ActsS.at {w : World} {a : Option Addr} {n c : Nat} {l : List ActS} (h : ActsS w (.slice a n c) l) {i : Nat} {y : ActS} (hx : l[i]? = some y) :
    ∃ b off, a = some ⟨b, off, none⟩ ∧ b < w.heap.size ∧ w.cell? ⟨b, off + i * 4, none⟩ = some (.int .i64 y.d) ∧ w.cell? ⟨b, off + i * 4 + 1, none⟩ = some (.int .i64 y.a) ∧ w.cell? ⟨b, off + i * 4 + 2, none⟩ = some (.int .i64 y.b) ∧ w.cell? ⟨b, off + i * 4 + 3, none⟩ = some (.string y.t) := by
  obtain ⟨b, off, e, hb, cs, h1, h2, h3⟩ := Reads.at h hx
  unfold ActSR at h2
  subst h2
  exact ⟨b, off, e, hb, h3 0 _ rfl, h3 1 _ rfl, h3 2 _ rfl, h3 3 _ rfl⟩
/-- Is there more than is gone through? -/
def greatA (most : Nat) (l : List ActS) : Bool := (decide (l.length ≤ most) && l.any fun x => decide (60 < x.t.size)) || decide (most < l.length)
theorem greatA_no {most : Nat} {l : List ActS} (h : greatA most l = false) : l.length ≤ most ∧ ∀ x ∈ l, x.t.size ≤ 60 := by
  unfold greatA at h
  rw [Bool.or_eq_false_iff, decide_eq_false_iff_not] at h
  have h1 : l.length ≤ most := by omega
  have h2 := h.1
  rw [decide_eq_true h1, Bool.true_and, List.any_eq_false] at h2
  exact ⟨h1, fun x hx => by have := h2 x hx; simp at this; omega⟩
section
variable {H : Type} {enc : TypeId × Value → H} {w : World} {spare : Nat → Bool} {held : Bool}
theorem cAs : Tryd.prog.cellsOf 44 = 4 := by kernel_rfl
set_option maxRecDepth 100000 in
theorem actS_read {fuel : Nat} {cs : List Value} {x : DataW H × List MemPlace} (h : DataW.trod enc Tryd.prog w 0 spare held fuel 44 cs = some x) : ∃ b : ActS, ActSR w b cs := by
  obtain ⟨xs, m, -, -, hl, hlen, hf⟩ := DataW.trod_struct Tryd.underlying44 h
  rw [cAs] at hl
  match cs, hl with
  | [u0, u1, u2, u3], _ =>
    have h0 := hf 0 _ rfl
    have h1 := hf 1 _ rfl
    have h2 := hf 2 _ rfl
    have h3 := hf 3 _ rfl
    change DataW.trod enc Tryd.prog w 0 spare held m 3 (([u0, u1, u2, u3].drop 0).take (Tryd.prog.cellsOf 3)) = _ at h0
    change DataW.trod enc Tryd.prog w 0 spare held m 3 (([u0, u1, u2, u3].drop 1).take (Tryd.prog.cellsOf 3)) = _ at h1
    change DataW.trod enc Tryd.prog w 0 spare held m 3 (([u0, u1, u2, u3].drop 2).take (Tryd.prog.cellsOf 3)) = _ at h2
    change DataW.trod enc Tryd.prog w 0 spare held m 9 (([u0, u1, u2, u3].drop 3).take (Tryd.prog.cellsOf 9)) = _ at h3
    rw [cI, List.getElem?_eq_getElem (by rw [hlen]; decide)] at h0 h1 h2
    rw [cS, List.getElem?_eq_getElem (by rw [hlen]; decide)] at h3
    obtain ⟨n0, e0, -, w0⟩ := DataW.trod_int Tryd.underlying3 h0
    obtain ⟨n1, e1, -, w1⟩ := DataW.trod_int Tryd.underlying3 h1
    obtain ⟨n2, e2, -, w2⟩ := DataW.trod_int Tryd.underlying3 h2
    obtain ⟨n3, e3, -, -⟩ := DataW.trod_string Tryd.underlying9 h3
    have e0' : [u0] = [Value.int .i64 n0] := e0
    have e1' : [u1] = [Value.int .i64 n1] := e1
    have e2' : [u2] = [Value.int .i64 n2] := e2
    have e3' : [u3] = [Value.string n3] := e3
    injection e0' with e0'
    injection e1' with e1'
    injection e2' with e2'
    injection e3' with e3'
    subst e0' e1' e2' e3'
    exact ⟨⟨n0, n1, n2, n3⟩, rfl⟩
set_option maxRecDepth 100000 in
theorem actsS_arg {v : Value} {d : DataW H} {ps : List MemPlace} {r : Reach} {b0 : Nat} (hv : Value.okWide Tryd.prog w r b0 56 v) (h : DataW.Trod enc Tryd.prog w 0 spare held 56 v d ps) :
    ∃ l, ActsS w v l ∧ l.length ≤ maxLen := by
  obtain ⟨l, h1, h2, -⟩ := slice_arg (R := ActSR) Tryd.underlying56 cAs (by decide) (fun _ _ _ hy => actS_read hy) hv h
  exact ⟨l, h1, h2⟩
end
end Go.Proofs.YtnajccljdjllgaaDoor
set_option linter.unusedVariables false
set_option linter.unusedSimpArgs false
namespace Go.Proofs.YtnajccljdjllgaaDoor
open Go.RowKit Go.Lib
set_option maxRecDepth 100000 in
set_option maxHeartbeats 8000000 in
theorem script18_walk (s0 : Shelf) (bv nv : Value) (v : Value) (l : List ActS) (w : World) (h : ShelfR w s0 bv nv) (hI : ∀ n ∈ s0.notes, ∀ y ∈ n.sheets, Wf y) (hG : ∀ n ∈ s0.notes, n.tags.length ≤ 9223372036854775807) (ha : ActsS w v l) (hT : Tabs w) :
    Calls Tryd.prog 5 #[shelfV s0 bv nv, v] w fun e w' => e = .returned (.bool true) ∧ Grow w w' := by
  obtain ⟨a1, c1, rfl⟩ := ha.mk
  have HH := Lib.hid ha
  have HTB := Lib.hid hT
  obtain ⟨xa_s, xc_s, rfl⟩ := h.1.mk
  obtain ⟨ya_s, yc_s, rfl⟩ := h.2.mk
  have HRS := Lib.hid h
  have HI := Lib.hid hI
  have HGT := Lib.hid hG
  clear h hI hG hT ha
  unfold shelfV
  go_enter Tryd.func5, Tryd.ntmps5
  go_upto_region 1 with (fail)
  generalize hV : w.alloc (.cells #[.int .i64 s0.nb, .int .i64 s0.nn, .int .i64 s0.ns, .slice xa_s s0.books.length xc_s, .slice ya_s s0.notes.length yc_s] 28) = U1
  have gV : Grow w U1 := by rw [← hV]; exact (Grow.refl w).alloc _
  have HB1 : Hid (U1.heap[w.heap.size]? = some (shO s0 (.slice xa_s s0.books.length xc_s) (.slice ya_s s0.notes.length yc_s))) := by rw [← hV]; exact Lib.hid (heap_alloc_new w _)
  clear hV
  have GW := Lib.hid gV
  have c := great_any s0 _ _ _ (HRS.out.grow gV) HGT.out
  try unfold shelfV at c
  obtain ⟨⟨p0, p1, p2, p3, p4⟩, pz⟩ := n5 HB1.out
  by_cases hl60 : 60 < l.length
  · have hl60' : (60 : Int) < l.length := by omega
    go_wp2_with fail
    refine c.mono ?_
    clear c p0 p1 p2 p3 p4 pz
    rintro e U2 ⟨g, r, rfl, hr⟩
    replace GW := Lib.hid (GW.out.trans g)
    clear g hr gV
    cases r with
    | true =>
      have c := awake18_any _ (HTB.out.below GW.out)
      go_wp2_with fail
      refine c.mono ?_
      rintro e UA ⟨rfl, gA⟩
      go_wp2_with fail
      go_ret
      exact ⟨rfl, GW.out.trans gA⟩
    | false =>
      have c := awake18_any _ (HTB.out.below GW.out)
      go_wp2_with fail
      refine c.mono ?_
      rintro e UA ⟨rfl, gA⟩
      go_wp2_with fail
      go_ret
      exact ⟨rfl, GW.out.trans gA⟩
  have hl60' : ¬ (60 : Int) < l.length := by omega
  go_wp2_with fail
  refine c.mono ?_
  clear c p0 p1 p2 p3 p4 pz
  rintro e U2 ⟨g, r, rfl, hr⟩
  replace GW := Lib.hid (GW.out.trans g)
  replace HB1 := Lib.hid (Grow.blk g HB1.out)
  clear g gV
  cases r with
  | true =>
    clear hr
    have c := awake18_any _ (HTB.out.below GW.out)
    go_wp2_with fail
    refine c.mono ?_
    rintro e UA ⟨rfl, gA⟩
    go_wp2_with fail
    go_ret
    exact ⟨rfl, GW.out.trans gA⟩
  | false =>
    have hlow := hr rfl
    have HZ := Lib.hid (show TameS s0 from ⟨hlow.tame, HI.out⟩)
    have c := mayS_any s0 _ _ _ (HRS.out.grow GW.out) HZ.out (HTB.out.below GW.out)
    try unfold shelfV at c
    obtain ⟨⟨p0, p1, p2, p3, p4⟩, pz⟩ := n5 HB1.out
    clear hr hlow
    cases hm : mayS s0 with
    | false =>
      rw [hm] at c
      clear hm
      go_wp2_with fail
      refine c.mono ?_
      clear c p0 p1 p2 p3 p4 pz
      rintro e U3 ⟨rfl, g⟩
      replace GW := Lib.hid (GW.out.trans g)
      clear g
      have c := awake18_any _ (HTB.out.below GW.out)
      go_wp2_with fail
      refine c.mono ?_
      rintro e UA ⟨rfl, gA⟩
      go_wp2_with fail
      go_ret
      exact ⟨rfl, GW.out.trans gA⟩
    | true =>
      rw [hm] at c
      have HM := Lib.hid (mayS_iff.1 hm)
      clear hm
      go_wp2_with fail
      refine c.mono ?_
      clear c p0 p1 p2 p3 p4 pz
      rintro e U3 ⟨rfl, g⟩
      replace GW := Lib.hid (GW.out.trans g)
      replace HB1 := Lib.hid (Grow.blk g HB1.out)
      have HS0 := Lib.hid (show ScrN w w.heap.size s0 xa_s xc_s ya_s yc_s U3 from ⟨GW.out, HB1.out, .inr HRS.out, Nat.le_refl _, HM.out⟩)
      clear g
      go_upto_block 0 with (fail)
      go_cut [] (fun wx => wx = U3 ∧ ∀ x ∈ l, x.t.size ≤ 60)
      case first =>
        go_wp2_with fail
        go_loop [5] (fun v5 => ∃ j : Nat, v5 = .int .i64 j ∧ j ≤ l.length ∧ ∀ (k : Nat) x, k < j → l[k]? = some x → x.t.size ≤ 60) (fun v5 => l.length - (intOf v5).toNat)
        case atStart => exact ⟨0, rfl, by omega, fun k x h => absurd h (by omega)⟩
        case round =>
          obtain ⟨j, rfl, hj, hall⟩ := hrel
          have HA := Lib.hid hall
          clear hall
          by_cases hlt : j < l.length
          · have hlt' : (j : Int) < l.length := by omega
            obtain ⟨x, hx, -⟩ := lt_get hlt
            obtain ⟨bb, off, rfl, hbb, -, -, -, p3⟩ := (ActsS.grow HH.out GW.out).at hx
            have HX := Lib.hid hx
            clear hx
            by_cases hp : 60 < x.t.size
            · have hp' : (60 : Int) < x.t.size := by omega
              have c := awake18_any _ (HTB.out.below GW.out)
              go_wp2_with fail
              refine c.mono ?_
              rintro e UA ⟨rfl, gA⟩
              go_wp2_with fail
              go_ret
              exact ⟨rfl, GW.out.trans gA⟩
            · have HP := Lib.hid hp
              have hp' : ¬ (60 : Int) < x.t.size := by omega
              go_wp2_with fail
              go_round
              case rel => exact ⟨j + 1, by go_num, by omega, fun k y hk hy => by
                rcases (by omega : k < j ∨ k = j) with h3 | rfl
                · exact HA.out k y h3 hy
                · rw [HX.out] at hy; injection hy with hy; rw [← hy]; have := HP.out; omega⟩
              case measure => simp [intOf]; omega
          · have hlt' : ¬ (j : Int) < l.length := by omega
            go_wp2_with fail
            go_meet
            exact ⟨rfl, fun x hx => by
              obtain ⟨k, hk⟩ := List.getElem?_of_mem hx
              exact HA.out k x (by have := (List.getElem?_eq_some_iff.1 hk).1; omega) hk⟩
      case rest =>
        obtain ⟨rfl, hsm⟩ := hcut
        have HSM := Lib.hid hsm
        obtain ⟨⟨p0, p1, p2, p3, p4⟩, pz⟩ := n5 HB1.out
        clear hsm
        go_wp2_with fail
        go_loopw [6, 7] (fun v6 v7 wx => ∃ (j : Nat) (s : Shelf) (xa ya : Option Addr) (xc yc : Nat), v7 = .int .i64 j ∧ v6 = .int .i64 s.ns ∧ j ≤ l.length ∧ ScrN w w.heap.size s xa xc ya yc wx) (fun _ v7 _ => l.length - (Go.RowKit.intOf v7).toNat)
        case atStart => exact ⟨0, s0, _, _, _, _, rfl, rfl, by omega, HS0.out⟩
        case round =>
          obtain ⟨j, s, xa, ya, xc, yc, rfl, rfl, hj, hs⟩ := hrel
          have HSR := Lib.hid hs
          clear p0 p1 p2 p3 p4 pz HS0
          by_cases hlt : j < l.length
          · have hlt' : (j : Int) < l.length := by omega
            obtain ⟨x, hx, -⟩ := lt_get hlt
            have hxt := HSM.out x (List.mem_of_getElem? hx)
            obtain ⟨ab, ao, rfl, hab, x0, x1, x2, x3⟩ := (ActsS.grow HH.out hs.grow).at hx
            clear hx
            obtain ⟨S, hSe⟩ : ∃ S, (act18R s x.d x.a x.b x.t).s = S := ⟨_, rfl⟩
            have hst := act18_step s x.d x.a x.b x.t
            have cB : ∀ W, Grow wr W → Calls Tryd.prog 16 #[shelfV s (.slice xa s.books.length xc) (.slice ya s.notes.length yc), .agg #[.int .i64 x.d, .int .i64 x.a, .int .i64 x.b, .string x.t]] W (RetB8 S W) := fun W g => by
              have c := both18_any s _ _ x.d x.a x.b x.t W (HSR.out.reads.grow g) HSR.out.may.tame (by omega) (HTB.out.below (HSR.out.grow.trans g))
              rw [hSe] at c; exact c
            rw [hSe] at hst
            have HST := Lib.hid hst
            unfold shelfV at cB
            have key : ∀ W, Grow wr W → W.cell? ⟨w.heap.size, 0, none⟩ = some (.int .i64 s.nb) ∧ W.cell? ⟨w.heap.size, 1, none⟩ = some (.int .i64 s.nn) ∧ W.cell? ⟨w.heap.size, 2, none⟩ = some (.int .i64 s.ns) ∧ W.cell? ⟨w.heap.size, 3, none⟩ = some (.slice xa s.books.length xc) ∧ W.cell? ⟨w.heap.size, 4, none⟩ = some (.slice ya s.notes.length yc) ∧
                W.cell? ⟨ab, ao + j * 4, none⟩ = some (.int .i64 x.d) ∧ W.cell? ⟨ab, ao + j * 4 + 1, none⟩ = some (.int .i64 x.a) ∧ W.cell? ⟨ab, ao + j * 4 + 2, none⟩ = some (.int .i64 x.b) ∧ W.cell? ⟨ab, ao + j * 4 + 3, none⟩ = some (.string x.t) := fun W g => by
              obtain ⟨⟨p0, p1, p2, p3, p4⟩, -⟩ := n5 (g.blk HSR.out.box)
              exact ⟨p0, p1, p2, p3, p4, (g.cells ab _ hab).trans x0, (g.cells ab _ hab).trans x1, (g.cells ab _ hab).trans x2, (g.cells ab _ hab).trans x3⟩
            have HK := Lib.hid key
            have s0' := key _ (Grow.refl wr).drew
            clear hst hSe key hs
            have hwz : w.heap.size < wr.heap.size := (Array.getElem?_eq_some_iff.1 HSR.out.box).1
            go_upto_region 12 with (fail)
            go_cut [8, 9] (fun v8 v9 wx => ∃ B' xa' xc' ya' yc' base Y', v9 = .bool true ∧ v8 = .pointer (some ⟨B', 0, none⟩) ∧ wr.heap.size ≤ B' ∧ wx.heap[B']? = some (shO S (.slice xa' S.books.length xc') (.slice ya' S.notes.length yc')) ∧ Grow wr wx ∧ OwnS base (.slice xa' S.books.length xc') (.slice ya' S.notes.length yc') S.books Y' wx ∧ Y'.map NV.n = S.notes)
            case first =>
              go_region_held3 (fun W => W.cell? ⟨w.heap.size, 0, none⟩ = some (.int .i64 s.nb) ∧ W.cell? ⟨w.heap.size, 1, none⟩ = some (.int .i64 s.nn) ∧ W.cell? ⟨w.heap.size, 2, none⟩ = some (.int .i64 s.ns) ∧ W.cell? ⟨w.heap.size, 3, none⟩ = some (.slice xa s.books.length xc) ∧ W.cell? ⟨w.heap.size, 4, none⟩ = some (.slice ya s.notes.length yc) ∧ W.cell? ⟨ab, ao + j * 4, none⟩ = some (.int .i64 x.d) ∧ W.cell? ⟨ab, ao + j * 4 + 1, none⟩ = some (.int .i64 x.a) ∧ W.cell? ⟨ab, ao + j * 4 + 2, none⟩ = some (.int .i64 x.b) ∧ W.cell? ⟨ab, ao + j * 4 + 3, none⟩ = some (.string x.t))
                (first | with_reducible exact s1' | with_reducible exact s0' | (refine HK.out _ ?_; first | exact ((Grow.refl wr).alloc _).drew | (repeat' (first | exact gx | refine Grow.set ?_ (by first | exact Nat.le_refl _ | (have := gx.size; simp; omega)) _ | refine Grow.alloc ?_ _))))
                (first
                  | (go_at_call 16; refine (cB _ (Grow.refl wr).drew).mono ?_; rintro e W ⟨xa', xc', ya', yc', Y', rfl, ho, hm, g⟩; have gx := Grow.trans (Grow.refl wr).drew g; have s1' := HK.out _ gx; have HO1 := Lib.hid ho; have HM2 := Lib.hid hm)
                  | (go_at_call 16; refine (cB _ ((Grow.refl wr).alloc _).drew).mono ?_; rintro e W ⟨xa', xc', ya', yc', Y', rfl, ho, hm, g⟩; have gx := Grow.trans ((Grow.refl wr).alloc _).drew g; have s1' := HK.out _ gx; have hbx := g.blk ((Grow.refl _).drew.blk (heap_alloc_new wr zQ)); have HBX := Lib.hid hbx; obtain ⟨⟨e0, e1, e2, e3, e4⟩, ez⟩ := n5 hbx; have ff0 := frozen_of_row W _ 0 _ _ hbx; have ff1 := frozen_of_row W _ 1 _ _ hbx; have ff2 := frozen_of_row W _ 2 _ _ hbx; have ff3 := frozen_of_row W _ 3 _ _ hbx; have ff4 := frozen_of_row W _ 4 _ _ hbx; have HO2 := Lib.hid ho; have HM2 := Lib.hid hm))
              all_goals
                go_wp2_with fail
                go_meet
                first
                  | exact ⟨_, xa', xc', ya', yc', _, Y', rfl, rfl, gx.size, heap_alloc_new W _, gx.alloc _, HO1.out.grow ((Grow.refl W).alloc _), HM2.out⟩
                  | (obtain ⟨h1, h2⟩ := set5 HBX.out (.int .i64 S.nb) (.int .i64 S.nn) (.int .i64 S.ns) (.slice xa' S.books.length xc') (.slice ya' S.notes.length yc')
                     exact ⟨_, xa', xc', ya', yc', _, Y', rfl, rfl, Nat.le_refl _, h1, h2.grow gx (Nat.le_refl _), HO2.out.kept (shelf_kept HBX.out h2), HM2.out⟩)
            case rest =>
              obtain ⟨B', xa', xc', ya', yc', base, Y', rfl, rfl, hBl, ha3, gx, ho, hm⟩ := hcut
              have hBn : ¬ B' = w.heap.size := by omega
              have hBn2 : ¬ w.heap.size = B' := by omega
              generalize wc = V3 at *
              have HA3 := Lib.hid ha3
              have HO := Lib.hid ho
              have HM2 := Lib.hid hm
              have HG := Lib.hid gx
              clear x0 x1 x2 x3 cB s0' HK hab ho hm
              obtain ⟨⟨p0, p1, p2, p3, p4⟩, hpz⟩ := n5 ha3
              clear ha3
              rcases HST.out with hz0 | hsp
              · have hz1 : (S.nb == 0) = true := by rw [hz0]; rfl
                have HSE := Lib.hid (HSR.out.more gx)
                clear hz0
                go_wp2_with fail
                go_roundw
                case rel => exact ⟨j + 1, s, xa, ya, xc, yc, by go_num, rfl, by omega, HSE.out⟩
                case measure => simp [Go.RowKit.intOf]; omega
              · have HSP := Lib.hid hsp
                have hz1 : (S.nb == 0) = false := by rw [beq_eq_false_iff_ne]; have := hsp.may.nb; omega
                have hms := mayS_iff.2 hsp.may
                have cM := mayS_any S _ _ V3 (own_shelf HO.out HM2.out) hsp.may.tame (HTB.out.below (HSR.out.grow.trans gx))
                rw [hms] at cM
                have hns := HSR.out.may.ns
                have hl1 : ¬ S.ns < s.ns := by have := hsp.ns; omega
                have hl2 : ¬ s.ns + 1 < S.ns := by have := hsp.ns1; omega
                have hl3 : (S.notes.length : Int) = s.notes.length := by have := hsp.len; omega
                have hl4 : ((S.notes.length : Int) != (s.notes.length : Int)) = false := by rw [hl3]; simp
                have HL3 := Lib.hid hl3
                clear hsp hms hl3
                unfold shelfV at cM
                go_wp2_with fail
                refine cM.mono ?_
                rintro e V4 ⟨rfl, g4⟩
                have G24 := Lib.hid (HG.out.trans g4)
                have HO4 := Lib.hid (HO.out.grow g4)
                have HS4 := Lib.hid (HSR.out.more G24.out)
                clear cM p0 p1 p2 p3 p4 hpz
                obtain ⟨⟨p0, p1, p2, p3, p4⟩, hpz⟩ := n5 (g4.blk HA3.out)
                obtain ⟨⟨q0, q1, q2, q3, q4⟩, hqz⟩ := n5 HS4.out.box
                have f0 := frozen_of_row V4 w.heap.size 0 _ _ HS4.out.box
                have f1 := frozen_of_row V4 w.heap.size 1 _ _ HS4.out.box
                have f2 := frozen_of_row V4 w.heap.size 2 _ _ HS4.out.box
                have f3 := frozen_of_row V4 w.heap.size 3 _ _ HS4.out.box
                have f4 := frozen_of_row V4 w.heap.size 4 _ _ HS4.out.box
                have HNX := Lib.hid (ScrN.next (HSR.out.more (Grow.refl wr)) G24.out HO4.out HM2.out HSP.out.may)
                have HNX2 := Lib.hid (ScrN.next (HSR.out.more (Grow.refl wr)) G24.out.drew (HO4.out.grow (Grow.refl V4).drew) HM2.out HSP.out.may)
                unfold set5w at HNX HNX2
                clear gx g4
                go_upto_region 18 with (fail)
                go_region
                all_goals
                  go_wp2_with fail
                  go_roundw
                  case rel => first | exact ⟨j + 1, S, _, _, xc', yc', by go_num, rfl, by omega, HNX2.out⟩ | exact ⟨j + 1, S, _, _, xc', yc', by go_num, rfl, by omega, HNX.out⟩
                  case measure => simp [Go.RowKit.intOf]; omega
          · have hlt' : ¬ (j : Int) < l.length := by omega
            have GWr := hs.grow
            have ca := awake18_any wr (HTB.out.below hs.grow)
            go_wp2_with fail
            refine ca.mono ?_
            rintro e w2 ⟨rfl, g2⟩
            go_wp2_with fail
            go_ret
            exact ⟨rfl, GWr.trans g2⟩
theorem script18_law (s : Shelf) (bv nv : Value) (v : Value) (l : List ActS) (w : World) (h : ShelfArg w s bv nv) (ha : ActsS w v l) (hT : Tabs w) :
    Calls Tryd.prog 5 #[shelfV s bv nv, v] w fun e w' => e = .returned (.bool true) ∧ Grow w w' := script18_walk s bv nv v l w h.rows h.ints h.tags ha hT
end Go.Proofs.YtnajccljdjllgaaDoor
