/- The shelf of one note; what the awake of chapter 18 comes to, in plain words. The awake of chapter 18. The state of the laws' both: two shelves in boxes; what a change answers, opened. The walk of jotterlaw18.both. Acts on a shelf, as arguments. What was answered is written over: rows of texts, numbers, books. A shelf that was answered is written over: OverShelf. The walk of the law NoteTells. -/
import Derived.Test.YtnajccljdjllgaaDoorOut
import Derived.Test.YtnajccljdjllgaaDoorJc18
import Derived.Test.YtnajccljdjllgaaDoorSameb
import Derived.Test.YtnajccljdjllgaaDoorJn18
import Derived.Deep.RegionLaw
import Derived.Deep.RegionHeld3
import Derived.Test.YtnajccljdjllgaaDoorOpen
import Derived.Test.YtnajccljdjllgaaDoorSt
import Derived.Test.YtnajccljdjllgaaDoorApp
import Derived.Test.YtnajccljdjllgaaDoorGreat
set_option linter.unusedVariables false
set_option linter.unusedSimpArgs false
namespace Go.Proofs.YtnajccljdjllgaaDoor
open Go.RowKit Go.Lib
def tnB : ByteArray := ⟨#[98]⟩
def tnN : ByteArray := ⟨#[110]⟩
def tnX : ByteArray := ⟨#[120]⟩
def nSh (ns : Int) (ts : List ByteArray) (ss : List Int) : Shelf := ⟨2, 2, ns, [⟨1, tnB⟩], [⟨1, 1, tnN, ts, ss⟩]⟩
def o1 : Shelf := nSh 1 [] []
def o2 : Shelf := nSh 2 [] [1]
def o3 : Shelf := nSh 3 [] [1, 2]
def o4 : Shelf := nSh 3 [] [2]
def o5 : Shelf := nSh 1 [tnX] []
theorem may_o1 : mayS o1 = true := by decide +kernel
theorem may_o2 : mayS o2 = true := by decide +kernel
theorem may_o3 : mayS o3 = true := by decide +kernel
theorem may_o4 : mayS o4 = true := by decide +kernel
theorem app_1 : appendR o1 1 = ⟨o2, 1, 0⟩ := by
  have : appendE o1 1 = 0 := by decide +kernel
  rw [appendR, resOf_ok this]; rfl
theorem app_2 : appendR o2 1 = ⟨o3, 2, 0⟩ := by
  have : appendE o2 1 = 0 := by decide +kernel
  rw [appendR, resOf_ok this]; rfl
theorem rem_3 : removeR o3 1 0 = ⟨o4, 1, 0⟩ := by
  have : sheetE o3 1 0 = 0 := by decide +kernel
  rw [removeR, resOf_ok this]; rfl
theorem she_4 : sheetE o4 1 0 = 0 ∧ sheetV o4 1 0 = 2 := by
  have : sheetE o4 1 0 = 0 := by decide +kernel
  exact ⟨this, by rw [sheetV, if_pos this]; rfl⟩
theorem tag_1 : tagR o1 1 tnX = ⟨o5, 0, 0⟩ := by
  have : tagE o1 1 tnX = 0 := by decide +kernel
  rw [tagR, resOf_ok this]; rfl
set_option maxRecDepth 100000 in
theorem one_any (w : World) : Calls Tryd.prog 45 #[] w fun e w' => ∃ xa xc ya yc, Grow w w' ∧ e = .returned (.agg #[.int .i64 2, .int .i64 2, .int .i64 1, .slice xa 1 xc, .slice ya 1 yc]) ∧ ShelfR w' o1 (.slice xa 1 xc) (.slice ya 1 yc) := by
  go_enter Tryd.func45, Tryd.ntmps45
  go_wp2_with fail
  refine bodyPost_ret (v := .agg #[.int .i64 2, .int .i64 2, .int .i64 1, .slice (some ⟨w.heap.size + 1, 0, none⟩) 1 1, .slice (some ⟨w.heap.size + 1 + 1, 0, none⟩) 1 1]) ?_ rfl ?_
  · rw [results_cell rfl]
    go_simp
  · have key : ∀ W, Grow w W → W.heap[w.heap.size + 1]? = some (.cells #[.int .i64 1, .string tnB] 37 (0, 0)) → W.heap[w.heap.size + 1 + 1]? = some (.cells #[.int .i64 1, .int .i64 1, .string tnN, .slice none 0 0, .slice none 0 0] 41 (0, 0)) →
        ∃ xa xc ya yc, Grow w W ∧ Ending.returned (.agg #[.int .i64 2, .int .i64 2, .int .i64 1, .slice (some ⟨w.heap.size + 1, 0, none⟩) 1 1, .slice (some ⟨w.heap.size + 1 + 1, 0, none⟩) 1 1]) = .returned (.agg #[.int .i64 2, .int .i64 2, .int .i64 1, .slice xa 1 xc, .slice ya 1 yc]) ∧ ShelfR W o1 (.slice xa 1 xc) (.slice ya 1 yc) := fun W g k2 k3 => by
      refine ⟨_, _, _, _, g, rfl, ⟨_, _, rfl, by decide, fun _ => ⟨_, 0, rfl, (Array.getElem?_eq_some_iff.1 k2).1, fun i hi => ⟨bookC ⟨1, tnB⟩, rfl, fun x hx => ?_, fun j v hj => ?_⟩⟩⟩, ⟨_, _, rfl, by decide, fun _ => ⟨_, 0, rfl, (Array.getElem?_eq_some_iff.1 k3).1, fun i hi => ⟨[.int .i64 1, .int .i64 1, .string tnN, .slice none 0 0, .slice none 0 0], rfl, fun x hx => ?_, fun j v hj => ?_⟩⟩⟩⟩
      · obtain rfl : i = 0 := by have : o1.books.length = 1 := rfl; omega
        obtain rfl := Option.some.inj hx
        rfl
      · obtain rfl : i = 0 := by have : o1.books.length = 1 := rfl; omega
        rw [cell_of_row W _ _ _ _ _ k2]
        simpa using hj
      · obtain rfl : i = 0 := by have : o1.notes.length = 1 := rfl; omega
        obtain rfl := Option.some.inj hx
        exact ⟨_, _, rfl, Reads.nil, Reads.nil⟩
      · obtain rfl : i = 0 := by have : o1.notes.length = 1 := rfl; omega
        rw [cell_of_row W _ _ _ _ _ k3]
        simpa using hj
    exact key _ ((((Grow.refl w).alloc _).alloc _).alloc _) (three_boxes w _ _ _).2.1 (three_boxes w _ _ _).2.2
end Go.Proofs.YtnajccljdjllgaaDoor
set_option linter.unusedVariables false
set_option linter.unusedSimpArgs false
namespace Go.Proofs.YtnajccljdjllgaaDoor
open Go.RowKit Go.Lib
theorem tame18 (s : Shelf) (h : mayS s = true) : TameS s := (mayS_iff.1 h).tame
set_option maxRecDepth 100000 in
set_option maxHeartbeats 4000000 in
theorem awake18_any (w : World) (hT : Tabs w) : Calls Tryd.prog 14 #[] w fun e w' => e = .returned (.bool true) ∧ Grow w w' := by
  have GW := Lib.hid (Grow.refl w)
  have HTB := Lib.hid hT
  clear hT
  go_enter Tryd.func14, Tryd.ntmps14
  have c := one_any w
  try unfold shelfV at c
  go_wp2_with fail
  refine c.mono ?_
  clear c
  rintro e U1 ⟨xa_o, xc_o, ya_o, yc_o, g, rfl, hr⟩
  replace GW := Lib.hid (GW.out.trans g)
  have HR_o := Lib.hid hr
  clear hr g
  obtain ⟨a, hRES, hea⟩ : ∃ q, appendR o1 1 = ⟨q, 1, 0⟩ ∧ q = o2 := ⟨o2, app_1, rfl⟩
  have HEa := Lib.hid hea
  clear hea
  have HRES_a := Lib.hid hRES
  have c0 := (append_any o1 _ _ 1 _ HR_o.out (tame18 o1 may_o1) (HTB.out.below GW.out)).mono fun _ _ => RetM.out hRES
  clear hRES
  have c := c0
  try unfold shelfV at c
  go_wp2_with fail
  refine c.mono ?_
  clear c c0
  rintro e U2 ⟨xa_a, xc_a, ya_a, yc_a, g, rfl, hr⟩
  go_upto_region 2 with (fail)
  generalize hV : U2.alloc (.cells #[.int .i64 a.nb, .int .i64 a.nn, .int .i64 a.ns, .slice xa_a a.books.length xc_a, .slice ya_a a.notes.length yc_a] 28) = U3
  have gV : Grow U2 U3 := by rw [← hV]; exact (Grow.refl U2).alloc _
  have HB_a : Hid (U3.heap[U2.heap.size]? = some (.cells #[.int .i64 a.nb, .int .i64 a.nn, .int .i64 a.ns, .slice xa_a a.books.length xc_a, .slice ya_a a.notes.length yc_a] 28 (0, 0))) := by rw [← hV]; exact Lib.hid (heap_alloc_new U2 _)
  clear hV
  replace GW := Lib.hid (GW.out.trans (g.trans gV))
  have HR_a := Lib.hid (ShelfR.grow hr gV)
  clear hr g gV
  clear HR_o
  obtain ⟨b, hRES, hea⟩ : ∃ q, appendR a 1 = ⟨q, 2, 0⟩ ∧ q = o3 := ⟨o3, by rw [HEa.out]; exact app_2, rfl⟩
  have HEb := Lib.hid hea
  clear hea
  have HRES_b := Lib.hid hRES
  have c0 := (append_any a _ _ 1 _ HR_a.out (by rw [HEa.out]; exact tame18 o2 may_o2) (HTB.out.below GW.out)).mono fun _ _ => RetM.out hRES
  clear hRES
  have c := c0
  try unfold shelfV at c
  obtain ⟨⟨p0, p1, p2, p3, p4⟩, pz⟩ := n5 HB_a.out
  go_wp2_with fail
  refine c.mono ?_
  clear c c0
  clear p0 p1 p2 p3 p4 pz
  rintro e U4 ⟨xa_b, xc_b, ya_b, yc_b, g, rfl, hr⟩
  go_upto_region 3 with (fail)
  generalize hV : U4.alloc (.cells #[.int .i64 b.nb, .int .i64 b.nn, .int .i64 b.ns, .slice xa_b b.books.length xc_b, .slice ya_b b.notes.length yc_b] 28) = U5
  have gV : Grow U4 U5 := by rw [← hV]; exact (Grow.refl U4).alloc _
  have HB_b : Hid (U5.heap[U4.heap.size]? = some (.cells #[.int .i64 b.nb, .int .i64 b.nn, .int .i64 b.ns, .slice xa_b b.books.length xc_b, .slice ya_b b.notes.length yc_b] 28 (0, 0))) := by rw [← hV]; exact Lib.hid (heap_alloc_new U4 _)
  clear hV
  replace GW := Lib.hid (GW.out.trans (g.trans gV))
  replace HR_a := Lib.hid (HR_a.out.grow (g.trans gV))
  replace HB_a := Lib.hid (Grow.blk (g.trans gV) HB_a.out)
  have HR_b := Lib.hid (ShelfR.grow hr gV)
  clear hr g gV
  obtain ⟨u, hRES, hea⟩ : ∃ q, removeR b 1 0 = ⟨q, 1, 0⟩ ∧ q = o4 := ⟨o4, by rw [HEb.out]; exact rem_3, rfl⟩
  have HEu := Lib.hid hea
  clear hea
  have HRES_u := Lib.hid hRES
  have c0 := (remove_any b _ _ 1 0 _ HR_b.out (by rw [HEb.out]; exact tame18 o3 may_o3) (HTB.out.below GW.out)).mono fun _ _ => RetM.out hRES
  clear hRES
  have c := c0
  try unfold shelfV at c
  obtain ⟨⟨p0, p1, p2, p3, p4⟩, pz⟩ := n5 HB_b.out
  go_wp2_with fail
  refine c.mono ?_
  clear c c0
  clear p0 p1 p2 p3 p4 pz
  rintro e U6 ⟨xa_u, xc_u, ya_u, yc_u, g, rfl, hr⟩
  go_upto_region 4 with (fail)
  generalize hV : U6.alloc (.cells #[.int .i64 u.nb, .int .i64 u.nn, .int .i64 u.ns, .slice xa_u u.books.length xc_u, .slice ya_u u.notes.length yc_u] 28) = U7
  have gV : Grow U6 U7 := by rw [← hV]; exact (Grow.refl U6).alloc _
  have HB_u : Hid (U7.heap[U6.heap.size]? = some (.cells #[.int .i64 u.nb, .int .i64 u.nn, .int .i64 u.ns, .slice xa_u u.books.length xc_u, .slice ya_u u.notes.length yc_u] 28 (0, 0))) := by rw [← hV]; exact Lib.hid (heap_alloc_new U6 _)
  clear hV
  replace GW := Lib.hid (GW.out.trans (g.trans gV))
  replace HR_a := Lib.hid (HR_a.out.grow (g.trans gV))
  replace HB_a := Lib.hid (Grow.blk (g.trans gV) HB_a.out)
  replace HR_b := Lib.hid (HR_b.out.grow (g.trans gV))
  replace HB_b := Lib.hid (Grow.blk (g.trans gV) HB_b.out)
  have HR_u := Lib.hid (ShelfR.grow hr gV)
  clear hr g gV
  have c := nSheet_any u _ _ 1 0 _ HR_u.out (by rw [HEu.out]; exact tame18 o4 may_o4) (HTB.out.below GW.out)
  try unfold shelfV at c
  obtain ⟨⟨p0, p1, p2, p3, p4⟩, pz⟩ := n5 HB_u.out
  rw [show sheetV u 1 0 = 2 by rw [HEu.out]; exact she_4.2, show sheetE u 1 0 = 0 by rw [HEu.out]; exact she_4.1] at c
  go_wp2_with fail
  refine c.mono ?_
  clear c
  clear p0 p1 p2 p3 p4 pz
  rintro e U8 ⟨rfl, g⟩
  replace GW := Lib.hid (GW.out.trans g)
  replace HR_a := Lib.hid (HR_a.out.grow g)
  replace HB_a := Lib.hid (Grow.blk g HB_a.out)
  replace HR_b := Lib.hid (HR_b.out.grow g)
  replace HB_b := Lib.hid (Grow.blk g HB_b.out)
  replace HR_u := Lib.hid (HR_u.out.grow g)
  replace HB_u := Lib.hid (Grow.blk g HB_u.out)
  clear g
  have c := one_any U8
  try unfold shelfV at c
  go_wp2_with fail
  refine c.mono ?_
  clear c
  rintro e U9 ⟨xa_q, xc_q, ya_q, yc_q, g, rfl, hr⟩
  replace GW := Lib.hid (GW.out.trans g)
  replace HR_a := Lib.hid (HR_a.out.grow g)
  replace HB_a := Lib.hid (Grow.blk g HB_a.out)
  replace HR_b := Lib.hid (HR_b.out.grow g)
  replace HB_b := Lib.hid (Grow.blk g HB_b.out)
  replace HR_u := Lib.hid (HR_u.out.grow g)
  replace HB_u := Lib.hid (Grow.blk g HB_u.out)
  have HR_q := Lib.hid hr
  clear hr g
  obtain ⟨v, hRES, hea⟩ : ∃ q, tagR o1 1 tnX = ⟨q, 0, 0⟩ ∧ q = o5 := ⟨o5, tag_1, rfl⟩
  have HEv := Lib.hid hea
  clear hea
  have HRES_v := Lib.hid hRES
  have c0 := (tag_any o1 _ _ 1 tnX _ HR_q.out (tame18 o1 may_o1) (by decide) (HTB.out.below GW.out)).mono fun _ _ => RetC.out hRES
  clear hRES
  have c := c0
  try unfold shelfV at c
  go_wp2_with fail
  refine c.mono ?_
  clear c c0
  rintro e U10 ⟨xa_v, xc_v, ya_v, yc_v, g, rfl, hr⟩
  go_upto_region 6 with (fail)
  generalize hV : U10.alloc (.cells #[.int .i64 v.nb, .int .i64 v.nn, .int .i64 v.ns, .slice xa_v v.books.length xc_v, .slice ya_v v.notes.length yc_v] 28) = U11
  have gV : Grow U10 U11 := by rw [← hV]; exact (Grow.refl U10).alloc _
  have HB_v : Hid (U11.heap[U10.heap.size]? = some (.cells #[.int .i64 v.nb, .int .i64 v.nn, .int .i64 v.ns, .slice xa_v v.books.length xc_v, .slice ya_v v.notes.length yc_v] 28 (0, 0))) := by rw [← hV]; exact Lib.hid (heap_alloc_new U10 _)
  clear hV
  replace GW := Lib.hid (GW.out.trans (g.trans gV))
  replace HR_a := Lib.hid (HR_a.out.grow (g.trans gV))
  replace HB_a := Lib.hid (Grow.blk (g.trans gV) HB_a.out)
  replace HR_b := Lib.hid (HR_b.out.grow (g.trans gV))
  replace HB_b := Lib.hid (Grow.blk (g.trans gV) HB_b.out)
  replace HR_u := Lib.hid (HR_u.out.grow (g.trans gV))
  replace HB_u := Lib.hid (Grow.blk (g.trans gV) HB_u.out)
  have HR_v := Lib.hid (ShelfR.grow hr gV)
  clear hr g gV
  have hv0 : v.notes[0]? = some ⟨1, 1, tnN, [tnX], []⟩ := by rw [HEv.out]; rfl
  have hvl : v.notes.length = 1 := by rw [HEv.out]; rfl
  obtain ⟨nb, off, tv, sv, ea, hnb, -, -, -, n3, -, htv, -⟩ := Notes.at HR_v.out.2 hv0
  obtain ⟨tva, tvc, etv⟩ := htv.mk
  subst ea etv
  have n3' : U11.cell? ⟨nb, off + 3, none⟩ = some (.slice tva 1 tvc) := by simpa using n3
  have htv' : Texts U11 (.slice tva 1 tvc) [tnX] := htv
  have c := sameTexts_any _ _ [tnX] [tnX] _ (Texts.grow htv' ((Grow.refl _).alloc _)) (show Texts (U11.alloc (.cells #[.string tnX] 9)) (.slice (some ⟨U11.heap.size, 0, none⟩) 1 1) [tnX] from lit_reads (fun t : ByteArray => [Value.string t]) (fun _ => rfl) U11 [tnX] 9 (fun x => rfl)) (by decide)
  rw [same_yes rfl] at c
  rw [hvl] at HB_v
  clear n3 htv htv' hv0 hvl
  obtain ⟨⟨p0, p1, p2, p3, p4⟩, pz⟩ := n5 HB_v.out
  go_wp2_with fail
  refine c.mono ?_
  clear c
  rintro e UX ⟨rfl, gX⟩
  have GX := ((GW.out).alloc (.cells #[.string tnX] 9)).trans gX
  go_wp2_with fail
  go_ret
  exact ⟨rfl, GX⟩
end Go.Proofs.YtnajccljdjllgaaDoor
set_option linter.unusedVariables false
set_option linter.unusedSimpArgs false
namespace Go.Proofs.YtnajccljdjllgaaDoor
open Go.RowKit Go.Lib
theorem numOf_any (n : Int) (w : World) : Calls Tryd.prog 20 #[.int .i64 n] w fun e w' => e = .returned (.int .i64 n) ∧ w' = w := by
  go_enter Tryd.func20, Tryd.ntmps20
  go_wp2_with fail
  go_ret
  exact ⟨rfl, rfl⟩
theorem n4 {w : World} {b : Nat} {t : TypeId} {m : Nat × Nat} {u0 u1 u2 u3 : Value} (hb : w.heap[b]? = some (.cells #[u0, u1, u2, u3] t m)) :
    (w.cell? ⟨b, 0, none⟩ = some u0 ∧ w.cell? ⟨b, 1, none⟩ = some u1 ∧ w.cell? ⟨b, 2, none⟩ = some u2 ∧ w.cell? ⟨b, 3, none⟩ = some u3) ∧ b < w.heap.size :=
  ⟨⟨(cell_of_row w b 0 _ _ _ hb).trans rfl, (cell_of_row w b 1 _ _ _ hb).trans rfl, (cell_of_row w b 2 _ _ _ hb).trans rfl, (cell_of_row w b 3 _ _ _ hb).trans rfl⟩, (Array.getElem?_eq_some_iff.1 hb).1⟩
theorem resOf_n0 (e : Int) (s : Shelf) : (resOf e s 0).n = 0 := by unfold resOf; split <;> rfl
theorem results_cct {P : Program} {fn : Func} {p q u : Tmp} {ty ty2 : TypeId} (h : fn.results = #[.cell p ty, .cell q ty2, .tmp u]) (tmps : Array Value) (w : World) :
    (results fn tmps).run P w = ((asAddr (tmps.getD p undef)).run P w).andThen fun a w₁ => ((loadVar ty a).run P w₁).andThen fun v w₂ => ((asAddr (tmps.getD q undef)).run P w₂).andThen fun a2 w₃ => ((loadVar ty2 a2).run P w₃).andThen fun v2 w₄ => .ok (.tuple #[v, v2, tmps.getD u undef]) w₄ := by
  simp [results, h, Sem.run_bind]
def RetC1 (S : Shelf) (E : Int) (w : World) (e : Ending) (w' : World) : Prop := ∃ xa xc ya yc Y, e = .returned (.tuple #[.agg #[.int .i64 S.nb, .int .i64 S.nn, .int .i64 S.ns, .slice xa S.books.length xc, .slice ya S.notes.length yc], .int .i64 E]) ∧ OwnS w.heap.size (.slice xa S.books.length xc) (.slice ya S.notes.length yc) S.books Y w' ∧ Y.map NV.n = S.notes ∧ Grow w w'
def RetM1 (S : Shelf) (N E : Int) (w : World) (e : Ending) (w' : World) : Prop := ∃ xa xc ya yc Y, e = .returned (.tuple #[.agg #[.int .i64 S.nb, .int .i64 S.nn, .int .i64 S.ns, .slice xa S.books.length xc, .slice ya S.notes.length yc], .int .i64 N, .int .i64 E]) ∧ OwnS w.heap.size (.slice xa S.books.length xc) (.slice ya S.notes.length yc) S.books Y w' ∧ Y.map NV.n = S.notes ∧ Grow w w'
theorem RetC.one {r : Res} {S : Shelf} {N E : Int} (hr : r = ⟨S, N, E⟩) {w w' : World} {e : Ending} (h : RetC r w e w') : RetC1 S E w e w' := by
  subst hr
  obtain ⟨g, bv, nv, Y, h1, h2, h3⟩ := h
  obtain ⟨xa, xc, e1, -⟩ := h2.books.slice
  obtain ⟨ya, yc, e2, -⟩ := h2.notes.slice
  have hl : Y.length = S.notes.length := by rw [← h3, List.length_map]
  rw [hl] at e2
  subst e1 e2
  exact ⟨xa, xc, ya, yc, Y, h1, h2, h3, g⟩
theorem RetM.one {r : Res} {S : Shelf} {N E : Int} (hr : r = ⟨S, N, E⟩) {w w' : World} {e : Ending} (h : RetM r w e w') : RetM1 S N E w e w' := by
  subst hr
  obtain ⟨g, bv, nv, Y, h1, h2, h3⟩ := h
  obtain ⟨xa, xc, e1, -⟩ := h2.books.slice
  obtain ⟨ya, yc, e2, -⟩ := h2.notes.slice
  have hl : Y.length = S.notes.length := by rw [← h3, List.length_map]
  rw [hl] at e2
  subst e1 e2
  exact ⟨xa, xc, ya, yc, Y, h1, h2, h3, g⟩
theorem own_shelf {base : Nat} {bv nv : Value} {S : Shelf} {Y : List NV} {w : World} (h : OwnS base bv nv S.books Y w) (hm : Y.map NV.n = S.notes) : ShelfR w S bv nv := ⟨h.reads.1, by rw [← hm]; exact h.reads.2⟩
abbrev zQ : Obj := shQ 0 0 0 (.slice none 0 0) (.slice none 0 0)
abbrev shO (S : Shelf) (bv nv : Value) : Obj := shQ S.nb S.nn S.ns bv nv
/-- Both shelves lie in their boxes (A, B); C, D are boxes that are still empty. -/
structure BothSt (w : World) (A B C D : Nat) (S : Shelf) (bv nv : Value) (Y : List NV) (b2 n2 : Value) (W : World) : Prop where
  grow : Grow w W
  a : W.heap[A]? = some (shO S bv nv)
  b : W.heap[B]? = some (shO S b2 n2)
  c : W.heap[C]? = some zQ
  d : W.heap[D]? = some zQ
  own : OwnS w.heap.size bv nv S.books Y W
  map : Y.map NV.n = S.notes
  two : ShelfR W S b2 n2
theorem both_one {w V w1 : World} {A : Nat} {S : Shelf} {bv nv : Value} {Y : List NV} (gV : Grow w V) (hA : V.heap[A]? = some zQ) (hl : w.heap.size ≤ A) (g1 : Grow V w1) (ho : OwnS V.heap.size bv nv S.books Y w1) :
    (set5w w1 A (.int .i64 S.nb) (.int .i64 S.nn) (.int .i64 S.ns) bv nv).heap[A]? = some (shO S bv nv) ∧ Grow w (set5w w1 A (.int .i64 S.nb) (.int .i64 S.nn) (.int .i64 S.ns) bv nv) ∧ OwnS w.heap.size bv nv S.books Y (set5w w1 A (.int .i64 S.nb) (.int .i64 S.nn) (.int .i64 S.ns) bv nv) ∧
      ∀ (i : Nat) (o : Obj), i ≠ A → V.heap[i]? = some o → (set5w w1 A (.int .i64 S.nb) (.int .i64 S.nn) (.int .i64 S.ns) bv nv).heap[i]? = some o := by
  have hb := g1.blk hA
  obtain ⟨h1, h2⟩ := set5 hb (.int .i64 S.nb) (.int .i64 S.nn) (.int .i64 S.ns) bv nv
  exact ⟨h1, h2.grow (gV.trans g1) hl, (ho.base_mono gV.size).kept (shelf_kept hb h2), fun i o hi ho => set5_other _ _ _ _ _ hi (g1.blk ho)⟩
theorem both_two {w V w2 : World} {A B C D : Nat} {S : Shelf} {bv nv b2 n2 : Value} {Y : List NV} (gV : Grow w V) (hA : V.heap[A]? = some (shO S bv nv)) (hB : V.heap[B]? = some zQ) (hC : V.heap[C]? = some zQ) (hD : V.heap[D]? = some zQ) (hl : w.heap.size ≤ B) (ne : A ≠ B ∧ C ≠ B ∧ D ≠ B)
    (ho : OwnS w.heap.size bv nv S.books Y V) (hm : Y.map NV.n = S.notes) (g2 : Grow V w2) {Y2 : List NV} (ho2 : OwnS V.heap.size b2 n2 S.books Y2 w2) (hm2 : Y2.map NV.n = S.notes) :
    BothSt w A B C D S bv nv Y b2 n2 (set5w w2 B (.int .i64 S.nb) (.int .i64 S.nn) (.int .i64 S.ns) b2 n2) := by
  have hb := g2.blk hB
  obtain ⟨h1, h2⟩ := set5 hb (.int .i64 S.nb) (.int .i64 S.nn) (.int .i64 S.ns) b2 n2
  have k := shelf_kept hb h2
  exact ⟨h2.grow (gV.trans g2) hl, set5_other _ _ _ _ _ ne.1 (g2.blk hA), h1, set5_other _ _ _ _ _ ne.2.1 (g2.blk hC), set5_other _ _ _ _ _ ne.2.2 (g2.blk hD), (ho.grow g2).kept k, hm, own_shelf (ho2.kept k) hm2⟩
/-- What both answers. -/
def RetB (S : Shelf) (w : World) (e : Ending) (w' : World) : Prop := ∃ xa xc ya yc Y b2 bc2 n2 nc2, e = .returned (.tuple #[.agg #[.int .i64 S.nb, .int .i64 S.nn, .int .i64 S.ns, .slice xa S.books.length xc, .slice ya S.notes.length yc], .agg #[.int .i64 S.nb, .int .i64 S.nn, .int .i64 S.ns, .slice b2 S.books.length bc2, .slice n2 S.notes.length nc2], .bool true]) ∧ OwnS w.heap.size (.slice xa S.books.length xc) (.slice ya S.notes.length yc) S.books Y w' ∧ Y.map NV.n = S.notes ∧ Grow w w'
def RetB8 (S : Shelf) (w : World) (e : Ending) (w' : World) : Prop := ∃ xa xc ya yc Y, e = .returned (.tuple #[.agg #[.int .i64 S.nb, .int .i64 S.nn, .int .i64 S.ns, .slice xa S.books.length xc, .slice ya S.notes.length yc], .bool true]) ∧ OwnS w.heap.size (.slice xa S.books.length xc) (.slice ya S.notes.length yc) S.books Y w' ∧ Y.map NV.n = S.notes ∧ Grow w w'
/-- Rows of the call's own, beside boxes of shelves in which the results are stored. -/
def OwnE (w : World) (bv nv : Value) (X : List Book) (Y : List NV) (L : List Nat) (W : World) : Prop := Grow w W ∧ OwnS w.heap.size bv nv X Y W ∧ ∀ C ∈ L, ∃ cs : Array Value, W.heap[C]? = some (.cells cs 28 (0, 0))
theorem OwnE.drew {w W : World} {bv nv : Value} {X : List Book} {Y : List NV} {L : List Nat} (h : OwnE w bv nv X Y L W) : OwnE w bv nv X Y L W.drew := ⟨h.1.drew, h.2.1.grow (Grow.refl W).drew, fun C hC => (h.2.2 C hC).elim fun cs hc => ⟨cs, (Grow.refl W).drew.blk hc⟩⟩
theorem OwnE.more {w W W' : World} {bv nv : Value} {X : List Book} {Y : List NV} {L : List Nat} (h : OwnE w bv nv X Y L W) (g : Grow W W') : OwnE w bv nv X Y L W' := ⟨h.1.trans g, h.2.1.grow g, fun C hC => (h.2.2 C hC).elim fun cs hc => ⟨cs, g.blk hc⟩⟩
theorem OwnE.set {w W : World} {bv nv : Value} {X : List Book} {Y : List NV} {L : List Nat} (h : OwnE w bv nv X Y L W) {C : Nat} (hC : C ∈ L) (hl : w.heap.size ≤ C) (j : Nat) (u : Value) : OwnE w bv nv X Y L (W.setCell ⟨C, j, none⟩ u) := by
  obtain ⟨cs, hc⟩ := h.2.2 C hC
  have ht := turned_cell W C j u
  refine ⟨ht.grow h.1 hl, h.2.1.kept (shelf_kept hc ht), fun E hE => ?_⟩
  by_cases e : E = C
  · subst e; exact ⟨_, heap_setCell_same W E j _ _ u hc⟩
  · obtain ⟨c2, h2⟩ := h.2.2 E hE
    exact ⟨c2, (ht.block E (Array.getElem?_eq_some_iff.1 h2).1 e).trans h2⟩
theorem BothSt.ends {w W : World} {A B C D : Nat} {S : Shelf} {bv nv b2 n2 : Value} {Y : List NV} (h : BothSt w A B C D S bv nv Y b2 n2 W) : OwnE w bv nv S.books Y [C, D] W := ⟨h.grow, h.own, fun E hE => by
  simp only [List.mem_cons, List.not_mem_nil, or_false] at hE
  rcases hE with rfl | rfl
  · exact ⟨_, h.c⟩
  · exact ⟨_, h.d⟩⟩
theorem same_tame {S : Shelf} (h : TameS S) : Tame S := h.1
theorem rsame (S : Shelf) : same S S = true := same_yes rfl
end Go.Proofs.YtnajccljdjllgaaDoor
set_option linter.unusedVariables false
set_option linter.unusedSimpArgs false
namespace Go.Proofs.YtnajccljdjllgaaDoor
open Go.RowKit Go.Lib
theorem replace_may {s : Shelf} {id k : Int} (h : sheetE s id k = 0) : MayP (replaceR s id k).s := by
  rw [replaceR, resOf_ok h]; exact mayS_iff.1 (sheetE_zero.1 h).1
theorem replace_tame (s : Shelf) (id k : Int) : TameS (replaceR s id k).s := tame_res replace_may
def act18R (s : Shelf) (x a b : Int) (t : ByteArray) : Res := if x = 0 then tagR s a t else if x = 1 then untagR s a t else if x = 2 then appendR s a else if x = 3 then replaceR s a b else if x = 4 then removeR s a b else ⟨zS, 0, 0⟩
theorem act18R_tame (s : Shelf) (x a b : Int) (t : ByteArray) : TameS (act18R s x a b t).s := by
  unfold act18R
  repeat' split
  · exact tag_tame s a t
  · exact untag_tame s a t
  · exact append_tame s a
  · exact replace_tame s a b
  · exact remove_tame s a b
  · exact zS_tame
theorem boxes18 (w : World) (o0 : Obj) (o1 : Obj) (o2 : Obj) (o3 : Obj) (o4 : Obj) : ((((((w.alloc o0).alloc o1).alloc o2).alloc o3).alloc o4)).heap[w.heap.size]? = some o0 ∧ ((((((w.alloc o0).alloc o1).alloc o2).alloc o3).alloc o4)).heap[w.heap.size + 1]? = some o1 ∧ ((((((w.alloc o0).alloc o1).alloc o2).alloc o3).alloc o4)).heap[w.heap.size + 2]? = some o2 ∧ ((((((w.alloc o0).alloc o1).alloc o2).alloc o3).alloc o4)).heap[w.heap.size + 3]? = some o3 ∧ ((((((w.alloc o0).alloc o1).alloc o2).alloc o3).alloc o4)).heap[w.heap.size + 4]? = some o4 := by
  refine ⟨?_, ?_, ?_, ?_, ?_⟩
  · have h := heap_alloc_new (w) o0
    rw [show (w).heap.size = w.heap.size by simp] at h
    exact ((((((Grow.refl _).alloc o1).alloc o2).alloc o3).alloc o4) : Grow _ _).blk h
  · have h := heap_alloc_new ((w.alloc o0)) o1
    rw [show ((w.alloc o0)).heap.size = w.heap.size + 1 by simp] at h
    exact (((((Grow.refl _).alloc o2).alloc o3).alloc o4) : Grow _ _).blk h
  · have h := heap_alloc_new (((w.alloc o0).alloc o1)) o2
    rw [show (((w.alloc o0).alloc o1)).heap.size = w.heap.size + 2 by simp] at h
    exact ((((Grow.refl _).alloc o3).alloc o4) : Grow _ _).blk h
  · have h := heap_alloc_new ((((w.alloc o0).alloc o1).alloc o2)) o3
    rw [show ((((w.alloc o0).alloc o1).alloc o2)).heap.size = w.heap.size + 3 by simp] at h
    exact (((Grow.refl _).alloc o4) : Grow _ _).blk h
  · have h := heap_alloc_new (((((w.alloc o0).alloc o1).alloc o2).alloc o3)) o4
    rw [show (((((w.alloc o0).alloc o1).alloc o2).alloc o3)).heap.size = w.heap.size + 4 by simp] at h
    exact h
set_option maxRecDepth 100000 in
set_option maxHeartbeats 8000000 in
theorem both18_any (s : Shelf) (bv nv : Value) (x a b : Int) (t : ByteArray) (w : World) (h : ShelfR w s bv nv) (hz : TameS s) (ht : t.size ≤ 1000000000) (hT : Tabs w) :
    Calls Tryd.prog 16 #[shelfV s bv nv, .agg #[.int .i64 x, .int .i64 a, .int .i64 b, .string t]] w (RetB8 (act18R s x a b t).s w) := by
  obtain ⟨S, N, E, hR⟩ : ∃ S N E, act18R s x a b t = ⟨S, N, E⟩ := ⟨_, _, _, rfl⟩
  have HTS := Lib.hid (show TameS S by have := act18R_tame s x a b t; rw [hR] at this; exact this)
  rw [hR]
  have HR := Lib.hid hR
  have HH := Lib.hid h
  have HZ := Lib.hid hz
  have HTB := Lib.hid hT
  obtain ⟨a1, c1, rfl⟩ := h.1.mk
  obtain ⟨a2, c2, rfl⟩ := h.2.mk
  have HXX := Lib.hid (boxes18 w (.cells #[.int .i64 s.nb, .int .i64 s.nn, .int .i64 s.ns, .slice a1 s.books.length c1, .slice a2 s.notes.length c2] 28) (.cells #[.int .i64 x, .int .i64 a, .int .i64 b, .string t] 44) (.cells #[.int .i64 0, .int .i64 0, .int .i64 0, .slice none 0 0, .slice none 0 0] 28) (.cells #[.int .i64 0, .int .i64 0, .int .i64 0, .slice none 0 0, .slice none 0 0] 28) (.cells #[.int .i64 0, .int .i64 0, .int .i64 0, .slice none 0 0, .slice none 0 0] 28))
  clear h hz hT hR
  unfold shelfV
  go_enter Tryd.func16, Tryd.ntmps16
  go_upto_region 2 with (fail)
  generalize hV : (((((w.alloc (.cells #[.int .i64 s.nb, .int .i64 s.nn, .int .i64 s.ns, .slice a1 s.books.length c1, .slice a2 s.notes.length c2] 28)).alloc (.cells #[.int .i64 x, .int .i64 a, .int .i64 b, .string t] 44)).alloc (.cells #[.int .i64 0, .int .i64 0, .int .i64 0, .slice none 0 0, .slice none 0 0] 28)).alloc (.cells #[.int .i64 0, .int .i64 0, .int .i64 0, .slice none 0 0, .slice none 0 0] 28)).alloc (.cells #[.int .i64 0, .int .i64 0, .int .i64 0, .slice none 0 0, .slice none 0 0] 28)) = V
  have gV : Grow w V := by rw [← hV]; exact ((((((Grow.refl w).alloc _).alloc _).alloc _).alloc _).alloc _)
  have HB0 : Hid (V.heap[w.heap.size]? = some (.cells #[.int .i64 s.nb, .int .i64 s.nn, .int .i64 s.ns, .slice a1 s.books.length c1, .slice a2 s.notes.length c2] 28)) := by rw [← hV]; exact Lib.hid HXX.out.1
  have HB1 : Hid (V.heap[w.heap.size + 1]? = some (.cells #[.int .i64 x, .int .i64 a, .int .i64 b, .string t] 44)) := by rw [← hV]; exact Lib.hid HXX.out.2.1
  have HB2 : Hid (V.heap[w.heap.size + 2]? = some (.cells #[.int .i64 0, .int .i64 0, .int .i64 0, .slice none 0 0, .slice none 0 0] 28)) := by rw [← hV]; exact Lib.hid HXX.out.2.2.1
  have HB3 : Hid (V.heap[w.heap.size + 3]? = some (.cells #[.int .i64 0, .int .i64 0, .int .i64 0, .slice none 0 0, .slice none 0 0] 28)) := by rw [← hV]; exact Lib.hid HXX.out.2.2.2.1
  have HB4 : Hid (V.heap[w.heap.size + 4]? = some (.cells #[.int .i64 0, .int .i64 0, .int .i64 0, .slice none 0 0, .slice none 0 0] 28)) := by rw [← hV]; exact Lib.hid HXX.out.2.2.2.2
  clear hV HXX
  obtain ⟨⟨p0, p1, p2, p3, p4⟩, hpz⟩ := n5 HB0.out
  obtain ⟨⟨q0, q1, q2, q3⟩, hqz⟩ := n4 HB1.out
  go_upto_block 0 with (fail)
  go_cut [8, 9, 10, 11] (fun v8 v9 v10 v11 wx => ∃ xa xc ya yc Y b2 n2, v8 = .int .i64 N ∧ v9 = .int .i64 N ∧ v10 = .int .i64 E ∧ v11 = .int .i64 E ∧ BothSt w (w.heap.size + 3) (w.heap.size + 4) (w.heap.size + 2) (w.heap.size + 2) S (.slice xa S.books.length xc) (.slice ya S.notes.length yc) Y b2 n2 wx)
  case first =>
    by_cases hx0 : x = 0
    · subst hx0
      have hR1 : tagR s a t = ⟨S, N, E⟩ := by have h9 := HR.out; unfold act18R at h9; simpa using h9
      have hN : N = 0 := by have h9 := congrArg Res.n hR1; rw [show (tagR s a t).n = 0 from resOf_n0 _ _] at h9; exact h9.symm
      have c := (tag_any s _ _ a t V (HH.out.grow gV) HZ.out ht (HTB.out.below gV)).mono fun _ _ => RetC.one hR1
      unfold shelfV at c
      go_wp2_with fail
      refine c.mono ?_
      clear c
      rintro e w1 ⟨xa, xc, ya, yc, Y, rfl, ho, hm, g1⟩
      obtain ⟨k1, k2, k3, k4⟩ := both_one gV HB3.out (by omega) g1 ho
      obtain ⟨⟨e0, e1, e2, e3, e4⟩, ez⟩ := n5 (g1.blk HB3.out)
      have f0 := frozen_of_row w1 (w.heap.size + 3) 0 _ _ (g1.blk HB3.out)
      have f1 := frozen_of_row w1 (w.heap.size + 3) 1 _ _ (g1.blk HB3.out)
      have f2 := frozen_of_row w1 (w.heap.size + 3) 2 _ _ (g1.blk HB3.out)
      have f3 := frozen_of_row w1 (w.heap.size + 3) 3 _ _ (g1.blk HB3.out)
      have f4 := frozen_of_row w1 (w.heap.size + 3) 4 _ _ (g1.blk HB3.out)
      unfold set5w at k1 k2 k3 k4
      clear p0 p1 p2 p3 p4 hpz q0 q1 q2 q3 hqz
      go_upto_region 7 with (fail)
      generalize ((((w1.setCell ⟨w.heap.size + 3, 0, none⟩ (.int .i64 S.nb)).setCell ⟨w.heap.size + 3, 1, none⟩ (.int .i64 S.nn)).setCell ⟨w.heap.size + 3, 2, none⟩ (.int .i64 S.ns)).setCell ⟨w.heap.size + 3, 3, none⟩ (.slice xa S.books.length xc)).setCell ⟨w.heap.size + 3, 4, none⟩ (.slice ya S.notes.length yc) = W1 at *
      have KA := Lib.hid k1
      have KG := Lib.hid k2
      have KO := Lib.hid k3
      have KB0 := Lib.hid (k4 _ _ (by omega) HB0.out)
      have KB1 := Lib.hid (k4 _ _ (by omega) HB1.out)
      have KB := Lib.hid (k4 _ _ (by omega) HB4.out)
      have KC := Lib.hid (k4 _ _ (by omega) HB2.out)
      have KD := Lib.hid (k4 _ _ (by omega) HB2.out)
      have KM := Lib.hid hm
      clear k1 k2 k3 k4 ho hm g1 e0 e1 e2 e3 e4 ez f0 f1 f2 f3 f4
      obtain ⟨⟨p0, p1, p2, p3, p4⟩, hpz⟩ := n5 KB0.out
      obtain ⟨⟨q0, q1, q2, q3⟩, hqz⟩ := n4 KB1.out
      have c := (refTag_any s _ _ a t W1 (HH.out.grow KG.out) HZ.out ht (HTB.out.below KG.out)).mono fun _ _ => RetC.one hR1
      unfold shelfV at c
      go_wp2_with fail
      refine c.mono ?_
      clear c
      rintro e w2 ⟨xa2, xc2, ya2, yc2, Y2, rfl, ho, hm, g2⟩
      have k := both_two (A := w.heap.size + 3) (B := w.heap.size + 4) (C := w.heap.size + 2) (D := w.heap.size + 2) KG.out KA.out KB.out KC.out KD.out (by omega) ⟨by omega, by omega, by omega⟩ KO.out KM.out g2 ho hm
      obtain ⟨⟨e0, e1, e2, e3, e4⟩, ez⟩ := n5 (g2.blk KB.out)
      have f0 := frozen_of_row w2 (w.heap.size + 4) 0 _ _ (g2.blk KB.out)
      have f1 := frozen_of_row w2 (w.heap.size + 4) 1 _ _ (g2.blk KB.out)
      have f2 := frozen_of_row w2 (w.heap.size + 4) 2 _ _ (g2.blk KB.out)
      have f3 := frozen_of_row w2 (w.heap.size + 4) 3 _ _ (g2.blk KB.out)
      have f4 := frozen_of_row w2 (w.heap.size + 4) 4 _ _ (g2.blk KB.out)
      have KK := Lib.hid k
      clear p0 p1 p2 p3 p4 hpz q0 q1 q2 q3 hqz k ho hm g2
      go_wp2_with fail
      go_meet
      exact ⟨xa, xc, ya, yc, Y, _, _, by rw [hN], by rw [hN], rfl, rfl, KK.out⟩
    · have hx0' := hx0
      by_cases hx1 : x = 1
      · subst hx1
        have hR1 : untagR s a t = ⟨S, N, E⟩ := by have h9 := HR.out; unfold act18R at h9; simpa using h9
        have hN : N = 0 := by have h9 := congrArg Res.n hR1; rw [show (untagR s a t).n = 0 from resOf_n0 _ _] at h9; exact h9.symm
        have c := (untag_any s _ _ a t V (HH.out.grow gV) HZ.out ht (HTB.out.below gV)).mono fun _ _ => RetC.one hR1
        unfold shelfV at c
        go_wp2_with fail
        refine c.mono ?_
        clear c
        rintro e w1 ⟨xa, xc, ya, yc, Y, rfl, ho, hm, g1⟩
        obtain ⟨k1, k2, k3, k4⟩ := both_one gV HB3.out (by omega) g1 ho
        obtain ⟨⟨e0, e1, e2, e3, e4⟩, ez⟩ := n5 (g1.blk HB3.out)
        have f0 := frozen_of_row w1 (w.heap.size + 3) 0 _ _ (g1.blk HB3.out)
        have f1 := frozen_of_row w1 (w.heap.size + 3) 1 _ _ (g1.blk HB3.out)
        have f2 := frozen_of_row w1 (w.heap.size + 3) 2 _ _ (g1.blk HB3.out)
        have f3 := frozen_of_row w1 (w.heap.size + 3) 3 _ _ (g1.blk HB3.out)
        have f4 := frozen_of_row w1 (w.heap.size + 3) 4 _ _ (g1.blk HB3.out)
        unfold set5w at k1 k2 k3 k4
        clear p0 p1 p2 p3 p4 hpz q0 q1 q2 q3 hqz
        go_upto_region 10 with (fail)
        generalize ((((w1.setCell ⟨w.heap.size + 3, 0, none⟩ (.int .i64 S.nb)).setCell ⟨w.heap.size + 3, 1, none⟩ (.int .i64 S.nn)).setCell ⟨w.heap.size + 3, 2, none⟩ (.int .i64 S.ns)).setCell ⟨w.heap.size + 3, 3, none⟩ (.slice xa S.books.length xc)).setCell ⟨w.heap.size + 3, 4, none⟩ (.slice ya S.notes.length yc) = W1 at *
        have KA := Lib.hid k1
        have KG := Lib.hid k2
        have KO := Lib.hid k3
        have KB0 := Lib.hid (k4 _ _ (by omega) HB0.out)
        have KB1 := Lib.hid (k4 _ _ (by omega) HB1.out)
        have KB := Lib.hid (k4 _ _ (by omega) HB4.out)
        have KC := Lib.hid (k4 _ _ (by omega) HB2.out)
        have KD := Lib.hid (k4 _ _ (by omega) HB2.out)
        have KM := Lib.hid hm
        clear k1 k2 k3 k4 ho hm g1 e0 e1 e2 e3 e4 ez f0 f1 f2 f3 f4
        obtain ⟨⟨p0, p1, p2, p3, p4⟩, hpz⟩ := n5 KB0.out
        obtain ⟨⟨q0, q1, q2, q3⟩, hqz⟩ := n4 KB1.out
        have c := (refUntag_any s _ _ a t W1 (HH.out.grow KG.out) HZ.out ht (HTB.out.below KG.out)).mono fun _ _ => RetC.one hR1
        unfold shelfV at c
        go_wp2_with fail
        refine c.mono ?_
        clear c
        rintro e w2 ⟨xa2, xc2, ya2, yc2, Y2, rfl, ho, hm, g2⟩
        have k := both_two (A := w.heap.size + 3) (B := w.heap.size + 4) (C := w.heap.size + 2) (D := w.heap.size + 2) KG.out KA.out KB.out KC.out KD.out (by omega) ⟨by omega, by omega, by omega⟩ KO.out KM.out g2 ho hm
        obtain ⟨⟨e0, e1, e2, e3, e4⟩, ez⟩ := n5 (g2.blk KB.out)
        have f0 := frozen_of_row w2 (w.heap.size + 4) 0 _ _ (g2.blk KB.out)
        have f1 := frozen_of_row w2 (w.heap.size + 4) 1 _ _ (g2.blk KB.out)
        have f2 := frozen_of_row w2 (w.heap.size + 4) 2 _ _ (g2.blk KB.out)
        have f3 := frozen_of_row w2 (w.heap.size + 4) 3 _ _ (g2.blk KB.out)
        have f4 := frozen_of_row w2 (w.heap.size + 4) 4 _ _ (g2.blk KB.out)
        have KK := Lib.hid k
        clear p0 p1 p2 p3 p4 hpz q0 q1 q2 q3 hqz k ho hm g2
        go_wp2_with fail
        go_meet
        exact ⟨xa, xc, ya, yc, Y, _, _, by rw [hN], by rw [hN], rfl, rfl, KK.out⟩
      · have hx1' := hx1
        by_cases hx2 : x = 2
        · subst hx2
          have hR1 : appendR s a = ⟨S, N, E⟩ := by have h9 := HR.out; unfold act18R at h9; simpa using h9
          have c := (append_any s _ _ a V (HH.out.grow gV) HZ.out (HTB.out.below gV)).mono fun _ _ => RetM.one hR1
          unfold shelfV at c
          go_wp2_with fail
          refine c.mono ?_
          clear c
          rintro e w1 ⟨xa, xc, ya, yc, Y, rfl, ho, hm, g1⟩
          obtain ⟨k1, k2, k3, k4⟩ := both_one gV HB3.out (by omega) g1 ho
          obtain ⟨⟨e0, e1, e2, e3, e4⟩, ez⟩ := n5 (g1.blk HB3.out)
          have f0 := frozen_of_row w1 (w.heap.size + 3) 0 _ _ (g1.blk HB3.out)
          have f1 := frozen_of_row w1 (w.heap.size + 3) 1 _ _ (g1.blk HB3.out)
          have f2 := frozen_of_row w1 (w.heap.size + 3) 2 _ _ (g1.blk HB3.out)
          have f3 := frozen_of_row w1 (w.heap.size + 3) 3 _ _ (g1.blk HB3.out)
          have f4 := frozen_of_row w1 (w.heap.size + 3) 4 _ _ (g1.blk HB3.out)
          unfold set5w at k1 k2 k3 k4
          clear p0 p1 p2 p3 p4 hpz q0 q1 q2 q3 hqz
          go_upto_region 13 with (fail)
          generalize ((((w1.setCell ⟨w.heap.size + 3, 0, none⟩ (.int .i64 S.nb)).setCell ⟨w.heap.size + 3, 1, none⟩ (.int .i64 S.nn)).setCell ⟨w.heap.size + 3, 2, none⟩ (.int .i64 S.ns)).setCell ⟨w.heap.size + 3, 3, none⟩ (.slice xa S.books.length xc)).setCell ⟨w.heap.size + 3, 4, none⟩ (.slice ya S.notes.length yc) = W1 at *
          have KA := Lib.hid k1
          have KG := Lib.hid k2
          have KO := Lib.hid k3
          have KB0 := Lib.hid (k4 _ _ (by omega) HB0.out)
          have KB1 := Lib.hid (k4 _ _ (by omega) HB1.out)
          have KB := Lib.hid (k4 _ _ (by omega) HB4.out)
          have KC := Lib.hid (k4 _ _ (by omega) HB2.out)
          have KD := Lib.hid (k4 _ _ (by omega) HB2.out)
          have KM := Lib.hid hm
          clear k1 k2 k3 k4 ho hm g1 e0 e1 e2 e3 e4 ez f0 f1 f2 f3 f4
          obtain ⟨⟨p0, p1, p2, p3, p4⟩, hpz⟩ := n5 KB0.out
          obtain ⟨⟨q0, q1, q2, q3⟩, hqz⟩ := n4 KB1.out
          have c := (refAppend_any s _ _ a W1 (HH.out.grow KG.out) HZ.out (HTB.out.below KG.out)).mono fun _ _ => RetM.one hR1
          unfold shelfV at c
          go_wp2_with fail
          refine c.mono ?_
          clear c
          rintro e w2 ⟨xa2, xc2, ya2, yc2, Y2, rfl, ho, hm, g2⟩
          have k := both_two (A := w.heap.size + 3) (B := w.heap.size + 4) (C := w.heap.size + 2) (D := w.heap.size + 2) KG.out KA.out KB.out KC.out KD.out (by omega) ⟨by omega, by omega, by omega⟩ KO.out KM.out g2 ho hm
          obtain ⟨⟨e0, e1, e2, e3, e4⟩, ez⟩ := n5 (g2.blk KB.out)
          have f0 := frozen_of_row w2 (w.heap.size + 4) 0 _ _ (g2.blk KB.out)
          have f1 := frozen_of_row w2 (w.heap.size + 4) 1 _ _ (g2.blk KB.out)
          have f2 := frozen_of_row w2 (w.heap.size + 4) 2 _ _ (g2.blk KB.out)
          have f3 := frozen_of_row w2 (w.heap.size + 4) 3 _ _ (g2.blk KB.out)
          have f4 := frozen_of_row w2 (w.heap.size + 4) 4 _ _ (g2.blk KB.out)
          have KK := Lib.hid k
          clear p0 p1 p2 p3 p4 hpz q0 q1 q2 q3 hqz k ho hm g2
          go_wp2_with fail
          go_meet
          exact ⟨xa, xc, ya, yc, Y, _, _, rfl, rfl, rfl, rfl, KK.out⟩
        · have hx2' := hx2
          by_cases hx3 : x = 3
          · subst hx3
            have hR1 : replaceR s a b = ⟨S, N, E⟩ := by have h9 := HR.out; unfold act18R at h9; simpa using h9
            have c := (replace_any s _ _ a b V (HH.out.grow gV) HZ.out (HTB.out.below gV)).mono fun _ _ => RetM.one hR1
            unfold shelfV at c
            go_wp2_with fail
            refine c.mono ?_
            clear c
            rintro e w1 ⟨xa, xc, ya, yc, Y, rfl, ho, hm, g1⟩
            obtain ⟨k1, k2, k3, k4⟩ := both_one gV HB3.out (by omega) g1 ho
            obtain ⟨⟨e0, e1, e2, e3, e4⟩, ez⟩ := n5 (g1.blk HB3.out)
            have f0 := frozen_of_row w1 (w.heap.size + 3) 0 _ _ (g1.blk HB3.out)
            have f1 := frozen_of_row w1 (w.heap.size + 3) 1 _ _ (g1.blk HB3.out)
            have f2 := frozen_of_row w1 (w.heap.size + 3) 2 _ _ (g1.blk HB3.out)
            have f3 := frozen_of_row w1 (w.heap.size + 3) 3 _ _ (g1.blk HB3.out)
            have f4 := frozen_of_row w1 (w.heap.size + 3) 4 _ _ (g1.blk HB3.out)
            unfold set5w at k1 k2 k3 k4
            clear p0 p1 p2 p3 p4 hpz q0 q1 q2 q3 hqz
            go_upto_region 16 with (fail)
            generalize ((((w1.setCell ⟨w.heap.size + 3, 0, none⟩ (.int .i64 S.nb)).setCell ⟨w.heap.size + 3, 1, none⟩ (.int .i64 S.nn)).setCell ⟨w.heap.size + 3, 2, none⟩ (.int .i64 S.ns)).setCell ⟨w.heap.size + 3, 3, none⟩ (.slice xa S.books.length xc)).setCell ⟨w.heap.size + 3, 4, none⟩ (.slice ya S.notes.length yc) = W1 at *
            have KA := Lib.hid k1
            have KG := Lib.hid k2
            have KO := Lib.hid k3
            have KB0 := Lib.hid (k4 _ _ (by omega) HB0.out)
            have KB1 := Lib.hid (k4 _ _ (by omega) HB1.out)
            have KB := Lib.hid (k4 _ _ (by omega) HB4.out)
            have KC := Lib.hid (k4 _ _ (by omega) HB2.out)
            have KD := Lib.hid (k4 _ _ (by omega) HB2.out)
            have KM := Lib.hid hm
            clear k1 k2 k3 k4 ho hm g1 e0 e1 e2 e3 e4 ez f0 f1 f2 f3 f4
            obtain ⟨⟨p0, p1, p2, p3, p4⟩, hpz⟩ := n5 KB0.out
            obtain ⟨⟨q0, q1, q2, q3⟩, hqz⟩ := n4 KB1.out
            have c := (refReplace_any s _ _ a b W1 (HH.out.grow KG.out) HZ.out (HTB.out.below KG.out)).mono fun _ _ => RetM.one hR1
            unfold shelfV at c
            go_wp2_with fail
            refine c.mono ?_
            clear c
            rintro e w2 ⟨xa2, xc2, ya2, yc2, Y2, rfl, ho, hm, g2⟩
            have k := both_two (A := w.heap.size + 3) (B := w.heap.size + 4) (C := w.heap.size + 2) (D := w.heap.size + 2) KG.out KA.out KB.out KC.out KD.out (by omega) ⟨by omega, by omega, by omega⟩ KO.out KM.out g2 ho hm
            obtain ⟨⟨e0, e1, e2, e3, e4⟩, ez⟩ := n5 (g2.blk KB.out)
            have f0 := frozen_of_row w2 (w.heap.size + 4) 0 _ _ (g2.blk KB.out)
            have f1 := frozen_of_row w2 (w.heap.size + 4) 1 _ _ (g2.blk KB.out)
            have f2 := frozen_of_row w2 (w.heap.size + 4) 2 _ _ (g2.blk KB.out)
            have f3 := frozen_of_row w2 (w.heap.size + 4) 3 _ _ (g2.blk KB.out)
            have f4 := frozen_of_row w2 (w.heap.size + 4) 4 _ _ (g2.blk KB.out)
            have KK := Lib.hid k
            clear p0 p1 p2 p3 p4 hpz q0 q1 q2 q3 hqz k ho hm g2
            go_wp2_with fail
            go_meet
            exact ⟨xa, xc, ya, yc, Y, _, _, rfl, rfl, rfl, rfl, KK.out⟩
          · have hx3' := hx3
            by_cases hx4 : x = 4
            · subst hx4
              have hR1 : removeR s a b = ⟨S, N, E⟩ := by have h9 := HR.out; unfold act18R at h9; simpa using h9
              have c := (remove_any s _ _ a b V (HH.out.grow gV) HZ.out (HTB.out.below gV)).mono fun _ _ => RetM.one hR1
              unfold shelfV at c
              go_wp2_with fail
              refine c.mono ?_
              clear c
              rintro e w1 ⟨xa, xc, ya, yc, Y, rfl, ho, hm, g1⟩
              obtain ⟨k1, k2, k3, k4⟩ := both_one gV HB3.out (by omega) g1 ho
              obtain ⟨⟨e0, e1, e2, e3, e4⟩, ez⟩ := n5 (g1.blk HB3.out)
              have f0 := frozen_of_row w1 (w.heap.size + 3) 0 _ _ (g1.blk HB3.out)
              have f1 := frozen_of_row w1 (w.heap.size + 3) 1 _ _ (g1.blk HB3.out)
              have f2 := frozen_of_row w1 (w.heap.size + 3) 2 _ _ (g1.blk HB3.out)
              have f3 := frozen_of_row w1 (w.heap.size + 3) 3 _ _ (g1.blk HB3.out)
              have f4 := frozen_of_row w1 (w.heap.size + 3) 4 _ _ (g1.blk HB3.out)
              unfold set5w at k1 k2 k3 k4
              clear p0 p1 p2 p3 p4 hpz q0 q1 q2 q3 hqz
              go_upto_region 19 with (fail)
              generalize ((((w1.setCell ⟨w.heap.size + 3, 0, none⟩ (.int .i64 S.nb)).setCell ⟨w.heap.size + 3, 1, none⟩ (.int .i64 S.nn)).setCell ⟨w.heap.size + 3, 2, none⟩ (.int .i64 S.ns)).setCell ⟨w.heap.size + 3, 3, none⟩ (.slice xa S.books.length xc)).setCell ⟨w.heap.size + 3, 4, none⟩ (.slice ya S.notes.length yc) = W1 at *
              have KA := Lib.hid k1
              have KG := Lib.hid k2
              have KO := Lib.hid k3
              have KB0 := Lib.hid (k4 _ _ (by omega) HB0.out)
              have KB1 := Lib.hid (k4 _ _ (by omega) HB1.out)
              have KB := Lib.hid (k4 _ _ (by omega) HB4.out)
              have KC := Lib.hid (k4 _ _ (by omega) HB2.out)
              have KD := Lib.hid (k4 _ _ (by omega) HB2.out)
              have KM := Lib.hid hm
              clear k1 k2 k3 k4 ho hm g1 e0 e1 e2 e3 e4 ez f0 f1 f2 f3 f4
              obtain ⟨⟨p0, p1, p2, p3, p4⟩, hpz⟩ := n5 KB0.out
              obtain ⟨⟨q0, q1, q2, q3⟩, hqz⟩ := n4 KB1.out
              have c := (refRemove_any s _ _ a b W1 (HH.out.grow KG.out) HZ.out (HTB.out.below KG.out)).mono fun _ _ => RetM.one hR1
              unfold shelfV at c
              go_wp2_with fail
              refine c.mono ?_
              clear c
              rintro e w2 ⟨xa2, xc2, ya2, yc2, Y2, rfl, ho, hm, g2⟩
              have k := both_two (A := w.heap.size + 3) (B := w.heap.size + 4) (C := w.heap.size + 2) (D := w.heap.size + 2) KG.out KA.out KB.out KC.out KD.out (by omega) ⟨by omega, by omega, by omega⟩ KO.out KM.out g2 ho hm
              obtain ⟨⟨e0, e1, e2, e3, e4⟩, ez⟩ := n5 (g2.blk KB.out)
              have f0 := frozen_of_row w2 (w.heap.size + 4) 0 _ _ (g2.blk KB.out)
              have f1 := frozen_of_row w2 (w.heap.size + 4) 1 _ _ (g2.blk KB.out)
              have f2 := frozen_of_row w2 (w.heap.size + 4) 2 _ _ (g2.blk KB.out)
              have f3 := frozen_of_row w2 (w.heap.size + 4) 3 _ _ (g2.blk KB.out)
              have f4 := frozen_of_row w2 (w.heap.size + 4) 4 _ _ (g2.blk KB.out)
              have KK := Lib.hid k
              clear p0 p1 p2 p3 p4 hpz q0 q1 q2 q3 hqz k ho hm g2
              go_wp2_with fail
              go_meet
              exact ⟨xa, xc, ya, yc, Y, _, _, rfl, rfl, rfl, rfl, KK.out⟩
            · have hx4' := hx4
              have hR1 : (⟨zS, 0, 0⟩ : Res) = ⟨S, N, E⟩ := by have h9 := HR.out; unfold act18R at h9; rw [if_neg hx0, if_neg hx1, if_neg hx2, if_neg hx3, if_neg hx4] at h9; exact h9
              obtain ⟨rfl, rfl, rfl⟩ : zS = S ∧ (0 : Int) = N ∧ (0 : Int) = E := by injection hR1 with h1 h2 h3; exact ⟨h1, h2, h3⟩
              go_wp2_with fail
              go_meet
              exact ⟨none, 0, none, 0, [], _, _, rfl, rfl, rfl, rfl, ⟨gV, HB3.out, HB4.out, HB2.out, HB2.out, OwnS.nil, rfl, ⟨Reads.nil, Reads.nil⟩⟩⟩
  case rest =>
    obtain ⟨xa, xc, ya, yc, Y, b2, n2, rfl, rfl, rfl, rfl, hb⟩ := hcut
    generalize wc = W at *
    have HB := Lib.hid hb
    have HEN := Lib.hid hb.ends
    have HRS := Lib.hid (own_shelf hb.own hb.map)
    obtain ⟨b2a, b2c, eb2⟩ := hb.two.1.mk
    obtain ⟨n2a, n2c, en2⟩ := hb.two.2.mk
    subst eb2 en2
    have HR2 := Lib.hid hb.two
    obtain ⟨⟨p0, p1, p2, p3, p4⟩, hpz⟩ := n5 hb.a
    obtain ⟨⟨q0, q1, q2, q3, q4⟩, hqz⟩ := n5 hb.b
    obtain ⟨⟨c0, c1', c2', c3, c4⟩, hcz⟩ := n5 hb.c
    have HMAP := Lib.hid hb.map
    have cS := fun W' (g : Grow W W') => sameShelf_any S S _ _ _ _ W' (HRS.out.grow g) (HR2.out.grow g) HTS.out.1
    simp only [rsame] at cS
    have cNu := numOf_any E
    have hee : (E == E) = true := beq_self_eq_true E
    have hnn : (N == N) = true := beq_self_eq_true N
    unfold shelfV at cS
    have fc0 := frozen_of_row W (w.heap.size + 2) 0 _ _ hb.c
    have fc1 := frozen_of_row W (w.heap.size + 2) 1 _ _ hb.c
    have fc2 := frozen_of_row W (w.heap.size + 2) 2 _ _ hb.c
    have fc3 := frozen_of_row W (w.heap.size + 2) 3 _ _ hb.c
    have fc4 := frozen_of_row W (w.heap.size + 2) 4 _ _ hb.c
    clear hb
    have key : ∀ W', Grow W W' → W'.cell? ⟨w.heap.size + 3, 0, none⟩ = some (.int .i64 S.nb) ∧ W'.cell? ⟨w.heap.size + 3, 1, none⟩ = some (.int .i64 S.nn) ∧ W'.cell? ⟨w.heap.size + 3, 2, none⟩ = some (.int .i64 S.ns) ∧ W'.cell? ⟨w.heap.size + 3, 3, none⟩ = some (.slice xa S.books.length xc) ∧ W'.cell? ⟨w.heap.size + 3, 4, none⟩ = some (.slice ya S.notes.length yc) ∧ W'.cell? ⟨w.heap.size + 4, 0, none⟩ = some (.int .i64 S.nb) ∧ W'.cell? ⟨w.heap.size + 4, 1, none⟩ = some (.int .i64 S.nn) ∧ W'.cell? ⟨w.heap.size + 4, 2, none⟩ = some (.int .i64 S.ns) ∧ W'.cell? ⟨w.heap.size + 4, 3, none⟩ = some (.slice b2a S.books.length b2c) ∧ W'.cell? ⟨w.heap.size + 4, 4, none⟩ = some (.slice n2a S.notes.length n2c) := fun W' gW => by
      obtain ⟨⟨p0, p1, p2, p3, p4⟩, -⟩ := n5 (gW.blk HB.out.a)
      obtain ⟨⟨q0, q1, q2, q3, q4⟩, -⟩ := n5 (gW.blk HB.out.b)
      exact ⟨p0, p1, p2, p3, p4, q0, q1, q2, q3, q4⟩
    have HK := Lib.hid key
    have s0 := key _ (Grow.refl W).drew
    clear key
    go_wp2_with fail
    go_region_held3 (fun w' => w'.cell? ⟨w.heap.size + 3, 0, none⟩ = some (.int .i64 S.nb) ∧ w'.cell? ⟨w.heap.size + 3, 1, none⟩ = some (.int .i64 S.nn) ∧ w'.cell? ⟨w.heap.size + 3, 2, none⟩ = some (.int .i64 S.ns) ∧ w'.cell? ⟨w.heap.size + 3, 3, none⟩ = some (.slice xa S.books.length xc) ∧ w'.cell? ⟨w.heap.size + 3, 4, none⟩ = some (.slice ya S.notes.length yc) ∧ w'.cell? ⟨w.heap.size + 4, 0, none⟩ = some (.int .i64 S.nb) ∧ w'.cell? ⟨w.heap.size + 4, 1, none⟩ = some (.int .i64 S.nn) ∧ w'.cell? ⟨w.heap.size + 4, 2, none⟩ = some (.int .i64 S.ns) ∧ w'.cell? ⟨w.heap.size + 4, 3, none⟩ = some (.slice b2a S.books.length b2c) ∧ w'.cell? ⟨w.heap.size + 4, 4, none⟩ = some (.slice n2a S.notes.length n2c))
      (first | with_reducible exact s1 | with_reducible exact s0 | (obtain ⟨z0, z1, z2, z3, z4, z5, z6, z7, z8, z9⟩ := s1; simp [go_sem, z0, z1, z2, z3, z4, z5, z6, z7, z8, z9]))
      (first
        | (go_at_call 20; refine (cNu _).mono ?_; rintro e w3 ⟨rfl, rfl⟩)
        | (go_at_call 9; refine (cS _ (Grow.refl W).drew).mono ?_; rintro e w3 ⟨rfl, g3⟩; have gx := Grow.trans (Grow.refl W).drew g3; have s1 := HK.out _ gx; obtain ⟨⟨t0, t1, t2, t3, t4⟩, tz⟩ := n5 (gx.blk HB.out.c); have gc0 := frozen_of_row w3 (w.heap.size + 2) 0 _ _ (gx.blk HB.out.c); have gc1 := frozen_of_row w3 (w.heap.size + 2) 1 _ _ (gx.blk HB.out.c); have gc2 := frozen_of_row w3 (w.heap.size + 2) 2 _ _ (gx.blk HB.out.c); have gc3 := frozen_of_row w3 (w.heap.size + 2) 3 _ _ (gx.blk HB.out.c); have gc4 := frozen_of_row w3 (w.heap.size + 2) 4 _ _ (gx.blk HB.out.c); have HE3 := Lib.hid (HEN.out.more gx)))
    all_goals
      go_wp2_with fail
      refine bodyPost_ret (v := .tuple #[.agg #[.int .i64 S.nb, .int .i64 S.nn, .int .i64 S.ns, .slice xa S.books.length xc, .slice ya S.notes.length yc], .bool true]) ?_ rfl ?_
      · rw [results_cell_tmp rfl]
        go_simp
      · have hfin : ∀ W', OwnE w (.slice xa S.books.length xc) (.slice ya S.notes.length yc) S.books Y [w.heap.size + 2, w.heap.size + 2] W' → RetB8 S w (.returned (.tuple #[.agg #[.int .i64 S.nb, .int .i64 S.nn, .int .i64 S.ns, .slice xa S.books.length xc, .slice ya S.notes.length yc], .bool true])) W' := fun W' h => ⟨xa, xc, ya, yc, Y, rfl, h.2.1, HMAP.out, h.1⟩
        refine hfin _ ?_
        repeat' (first | with_reducible exact HE3.out | with_reducible refine OwnE.drew ?_ | with_reducible refine OwnE.set ?_ (by simp) (by omega) _ _)
end Go.Proofs.YtnajccljdjllgaaDoor
set_option linter.unusedVariables false
set_option linter.unusedSimpArgs false
namespace Go.Proofs.YtnajccljdjllgaaDoor
open Go.RowKit Go.Lib
structure ActS where
  d : Int
  a : Int
  b : Int
  t : ByteArray
instance : Inhabited ActS := ⟨⟨0, 0, 0, ⟨#[]⟩⟩⟩
abbrev cellsActS (y : ActS) : List Value := [.int .i64 y.d, .int .i64 y.a, .int .i64 y.b, .string y.t]
def ActSR (_ : World) (y : ActS) (cs : List Value) : Prop := cs = cellsActS y
abbrev ActsS := Reads ActSR 4
theorem ActsS.grow {w W : World} {v : Value} {l : List ActS} (h : ActsS w v l) (g : Grow w W) : ActsS W v l := Reads.grow (w := w) (W := W) (fun _ _ h => h) h g
theorem ActsS.at {w : World} {a : Option Addr} {n c : Nat} {l : List ActS} (h : ActsS w (.slice a n c) l) {i : Nat} {y : ActS} (hx : l[i]? = some y) :
    ∃ b off, a = some ⟨b, off, none⟩ ∧ b < w.heap.size ∧ w.cell? ⟨b, off + i * 4, none⟩ = some (.int .i64 y.d) ∧ w.cell? ⟨b, off + i * 4 + 1, none⟩ = some (.int .i64 y.a) ∧ w.cell? ⟨b, off + i * 4 + 2, none⟩ = some (.int .i64 y.b) ∧ w.cell? ⟨b, off + i * 4 + 3, none⟩ = some (.string y.t) := by
  obtain ⟨b, off, e, hb, cs, h1, h2, h3⟩ := Reads.at h hx
  unfold ActSR at h2
  subst h2
  exact ⟨b, off, e, hb, h3 0 _ rfl, h3 1 _ rfl, h3 2 _ rfl, h3 3 _ rfl⟩
/-- Is there more than is gone through? -/
def greatA (most : Nat) (l : List ActS) : Bool := (decide (l.length ≤ most) && l.any fun x => decide (60 < x.t.size)) || decide (most < l.length)
theorem greatA_no {most : Nat} {l : List ActS} (h : greatA most l = false) : l.length ≤ most ∧ ∀ x ∈ l, x.t.size ≤ 60 := by
  unfold greatA at h
  rw [Bool.or_eq_false_iff, decide_eq_false_iff_not] at h
  have h1 : l.length ≤ most := by omega
  have h2 := h.1
  rw [decide_eq_true h1, Bool.true_and, List.any_eq_false] at h2
  exact ⟨h1, fun x hx => by have := h2 x hx; simp at this; omega⟩
section
variable {H : Type} {enc : TypeId × Value → H} {w : World} {spare : Nat → Bool} {held : Bool}
theorem cAs : Tryd.prog.cellsOf 44 = 4 := by kernel_rfl
set_option maxRecDepth 100000 in
theorem actS_read {fuel : Nat} {cs : List Value} {x : DataW H × List MemPlace} (h : DataW.trod enc Tryd.prog w 0 spare held fuel 44 cs = some x) : ∃ b : ActS, ActSR w b cs := by
  obtain ⟨xs, m, -, -, hl, hlen, hf⟩ := DataW.trod_struct Tryd.underlying44 h
  rw [cAs] at hl
  match cs, hl with
  | [u0, u1, u2, u3], _ =>
    have h0 := hf 0 _ rfl
    have h1 := hf 1 _ rfl
    have h2 := hf 2 _ rfl
    have h3 := hf 3 _ rfl
    change DataW.trod enc Tryd.prog w 0 spare held m 3 (([u0, u1, u2, u3].drop 0).take (Tryd.prog.cellsOf 3)) = _ at h0
    change DataW.trod enc Tryd.prog w 0 spare held m 3 (([u0, u1, u2, u3].drop 1).take (Tryd.prog.cellsOf 3)) = _ at h1
    change DataW.trod enc Tryd.prog w 0 spare held m 3 (([u0, u1, u2, u3].drop 2).take (Tryd.prog.cellsOf 3)) = _ at h2
    change DataW.trod enc Tryd.prog w 0 spare held m 9 (([u0, u1, u2, u3].drop 3).take (Tryd.prog.cellsOf 9)) = _ at h3
    rw [cI, List.getElem?_eq_getElem (by rw [hlen]; decide)] at h0 h1 h2
    rw [cS, List.getElem?_eq_getElem (by rw [hlen]; decide)] at h3
    obtain ⟨n0, e0, -, w0⟩ := DataW.trod_int Tryd.underlying3 h0
    obtain ⟨n1, e1, -, w1⟩ := DataW.trod_int Tryd.underlying3 h1
    obtain ⟨n2, e2, -, w2⟩ := DataW.trod_int Tryd.underlying3 h2
    obtain ⟨n3, e3, -, -⟩ := DataW.trod_string Tryd.underlying9 h3
    have e0' : [u0] = [Value.int .i64 n0] := e0
    have e1' : [u1] = [Value.int .i64 n1] := e1
    have e2' : [u2] = [Value.int .i64 n2] := e2
    have e3' : [u3] = [Value.string n3] := e3
    injection e0' with e0'
    injection e1' with e1'
    injection e2' with e2'
    injection e3' with e3'
    subst e0' e1' e2' e3'
    exact ⟨⟨n0, n1, n2, n3⟩, rfl⟩
set_option maxRecDepth 100000 in
theorem actsS_arg {v : Value} {d : DataW H} {ps : List MemPlace} {r : Reach} {b0 : Nat} (hv : Value.okWide Tryd.prog w r b0 56 v) (h : DataW.Trod enc Tryd.prog w 0 spare held 56 v d ps) :
    ∃ l, ActsS w v l ∧ l.length ≤ maxLen := by
  obtain ⟨l, h1, h2, -⟩ := slice_arg (R := ActSR) Tryd.underlying56 cAs (by decide) (fun _ _ _ hy => actS_read hy) hv h
  exact ⟨l, h1, h2⟩
set_option maxRecDepth 100000 in
theorem actS_arg {v : Value} {d : DataW H} {ps : List MemPlace} {r : Reach} {b0 : Nat} (hv : Value.okWide Tryd.prog w r b0 44 v) (h : DataW.Trod enc Tryd.prog w 0 spare held 44 v d ps) :
    ∃ y : ActS, v = .agg (cellsActS y).toArray := by
  obtain ⟨cs, e, -⟩ := Go.WideShapes.okWide_struct Tryd.underlying44 hv
  subst e
  obtain ⟨fuel, hh⟩ := h
  obtain ⟨b, hb⟩ := actS_read hh
  refine ⟨b, ?_⟩
  unfold ActSR at hb
  have : cs.toList = cellsActS b := hb
  rw [← this]
end
end Go.Proofs.YtnajccljdjllgaaDoor
set_option linter.unusedVariables false
set_option linter.unusedSimpArgs false
namespace Go.Proofs.YtnajccljdjllgaaDoor
open Go.RowKit Go.Lib
theorem grown_turned {b : Nat} {w w' : World} (t : Turned b w w') : w.grownBy w' (some b) := ⟨t.os, t.tape, t.output, t.size, fun k hk hne => t.block k hk (fun e => hne (by rw [e]))⟩
set_option maxRecDepth 100000 in
set_option maxHeartbeats 1000000 in
theorem overTexts_any (v : Value) (n base : Nat) (xs : List Value) (w : World) (h : RowO base 9 1 v n xs w) (hn : n ≤ 1000000000) (hb : base ≤ w.heap.size) :
    Calls Tryd.prog 59 #[v] w fun e w' => e = .returned (.tuple #[]) ∧ w.grownBy w' (blkOf v) := by
  obtain ⟨i0, hi0, hz0, hz1, hz2⟩ := info_parts info_text
  obtain ⟨a, c, rfl, hc⟩ := h.slice
  have HO := Lib.hid h
  clear h
  go_enter Tryd.func59, Tryd.ntmps59
  go_wp2_with fail
  go_loopw [2] (fun v2 wx => ∃ j : Nat, v2 = .int .i64 j ∧ j ≤ n ∧ w.grownBy wx (blkOf (.slice a n c)) ∧ ∃ ys, RowO base 9 1 (.slice a n c) n ys wx) (fun v2 _ => n - (intOf v2).toNat)
  case atStart => exact ⟨0, rfl, by omega, World.grownBy.refl _ _, xs, HO.out⟩
  case round =>
    obtain ⟨j, rfl, hj, hg, ys, hr⟩ := hrel
    have HG := Lib.hid hg
    have HR := Lib.hid hr
    have hsz := hg.size
    clear hg HO
    by_cases hlt : j < n
    · have hlt' : (j : Int) < n := by omega
      obtain ⟨u, hu⟩ : ∃ u, ys[j]? = some u := ⟨_, List.getElem?_eq_getElem (by have := hr.len; omega)⟩
      obtain ⟨b, c', e, q, qf, qz, hbk⟩ := hr.cell hu
      injection e with e1 e2 e3
      subst e1
      obtain ⟨b2, c2, e5, hb2, hr2, ht2, -⟩ := hr.stored hu (.string ⟨#[111, 118, 101, 114]⟩)
      rw [hbk] at hb2
      obtain rfl := Option.some.inj hb2
      have HR2 := Lib.hid hr2
      have HG2 := Lib.hid (World.grownBy.trans HG.out (show wr.grownBy _ (blkOf (.slice (some ⟨b, 0, none⟩) n c)) by rw [hbk]; exact grown_turned ht2))
      clear hr hu hbk e2 e3 hr2 ht2 e5 hb2
      go_wp2_with fail
      go_roundw
      case rel => exact ⟨j + 1, by go_num, by omega, HG2.out, _, HR2.out⟩
      case measure => simp [intOf]; omega
    · have hlt' : ¬ (j : Int) < n := by omega
      clear hr
      go_wp2_with (at_builtin; refine app_R (base := base) (by rfl) _ _ 38 (by rfl) 9 i0 _ 1 16 Tryd.underlying38 hi0 hz0 hz1 hz2 (by rfl) (by decide) (.slice a n c) n ys (by rfl) wr HR.out (Nat.le_trans hb hsz) [.string ⟨#[111, 118, 101, 114]⟩] rfl ?_ (by rfl) ?_ (by decide) ?_; (intro u hu; simp at hu; subst hu; rfl); omega; intro v' w4 ra; have HRA := Lib.hid ra.2.1; clear ra)
      go_end0
      exact ⟨rfl, World.grownBy.trans HG.out HRA.out⟩
set_option maxRecDepth 100000 in
set_option maxHeartbeats 1000000 in
theorem overInts_any (v : Value) (n base : Nat) (xs : List Value) (w : World) (h : RowO base 3 1 v n xs w) (hn : n ≤ 1000000000) (hb : base ≤ w.heap.size) :
    Calls Tryd.prog 60 #[v] w fun e w' => e = .returned (.tuple #[]) ∧ w.grownBy w' (blkOf v) := by
  obtain ⟨i0, hi0, hz0, hz1, hz2⟩ := info_parts info_int
  obtain ⟨a, c, rfl, hc⟩ := h.slice
  have HO := Lib.hid h
  clear h
  go_enter Tryd.func60, Tryd.ntmps60
  go_wp2_with fail
  go_loopw [2] (fun v2 wx => ∃ j : Nat, v2 = .int .i64 j ∧ j ≤ n ∧ w.grownBy wx (blkOf (.slice a n c)) ∧ ∃ ys, RowO base 3 1 (.slice a n c) n ys wx) (fun v2 _ => n - (intOf v2).toNat)
  case atStart => exact ⟨0, rfl, by omega, World.grownBy.refl _ _, xs, HO.out⟩
  case round =>
    obtain ⟨j, rfl, hj, hg, ys, hr⟩ := hrel
    have HG := Lib.hid hg
    have HR := Lib.hid hr
    have hsz := hg.size
    clear hg HO
    by_cases hlt : j < n
    · have hlt' : (j : Int) < n := by omega
      obtain ⟨u, hu⟩ : ∃ u, ys[j]? = some u := ⟨_, List.getElem?_eq_getElem (by have := hr.len; omega)⟩
      obtain ⟨b, c', e, q, qf, qz, hbk⟩ := hr.cell hu
      injection e with e1 e2 e3
      subst e1
      obtain ⟨b2, c2, e5, hb2, hr2, ht2, -⟩ := hr.stored hu (.int .i64 (-999))
      rw [hbk] at hb2
      obtain rfl := Option.some.inj hb2
      have HR2 := Lib.hid hr2
      have HG2 := Lib.hid (World.grownBy.trans HG.out (show wr.grownBy _ (blkOf (.slice (some ⟨b, 0, none⟩) n c)) by rw [hbk]; exact grown_turned ht2))
      clear hr hu hbk e2 e3 hr2 ht2 e5 hb2
      go_wp2_with fail
      go_roundw
      case rel => exact ⟨j + 1, by go_num, by omega, HG2.out, _, HR2.out⟩
      case measure => simp [intOf]; omega
    · have hlt' : ¬ (j : Int) < n := by omega
      clear hr
      go_wp2_with (at_builtin; refine app_R (base := base) (by rfl) _ _ 39 (by rfl) 3 i0 _ 1 8 Tryd.underlying39 hi0 hz0 hz1 hz2 (by rfl) (by decide) (.slice a n c) n ys (by rfl) wr HR.out (Nat.le_trans hb hsz) [.int .i64 (-999)] rfl ?_ (by rfl) ?_ (by decide) ?_; (intro u hu; simp at hu; subst hu; rfl); omega; intro v' w4 ra; have HRA := Lib.hid ra.2.1; clear ra)
      go_end0
      exact ⟨rfl, World.grownBy.trans HG.out HRA.out⟩
set_option maxRecDepth 100000 in
set_option maxHeartbeats 1000000 in
theorem overBooks_any (v : Value) (n base : Nat) (xs : List Value) (w : World) (h : RowO base 37 2 v n xs w) (hn : n ≤ 1000000000) (hb : base ≤ w.heap.size) :
    Calls Tryd.prog 58 #[v] w fun e w' => e = .returned (.tuple #[]) ∧ w.grownBy w' (blkOf v) := by
  obtain ⟨i0, hi0, hz0, hz1, hz2⟩ := info_parts info_book
  obtain ⟨a, c, rfl, hc⟩ := h.slice
  have HO := Lib.hid h
  clear h
  go_enter Tryd.func58, Tryd.ntmps58
  go_wp2_with fail
  go_loopw [2] (fun v2 wx => ∃ j : Nat, v2 = .int .i64 j ∧ j ≤ n ∧ w.grownBy wx (blkOf (.slice a n c)) ∧ ∃ ys, RowO base 37 2 (.slice a n c) n ys wx) (fun v2 _ => n - (intOf v2).toNat)
  case atStart => exact ⟨0, rfl, by omega, World.grownBy.refl _ _, xs, HO.out⟩
  case round =>
    obtain ⟨j, rfl, hj, hg, ys, hr⟩ := hrel
    have HG := Lib.hid hg
    have HR := Lib.hid hr
    have hsz := hg.size
    clear hg HO
    by_cases hlt : j < n
    · have hlt' : (j : Int) < n := by omega
      obtain ⟨u, hu⟩ : ∃ u, ys[j * 2]? = some u := ⟨_, List.getElem?_eq_getElem (by have := hr.len; omega)⟩
      obtain ⟨u', hu'⟩ : ∃ u, ys[j * 2 + 1]? = some u := ⟨_, List.getElem?_eq_getElem (by have := hr.len; omega)⟩
      obtain ⟨b, c', e, q, qf, qz, hbk⟩ := hr.cell hu
      obtain ⟨b1, c1', e1', q', qf', qz', hbk'⟩ := hr.cell hu'
      injection e with e1 e2 e3
      subst e1
      injection e1' with e4
      injection e4 with e4
      injection e4 with e4
      subst e4
      obtain ⟨b2, c2, e5, hb2, hr2, ht2, -⟩ := hr.stored hu (.int .i64 (-9))
      rw [hbk] at hb2
      obtain rfl := Option.some.inj hb2
      obtain ⟨b3, c3, e6, hb3, hr3, ht3, -⟩ := hr2.stored (show (ys.set (j * 2) (.int .i64 (-9)))[j * 2 + 1]? = some u' by rw [List.getElem?_set_ne (by omega)]; exact hu') (.string ⟨#[]⟩)
      rw [hbk] at hb3
      obtain rfl := Option.some.inj hb3
      have HR2 := Lib.hid hr3
      have HG2 := Lib.hid (World.grownBy.trans HG.out (show wr.grownBy _ (blkOf (.slice (some ⟨b, 0, none⟩) n c)) by rw [hbk]; exact grown_turned (ht2.trans ht3)))
      clear hr hu hu' hbk hbk' e2 e3 hr2 ht2 e5 hb2 hr3 ht3 e6 hb3
      go_wp2_with fail
      go_roundw
      case rel => exact ⟨j + 1, by go_num, by omega, HG2.out, _, HR2.out⟩
      case measure => simp [intOf]; omega
    · have hlt' : ¬ (j : Int) < n := by omega
      clear hr
      go_wp2_with (at_builtin; refine app_R (base := base) (by rfl) _ _ 25 (by rfl) 37 i0 _ 2 24 Tryd.underlying25 hi0 hz0 hz1 hz2 (by rfl) (by decide) (.slice a n c) n ys (by rfl) wr HR.out (Nat.le_trans hb hsz) [.int .i64 (-9), .string ⟨#[]⟩] rfl ?_ (by rfl) ?_ (by decide) ?_; (intro u hu; simp at hu; rcases hu with rfl | rfl <;> rfl); omega; intro v' w4 ra; have HRA := Lib.hid ra.2.1; clear ra)
      go_end0
      exact ⟨rfl, World.grownBy.trans HG.out HRA.out⟩
end Go.Proofs.YtnajccljdjllgaaDoor
set_option linter.unusedVariables false
set_option linter.unusedSimpArgs false
namespace Go.Proofs.YtnajccljdjllgaaDoor
open Go.RowKit Go.Lib
/-- The notes from i on (tags), from k on (sheets), own their rows. -/
structure OvS (base : Nat) (nv : Value) (Y : List NV) (i k : Nat) (w : World) : Prop where
  notes : RowO base 41 5 nv Y.length (Y.flatMap noteC) w
  tags : ∀ (j : Nat) y, i ≤ j → Y[j]? = some y → RowO base 9 1 y.tv y.n.tags.length (strC y.n.tags) w
  sheets : ∀ (j : Nat) y, k ≤ j → Y[j]? = some y → RowO base 3 1 y.sv y.n.sheets.length (intC y.n.sheets) w
  tsep : ∀ (j q : Nat) y z, i ≤ j → j < q → Y[j]? = some y → Y[q]? = some z → ∀ b, blkOf y.tv = some b → blkOf z.tv ≠ some b
  ssep : ∀ (j q : Nat) y z, k ≤ j → j < q → Y[j]? = some y → Y[q]? = some z → ∀ b, blkOf y.sv = some b → blkOf z.sv ≠ some b
section
variable {base : Nat} {bv nv : Value} {X : List Book} {Y : List NV} {i k : Nat} {w w' : World}
theorem OvS.start (h : OwnS base bv nv X Y w) (kk : Kept 37 w w') : OvS base nv Y 0 0 w' :=
  ⟨h.notes.kept (by decide) kk, fun j y _ hy => (h.tags y (List.mem_of_getElem? hy)).kept (by decide) kk, fun j y _ hy => (h.sheets y (List.mem_of_getElem? hy)).kept (by decide) kk, fun j q y z _ hjq hy hz => pair_get h.tsep hy hz hjq, fun j q y z _ hjq hy hz => pair_get h.ssep hy hz hjq⟩
theorem OvS.afterT (h : OvS base nv Y i k w) {y : NV} (hy : Y[i]? = some y) (g : w.grownBy w' (blkOf y.tv)) : OvS base nv Y (i + 1) k w' := by
  have kk := (h.tags i y (Nat.le_refl _) hy).keeps g
  refine ⟨h.notes.kept (by decide) kk, fun j z hj hz => ?_, fun j z hj hz => (h.sheets j z hj hz).kept (by decide) kk, fun j q a b hj => h.tsep j q a b (by omega), h.ssep⟩
  have hr := h.tags j z (by omega) hz
  refine hr.kept_of fun g' hg' => g.block g' (hr.blk_lt hg') fun e => ?_
  exact h.tsep i j y z (Nat.le_refl _) (by omega) hy hz g' e.symm hg'
theorem OvS.afterI (h : OvS base nv Y i k w) {y : NV} (hy : Y[k]? = some y) (g : w.grownBy w' (blkOf y.sv)) : OvS base nv Y i (k + 1) w' := by
  have kk := (h.sheets k y (Nat.le_refl _) hy).keeps g
  refine ⟨h.notes.kept (by decide) kk, fun j z hj hz => (h.tags j z hj hz).kept (by decide) kk, fun j z hj hz => ?_, h.tsep, fun j q a b hj => h.ssep j q a b (by omega)⟩
  have hr := h.sheets j z (by omega) hz
  refine hr.kept_of fun g' hg' => g.block g' (hr.blk_lt hg') fun e => ?_
  exact h.ssep k j y z (Nat.le_refl _) (by omega) hy hz g' e.symm hg'
theorem row_put1 {e : TypeId} (h : RowO base e 5 nv Y.length (Y.flatMap noteC) w) {y : NV} (hy : Y[i]? = some y) {b c : Nat} (en : nv = .slice (some ⟨b, 0, none⟩) Y.length c) (p : Nat) (hp : p < 5) (u : Value) (y' : NV) (hy' : noteC y' = (noteC y).set p u) :
    RowO base e 5 nv (Y.set i y').length ((Y.set i y').flatMap noteC) (w.setCell ⟨b, i * 5 + p, none⟩ u) ∧ Turned b w (w.setCell ⟨b, i * 5 + p, none⟩ u) := by
  obtain ⟨u0, hu0⟩ : ∃ u0, (Y.flatMap noteC)[i * 5 + p]? = some u0 := by
    refine ⟨_, List.getElem?_eq_getElem ?_⟩
    rw [h.len]
    have := (List.getElem?_eq_some_iff.1 hy).1
    have : (i + 1) * 5 ≤ Y.length * 5 := Nat.mul_le_mul_right 5 this
    omega
  obtain ⟨b1, c1, e1, hb1, hr1, t1, -⟩ := h.stored hu0 u
  rw [en] at e1
  injection e1 with e2
  injection e2 with e2
  injection e2 with e2
  subst e2
  rw [flat_set noteC (fun _ => rfl) (y := y') hy hp hy'] at hr1
  rw [List.length_set]
  exact ⟨hr1, t1⟩
abbrev zN : NV := ⟨⟨-9, 0, ⟨#[]⟩, [], []⟩, .slice none 0 0, .slice none 0 0⟩
abbrev put5w (w : World) (b i : Nat) : World := ((((w.setCell ⟨b, i * 5, none⟩ (.int .i64 (-9))).setCell ⟨b, i * 5 + 1, none⟩ (.int .i64 0)).setCell ⟨b, i * 5 + 2, none⟩ (.string ⟨#[]⟩)).setCell ⟨b, i * 5 + 3, none⟩ (.slice none 0 0)).setCell ⟨b, i * 5 + 4, none⟩ (.slice none 0 0)
theorem OvS.put (h : OvS base nv Y (i + 1) (i + 1) w) {y : NV} (hy : Y[i]? = some y) {b c : Nat} (en : nv = .slice (some ⟨b, 0, none⟩) Y.length c) :
    OvS base nv (Y.set i zN) (i + 1) (i + 1) (put5w w b i) ∧ Turned b w (put5w w b i) := by
  have hi := (List.getElem?_eq_some_iff.1 hy).1
  obtain ⟨r1, t1⟩ := row_put1 h.notes hy en 0 (by decide) (.int .i64 (-9)) ⟨{ y.n with id := -9 }, y.tv, y.sv⟩ rfl
  have g1 : (Y.set i ⟨{ y.n with id := -9 }, y.tv, y.sv⟩)[i]? = some ⟨{ y.n with id := -9 }, y.tv, y.sv⟩ := List.getElem?_set_self hi
  obtain ⟨r2, t2⟩ := row_put1 r1 g1 (by rw [List.length_set]; exact en) 1 (by decide) (.int .i64 0) ⟨{ y.n with id := -9, book := 0 }, y.tv, y.sv⟩ rfl
  rw [List.set_set] at r2
  have g2 : (Y.set i ⟨{ y.n with id := -9, book := 0 }, y.tv, y.sv⟩)[i]? = some ⟨{ y.n with id := -9, book := 0 }, y.tv, y.sv⟩ := List.getElem?_set_self hi
  obtain ⟨r3, t3⟩ := row_put1 r2 g2 (by rw [List.length_set]; exact en) 2 (by decide) (.string ⟨#[]⟩) ⟨{ y.n with id := -9, book := 0, name := ⟨#[]⟩ }, y.tv, y.sv⟩ rfl
  rw [List.set_set] at r3
  have g3 : (Y.set i ⟨{ y.n with id := -9, book := 0, name := ⟨#[]⟩ }, y.tv, y.sv⟩)[i]? = some ⟨{ y.n with id := -9, book := 0, name := ⟨#[]⟩ }, y.tv, y.sv⟩ := List.getElem?_set_self hi
  obtain ⟨r4, t4⟩ := row_put1 r3 g3 (by rw [List.length_set]; exact en) 3 (by decide) (.slice none 0 0) ⟨{ y.n with id := -9, book := 0, name := ⟨#[]⟩ }, .slice none 0 0, y.sv⟩ rfl
  rw [List.set_set] at r4
  have g4 : (Y.set i ⟨{ y.n with id := -9, book := 0, name := ⟨#[]⟩ }, .slice none 0 0, y.sv⟩)[i]? = some ⟨{ y.n with id := -9, book := 0, name := ⟨#[]⟩ }, .slice none 0 0, y.sv⟩ := List.getElem?_set_self hi
  obtain ⟨r5, t5⟩ := row_put1 r4 g4 (by rw [List.length_set]; exact en) 4 (by decide) (.slice none 0 0) zN rfl
  rw [List.set_set] at r5
  have tt := (((t1.trans t2).trans t3).trans t4).trans t5
  obtain ⟨cur, hcur⟩ : ∃ cur : Array Value, w.heap[b]? = some (.cells cur 41 (0, 0)) := by
    obtain ⟨u0, hu0⟩ : ∃ u0, (Y.flatMap noteC)[i * 5]? = some u0 := ⟨_, List.getElem?_eq_getElem (by rw [h.notes.len]; omega)⟩
    obtain ⟨b1, c1, e1, -, -, -, hb1⟩ := h.notes.cell hu0
    rw [en] at e1
    injection e1 with e2
    injection e2 with e2
    injection e2 with e2
    subst e2
    exact (h.notes.blk hb1).2
  have kk := kept_of_turned hcur tt
  have hst : ∀ (j : Nat) z, i + 1 ≤ j → (Y.set i zN)[j]? = some z → Y[j]? = some z := fun j z hj hz => by rw [List.getElem?_set_ne (by omega)] at hz; exact hz
  refine ⟨⟨r5, fun j z hj hz => (h.tags j z hj (hst j z hj hz)).kept (by decide) kk, fun j z hj hz => (h.sheets j z hj (hst j z hj hz)).kept (by decide) kk, fun j q p r hj hjq hp hr => h.tsep j q p r hj hjq (hst j p hj hp) (hst q r (by omega) hr), fun j q p r hj hjq hp hr => h.ssep j q p r hj hjq (hst j p hj hp) (hst q r (by omega) hr)⟩, tt⟩
end
/-- Blocks below base are as they were. -/
theorem below_turned {base b : Nat} {w0 w w' : World} (h : Below base w0 w) (t : Turned b w w') (hb : base ≤ b) (hz : base ≤ w.heap.size) : Below base w0 w' := Below.grown h (grown_turned t) hz (fun k hk => by obtain rfl := Option.some.inj hk; exact hb)
set_option maxRecDepth 100000 in
set_option maxHeartbeats 4000000 in
theorem overShelf_any (S : Shelf) (bv nv : Value) (Y : List NV) (base : Nat) (w : World) (h : OwnS base bv nv S.books Y w) (hm : Y.map NV.n = S.notes) (hz : Tame S) (hb : base ≤ w.heap.size) :
    Calls Tryd.prog 19 #[shelfV S bv nv] w fun e w' => e = .returned (.tuple #[]) ∧ Below base w w' := by
  obtain ⟨ba, bc, rfl, -⟩ := h.books.slice
  obtain ⟨na, nc, rfl, -⟩ := h.notes.slice
  have hYl : Y.length = S.notes.length := by rw [← hm, List.length_map]
  have hlen : ∀ y ∈ Y, y.n.tags.length ≤ 1000000 ∧ y.n.sheets.length ≤ 1000000 := fun y hy => by
    have := hz.2.2.2 y.n (by rw [← hm]; exact List.mem_map_of_mem hy)
    exact ⟨this.2.1, this.2.2.1⟩
  have HO := Lib.hid h
  have HLN := Lib.hid hlen
  have hbl := hz.1
  have hnl : Y.length ≤ 1000000 := by rw [hYl]; exact hz.2.1
  have HXX := Lib.hid (heap_alloc_new w (.cells #[.int .i64 S.nb, .int .i64 S.nn, .int .i64 S.ns, .slice ba S.books.length bc, .slice na Y.length nc] 28))
  clear h hm hz hYl hlen
  unfold shelfV
  go_enter Tryd.func19, Tryd.ntmps19
  go_upto_region 1 with (fail)
  generalize hV : w.alloc (.cells #[.int .i64 S.nb, .int .i64 S.nn, .int .i64 S.ns, .slice ba S.books.length bc, .slice na Y.length nc] 28) = V
  have gV : Grow w V := by rw [← hV]; exact (Grow.refl w).alloc _
  have hbx : V.heap[w.heap.size]? = some (.cells #[.int .i64 S.nb, .int .i64 S.nn, .int .i64 S.ns, .slice ba S.books.length bc, .slice na Y.length nc] 28 (0, 0)) := by rw [← hV]; exact HXX.out
  clear hV HXX
  have HBX := Lib.hid hbx
  have hov := HO.out.grow gV
  have hzV := gV.size
  have c := overBooks_any (.slice ba S.books.length bc) S.books.length base _ V hov.books (by omega) (by omega)
  obtain ⟨⟨p0, p1, p2, p3, p4⟩, hpz⟩ := n5 hbx
  have HOV := Lib.hid hov
  have HBL := Lib.hid (show Below base w V from gV.mono hb)
  clear hbx hov gV
  go_wp2_with fail
  refine c.mono ?_
  rintro e w1 ⟨rfl, g1⟩
  have hk1 := HOV.out.books.keeps g1
  have HS1 := Lib.hid (OvS.start HOV.out hk1)
  have HB1 := Lib.hid (hk1 _ _ _ _ (by decide) HBX.out)
  have HL1 := Lib.hid (Below.grown HBL.out g1 (by omega) (fun k hk => (HOV.out.books.blk hk).1))
  have hz1 := g1.size
  clear c p0 p1 p2 p3 p4 hpz g1 hk1
  go_wp2_with fail
  go_loopw [2] (fun v2 wx => ∃ (i : Nat) (Z : List NV), v2 = .int .i64 i ∧ i ≤ Y.length ∧ Z.length = Y.length ∧ (∀ (j : Nat) y, i ≤ j → Z[j]? = some y → y.n.tags.length ≤ 1000000 ∧ y.n.sheets.length ≤ 1000000) ∧ OvS base (.slice na Y.length nc) Z i i wx ∧ Below base w wx ∧ base ≤ wx.heap.size ∧ wx.heap[w.heap.size]? = some (.cells #[.int .i64 S.nb, .int .i64 S.nn, .int .i64 S.ns, .slice ba S.books.length bc, .slice na Y.length nc] 28 (0, 0))) (fun v2 _ => Y.length - (intOf v2).toNat)
  case atStart => exact ⟨0, Y, rfl, by omega, rfl, fun j y _ hy => HLN.out y (List.mem_of_getElem? hy), HS1.out, HL1.out, by omega, HB1.out⟩
  case round =>
    obtain ⟨i, Z, rfl, hi, hZl, hZn, hs, hbel, hbz, hbox⟩ := hrel
    have HS := Lib.hid hs
    have HBE := Lib.hid hbel
    have HBO := Lib.hid hbox
    have HZN := Lib.hid hZn
    have HZL := Lib.hid hZl
    obtain ⟨⟨p0, p1, p2, p3, p4⟩, hpz⟩ := n5 hbox
    clear hs hbel hbox hZn HS1 HL1 HB1
    by_cases hlt : i < Y.length
    · have hlt' : (i : Int) < Y.length := by omega
      obtain ⟨y, hy, -⟩ := lt_get (l := Z) (i := i) (by omega)
      have HY := Lib.hid hy
      obtain ⟨hz1', hz2'⟩ := HZN.out i y (Nat.le_refl _) hy
      have hrt := HS.out.tags i y (Nat.le_refl _) hy
      have hrs := HS.out.sheets i y (Nat.le_refl _) hy
      obtain ⟨ta, tc, et, -⟩ := hrt.slice
      obtain ⟨sa, sc, es, -⟩ := hrs.slice
      have key : ∀ (p : Nat) u, (noteC y)[p]? = some u → ∃ b c, (Value.slice na Y.length nc) = .slice (some ⟨b, 0, none⟩) Z.length c ∧ wr.cell? ⟨b, i * 5 + p, none⟩ = some u ∧ wr.frozen? ⟨b, i * 5 + p, none⟩ = false ∧ b < wr.heap.size ∧ blkOf (Value.slice na Y.length nc) = some b := fun p u hu => HS.out.notes.cell (by rw [flat_get noteC (fun _ => rfl) Z i p y hy (by have := (List.getElem?_eq_some_iff.1 hu).1; simpa using this)]; exact hu)
      obtain ⟨b, c', e1, k3, -, kz, hbk⟩ := key 3 _ rfl
      injection e1 with e1 e2 e3
      subst e1
      have HE := Lib.hid (show (Value.slice (some ⟨b, 0, none⟩) Y.length nc) = .slice (some ⟨b, 0, none⟩) Z.length nc by rw [hZl])
      rw [et] at k3
      have HET := Lib.hid et
      have HES := Lib.hid es
      have HBK := Lib.hid hbk
      have c := overTexts_any y.tv y.n.tags.length base _ wr hrt (by omega) hbz
      rw [et] at c
      have HRT := Lib.hid hrt
      clear hy hrt hrs key et es e2 e3 hbk hZl
      go_wp2_with fail
      refine c.mono ?_
      rintro e w2 ⟨rfl, g2⟩
      have hg2 : wr.grownBy w2 (blkOf y.tv) := by rw [HET.out]; exact g2
      have hs2 := HS.out.afterT HY.out hg2
      have hk2 := HRT.out.keeps hg2
      have HBO2 := Lib.hid (hk2 _ _ _ _ (by decide) HBO.out)
      have HBE2 := Lib.hid (Below.grown HBE.out hg2 hbz (fun k hk => (HRT.out.blk hk).1))
      have hz2 := g2.size
      have HS2 := Lib.hid hs2
      have hrs := hs2.sheets i y (Nat.le_refl _) HY.out
      have key : ∀ (p : Nat) u, (noteC y)[p]? = some u → w2.cell? ⟨b, i * 5 + p, none⟩ = some u ∧ b < w2.heap.size := fun p u hu => by
        obtain ⟨b', c', e1, h1, -, h3, -⟩ := hs2.notes.cell (j := i * 5 + p) (u := u) (by rw [flat_get noteC (fun _ => rfl) Z i p y HY.out (by have := (List.getElem?_eq_some_iff.1 hu).1; simpa using this)]; exact hu)
        injection e1 with e1
        injection e1 with e1
        injection e1 with e1
        subst e1
        exact ⟨h1, h3⟩
      obtain ⟨k4, kz2⟩ := key 4 _ rfl
      rw [HES.out] at k4
      have c2 := overInts_any y.sv y.n.sheets.length base _ w2 hrs (by omega) (by omega)
      rw [HES.out] at c2
      have HRS := Lib.hid hrs
      clear c g2 hg2 hs2 hk2 hrs key k3 kz p0 p1 p2 p3 p4 hpz
      obtain ⟨⟨p0, p1, p2, p3, p4⟩, hpz⟩ := n5 HBO2.out
      go_wp2_with fail
      refine c2.mono ?_
      rintro e w3 ⟨rfl, g3⟩
      have hg3 : w2.grownBy w3 (blkOf y.sv) := by rw [HES.out]; exact g3
      have hs3 := HS2.out.afterI HY.out hg3
      have hk3 := HRS.out.keeps hg3
      have HBO3 := Lib.hid (hk3 _ _ _ _ (by decide) HBO2.out)
      have HBE3 := Lib.hid (Below.grown HBE2.out hg3 (by omega) (fun k hk => (HRS.out.blk hk).1))
      have hz3 := g3.size
      obtain ⟨hs4, t4⟩ := hs3.put HY.out HE.out
      obtain ⟨hbase, cur, hcur⟩ := hs3.notes.blk HBK.out
      have hcf : ∀ (p : Nat) u, (noteC y)[p]? = some u → w3.cell? ⟨b, i * 5 + p, none⟩ = some u ∧ w3.frozen? ⟨b, i * 5 + p, none⟩ = false ∧ b < w3.heap.size := fun p u hu => by
        obtain ⟨b', c', e1, h1, h2, h3, -⟩ := hs3.notes.cell (j := i * 5 + p) (u := u) (by rw [flat_get noteC (fun _ => rfl) Z i p y HY.out (by have := (List.getElem?_eq_some_iff.1 hu).1; simpa using this)]; exact hu)
        injection e1 with e1
        injection e1 with e1
        injection e1 with e1
        subst e1
        exact ⟨h1, h2, h3⟩
      have y0 : w3.cell? ⟨b, i * 5, none⟩ = some (.int .i64 y.n.id) := (hcf 0 _ rfl).1
      have y0f : w3.frozen? ⟨b, i * 5, none⟩ = false := (hcf 0 _ rfl).2.1
      obtain ⟨y1, y1f, -⟩ := hcf 1 _ rfl
      obtain ⟨y2, y2f, -⟩ := hcf 2 _ rfl
      obtain ⟨y3, y3f, -⟩ := hcf 3 _ rfl
      obtain ⟨y4, y4f, yz⟩ := hcf 4 _ rfl
      have HS4 := Lib.hid hs4
      have HBE4 := Lib.hid (below_turned HBE3.out t4 hbase (by omega))
      have HBO4 := Lib.hid (kept_of_turned hcur t4 _ _ _ _ (by decide) HBO3.out)
      have hz4 := t4.size
      have HZ4 := Lib.hid hz4
      clear c2 g3 hg3 hs3 hk3 hs4 t4 hcf k4 kz2 hcur p0 p1 p2 p3 p4 hpz hz4
      obtain ⟨⟨p0, p1, p2, p3, p4⟩, hpz⟩ := n5 HBO3.out
      unfold put5w at HS4 HBE4 HBO4 HZ4
      go_wp2_with fail
      go_roundw
      case rel => exact ⟨i + 1, Z.set i zN, by go_num, by omega, by rw [List.length_set]; exact HZL.out, fun j z hj hz => by
        rw [List.getElem?_set_ne (by omega)] at hz
        exact HZN.out j z (by omega) hz, HS4.out, HBE4.out, by have := HZ4.out; omega, HBO4.out⟩
      case measure => simp [intOf]; omega
    · have hlt' : ¬ (i : Int) < Y.length := by omega
      go_wp2_with fail
      go_end0
      exact ⟨rfl, HBE.out⟩
end Go.Proofs.YtnajccljdjllgaaDoor
set_option linter.unusedVariables false
set_option linter.unusedSimpArgs false
namespace Go.Proofs.YtnajccljdjllgaaDoor
open Go.RowKit Go.Lib
theorem Grow.trans_below {V W W' : World} (g : Grow V W) (b : Below V.heap.size W W') : Grow V W' := Below.trans g b
set_option maxRecDepth 100000 in
set_option maxHeartbeats 8000000 in
theorem tells18_walk (s : Shelf) (bv nv : Value) (x : ActS) (w : World) (h : ShelfR w s bv nv) (hI : ∀ n ∈ s.notes, ∀ y ∈ n.sheets, Wf y) (hG : ∀ n ∈ s.notes, n.tags.length ≤ 9223372036854775807) (hT : Tabs w) :
    Calls Tryd.prog 4 #[shelfV s bv nv, .agg #[.int .i64 x.d, .int .i64 x.a, .int .i64 x.b, .string x.t]] w fun e w' => e = .returned (.bool true) ∧ Grow w w' := by
  have HTB := Lib.hid hT
  obtain ⟨xa, xc, rfl⟩ := h.1.mk
  obtain ⟨ya, yc, rfl⟩ := h.2.mk
  have HRS := Lib.hid h
  have HI := Lib.hid hI
  have HGT := Lib.hid hG
  have HXX := Lib.hid (two_boxes2 w (.cells #[.int .i64 s.nb, .int .i64 s.nn, .int .i64 s.ns, .slice xa s.books.length xc, .slice ya s.notes.length yc] 28) (.cells #[.int .i64 x.d, .int .i64 x.a, .int .i64 x.b, .string x.t] 44))
  clear h hI hG hT
  unfold shelfV
  go_enter Tryd.func4, Tryd.ntmps4
  go_upto_region 1 with (fail)
  generalize hV : (w.alloc (.cells #[.int .i64 s.nb, .int .i64 s.nn, .int .i64 s.ns, .slice xa s.books.length xc, .slice ya s.notes.length yc] 28)).alloc (.cells #[.int .i64 x.d, .int .i64 x.a, .int .i64 x.b, .string x.t] 44) = U1
  have gV : Grow w U1 := by rw [← hV]; exact ((Grow.refl w).alloc _).alloc _
  have HB1 : Hid (U1.heap[w.heap.size]? = some (shO s (.slice xa s.books.length xc) (.slice ya s.notes.length yc))) := by rw [← hV]; exact Lib.hid HXX.out.1
  have HB2 : Hid (U1.heap[w.heap.size + 1]? = some (.cells #[.int .i64 x.d, .int .i64 x.a, .int .i64 x.b, .string x.t] 44 (0, 0))) := by rw [← hV]; exact Lib.hid HXX.out.2
  clear hV HXX
  have GW := Lib.hid gV
  have c := great_any s _ _ _ (HRS.out.grow gV) HGT.out
  try unfold shelfV at c
  obtain ⟨⟨p0, p1, p2, p3, p4⟩, pz⟩ := n5 HB1.out
  go_wp2_with fail
  refine c.mono ?_
  clear c p0 p1 p2 p3 p4 pz
  rintro e U2 ⟨g, r, rfl, hr⟩
  replace GW := Lib.hid (GW.out.trans g)
  replace HB1 := Lib.hid (Grow.blk g HB1.out)
  replace HB2 := Lib.hid (Grow.blk g HB2.out)
  clear g gV
  obtain ⟨⟨q0, q1, q2, q3⟩, hqz⟩ := n4 HB2.out
  cases r with
  | true =>
    clear hr
    have c := awake18_any _ (HTB.out.below GW.out)
    go_wp2_with fail
    refine c.mono ?_
    rintro e UA ⟨rfl, gA⟩
    go_wp2_with fail
    go_ret
    exact ⟨rfl, GW.out.trans gA⟩
  | false =>
    have hlow := hr rfl
    have HZ := Lib.hid (show TameS s from ⟨hlow.tame, HI.out⟩)
    clear hr hlow
    by_cases hl : 60 < x.t.size
    · have hl' : (60 : Int) < x.t.size := by omega
      have c := awake18_any _ (HTB.out.below GW.out)
      go_wp2_with fail
      refine c.mono ?_
      rintro e UA ⟨rfl, gA⟩
      go_wp2_with fail
      go_ret
      exact ⟨rfl, GW.out.trans gA⟩
    have hl' : ¬ (60 : Int) < x.t.size := by omega
    have c := copy_any s _ _ U2 (HRS.out.grow GW.out) HZ.out.1
    unfold shelfV at c
    obtain ⟨⟨p0, p1, p2, p3, p4⟩, pz⟩ := n5 HB1.out
    go_wp2_with fail
    refine c.mono ?_
    clear c p0 p1 p2 p3 p4 pz q0 q1 q2 q3 hqz
    rintro e U3 ⟨wb, wn, Yw, rfl, how, hmw, g⟩
    obtain ⟨wba, wbc, rfl, -⟩ := how.books.slice
    obtain ⟨wna, wnc, rfl, -⟩ := how.notes.slice
    have hYw : Yw.length = s.notes.length := by rw [← hmw, List.length_map]
    rw [hYw] at how ⊢
    have hrw := own_shelf how hmw
    unfold shelfV
    go_upto_region 4 with (fail)
    generalize hV : U3.alloc (.cells #[.int .i64 s.nb, .int .i64 s.nn, .int .i64 s.ns, .slice wba s.books.length wbc, .slice wna s.notes.length wnc] 28) = V
    have gV : Grow U3 V := by rw [← hV]; exact (Grow.refl U3).alloc _
    have HB3 : Hid (V.heap[U3.heap.size]? = some (shO s (.slice wba s.books.length wbc) (.slice wna s.notes.length wnc))) := by rw [← hV]; exact Lib.hid (heap_alloc_new U3 _)
    have HRW := Lib.hid (hrw.grow gV)
    replace GW := Lib.hid (GW.out.trans (g.trans gV))
    replace HB1 := Lib.hid (Grow.blk (g.trans gV) HB1.out)
    replace HB2 := Lib.hid (Grow.blk (g.trans gV) HB2.out)
    clear hV hrw how hmw hYw g gV
    obtain ⟨⟨p0, p1, p2, p3, p4⟩, pz⟩ := n5 HB1.out
    obtain ⟨⟨q0, q1, q2, q3⟩, hqz⟩ := n4 HB2.out
    obtain ⟨S, hSe⟩ : ∃ S, (act18R s x.d x.a x.b x.t).s = S := ⟨_, rfl⟩
    have HTS := Lib.hid (show TameS S by rw [← hSe]; exact act18R_tame s x.d x.a x.b x.t)
    have c := both18_any s _ _ x.d x.a x.b x.t V (HRS.out.grow GW.out) HZ.out (by omega) (HTB.out.below GW.out)
    rw [hSe] at c
    unfold shelfV at c
    clear hSe
    go_wp2_with fail
    refine c.mono ?_
    clear c p0 p1 p2 p3 p4 pz q0 q1 q2 q3 hqz
    rintro e W4 ⟨xa', xc', ya', yc', Y', rfl, ho, hm, g⟩
    go_upto_region 5 with (fail)
    generalize hV : W4.alloc (.cells #[.int .i64 S.nb, .int .i64 S.nn, .int .i64 S.ns, .slice xa' S.books.length xc', .slice ya' S.notes.length yc'] 28) = W5
    have gV : Grow W4 W5 := by rw [← hV]; exact (Grow.refl W4).alloc _
    have HB4 : Hid (W5.heap[W4.heap.size]? = some (shO S (.slice xa' S.books.length xc') (.slice ya' S.notes.length yc'))) := by rw [← hV]; exact Lib.hid (heap_alloc_new W4 _)
    have HO := Lib.hid (ho.grow gV)
    have HM := Lib.hid hm
    have HG5 := Lib.hid (g.trans gV)
    clear hV ho hm g gV
    obtain ⟨n, hn⟩ : ∃ n, sheetV s x.a x.b = n := ⟨_, rfl⟩
    obtain ⟨E, hE⟩ : ∃ E, sheetE s x.a x.b = E := ⟨_, rfl⟩
    have c := nSheet_any s _ _ x.a x.b W5 (HRS.out.grow (GW.out.trans HG5.out)) HZ.out (HTB.out.below (GW.out.trans HG5.out))
    rw [hn, hE] at c
    unfold shelfV at c
    obtain ⟨⟨p0, p1, p2, p3, p4⟩, pz⟩ := n5 (HG5.out.blk HB1.out)
    obtain ⟨⟨q0, q1, q2, q3⟩, hqz⟩ := n4 (HG5.out.blk HB2.out)
    go_wp2_with fail
    refine c.mono ?_
    clear c p0 p1 p2 p3 p4 pz q0 q1 q2 q3 hqz
    rintro e W6 ⟨rfl, g6⟩
    have HG6 := Lib.hid (HG5.out.trans g6)
    have c := refSheet_any s _ _ x.a x.b W6 (HRS.out.grow (GW.out.trans HG6.out)) HZ.out
    rw [hn, hE] at c
    unfold shelfV at c
    obtain ⟨⟨p0, p1, p2, p3, p4⟩, pz⟩ := n5 (HG6.out.blk HB1.out)
    obtain ⟨⟨q0, q1, q2, q3⟩, hqz⟩ := n4 (HG6.out.blk HB2.out)
    clear hn hE
    go_wp2_with fail
    refine c.mono ?_
    clear c p0 p1 p2 p3 p4 pz q0 q1 q2 q3 hqz
    rintro e W7 ⟨rfl, g7⟩
    have HG7 := Lib.hid (HG6.out.trans g7)
    have HO7 := Lib.hid (HO.out.grow (g6.trans g7))
    have c := overShelf_any S _ _ Y' V.heap.size W7 HO7.out HM.out HTS.out.1 HG7.out.size
    unfold shelfV at c
    obtain ⟨⟨p0, p1, p2, p3, p4⟩, pz⟩ := n5 ((g6.trans g7).blk HB4.out)
    clear g6 g7
    go_wp2_with fail
    refine c.mono ?_
    clear c p0 p1 p2 p3 p4 pz
    rintro e W8 ⟨rfl, b8⟩
    have HG8 := Lib.hid (show Grow V W8 from HG7.out.trans_below b8)
    clear b8
    have cN := numOf_any E W8
    have cS := sameShelf_any s s _ _ _ _ W8 ((HRS.out.grow GW.out).grow HG8.out) (HRW.out.grow HG8.out) HZ.out.1
    rw [rsame] at cS
    unfold shelfV at cS
    have hnn : (n == n) = true := beq_self_eq_true n
    have hee : (E == E) = true := beq_self_eq_true E
    obtain ⟨⟨p0, p1, p2, p3, p4⟩, pz⟩ := n5 (HG8.out.blk HB1.out)
    obtain ⟨⟨q0, q1, q2, q3, q4⟩, qz⟩ := n5 (HG8.out.blk HB3.out)
    go_wp2_with fail
    refine cN.mono ?_
    rintro e W9 ⟨rfl, rfl⟩
    go_wp2_with fail
    refine cS.mono ?_
    rintro e WA ⟨rfl, gA⟩
    clear cN cS p0 p1 p2 p3 p4 pz q0 q1 q2 q3 q4 qz
    have GF := Lib.hid (GW.out.trans (HG8.out.trans gA))
    have c := awake18_any _ (HTB.out.below GF.out)
    go_wp2_with fail
    refine c.mono ?_
    rintro e WB ⟨rfl, gB⟩
    go_wp2_with fail
    go_ret
    exact ⟨rfl, GF.out.trans gB⟩
theorem tells18_law (s : Shelf) (bv nv : Value) (x : ActS) (w : World) (h : ShelfArg w s bv nv) (hT : Tabs w) :
    Calls Tryd.prog 4 #[shelfV s bv nv, .agg (cellsActS x).toArray] w fun e w' => e = .returned (.bool true) ∧ Grow w w' := tells18_walk s bv nv x w h.rows h.ints h.tags hT
end Go.Proofs.YtnajccljdjllgaaDoor
