/- The awake of chapter 18. -/
import Derived.Test.YtieohecgoaakmaaDoorAwkB
set_option linter.unusedVariables false
set_option linter.unusedSimpArgs false
namespace Go.Proofs.YtieohecgoaakmaaDoor
open Go.RowKit Go.Lib
theorem tame18 (s : Shelf) (h : mayS s = true) : TameS s := (mayS_iff.1 h).tame
set_option maxRecDepth 100000 in
set_option maxHeartbeats 4000000 in
theorem awake18_any (w : World) (hT : Tabs w) : Calls Tryd.prog 21 #[] w fun e w' => e = .returned (.bool true) ∧ Grow w w' := by
  have GW := Lib.hid (Grow.refl w)
  have HTB := Lib.hid hT
  clear hT
  go_enter Tryd.func21, Tryd.ntmps21
  have c := one_any w
  try unfold shelfV at c
  go_wp2_with fail
  refine c.mono ?_
  clear c
  rintro e U1 ⟨xa_o, xc_o, ya_o, yc_o, g, rfl, hr⟩
  replace GW := Lib.hid (GW.out.trans g)
  have HR_o := Lib.hid hr
  clear hr g
  obtain ⟨a, hRES, hea⟩ : ∃ q, appendR o1 1 = ⟨q, 1, 0⟩ ∧ q = o2 := ⟨o2, app_1, rfl⟩
  have HEa := Lib.hid hea
  clear hea
  have HRES_a := Lib.hid hRES
  have c0 := (append_any o1 _ _ 1 _ HR_o.out (tame18 o1 may_o1) (HTB.out.below GW.out)).mono fun _ _ => RetM.out hRES
  clear hRES
  have c := c0
  try unfold shelfV at c
  go_wp2_with fail
  refine c.mono ?_
  clear c c0
  rintro e U2 ⟨xa_a, xc_a, ya_a, yc_a, g, rfl, hr⟩
  go_upto_region 2 with (fail)
  generalize hV : U2.alloc (.cells #[.int .i64 a.nb, .int .i64 a.nn, .int .i64 a.ns, .slice xa_a a.books.length xc_a, .slice ya_a a.notes.length yc_a] 25) = U3
  have gV : Grow U2 U3 := by rw [← hV]; exact (Grow.refl U2).alloc _
  have HB_a : Hid (U3.heap[U2.heap.size]? = some (.cells #[.int .i64 a.nb, .int .i64 a.nn, .int .i64 a.ns, .slice xa_a a.books.length xc_a, .slice ya_a a.notes.length yc_a] 25 (0, 0))) := by rw [← hV]; exact Lib.hid (heap_alloc_new U2 _)
  clear hV
  replace GW := Lib.hid (GW.out.trans (g.trans gV))
  have HR_a := Lib.hid (ShelfR.grow hr gV)
  clear hr g gV
  clear HR_o
  obtain ⟨b, hRES, hea⟩ : ∃ q, appendR a 1 = ⟨q, 2, 0⟩ ∧ q = o3 := ⟨o3, by rw [HEa.out]; exact app_2, rfl⟩
  have HEb := Lib.hid hea
  clear hea
  have HRES_b := Lib.hid hRES
  have c0 := (append_any a _ _ 1 _ HR_a.out (by rw [HEa.out]; exact tame18 o2 may_o2) (HTB.out.below GW.out)).mono fun _ _ => RetM.out hRES
  clear hRES
  have c := c0
  try unfold shelfV at c
  obtain ⟨⟨p0, p1, p2, p3, p4⟩, pz⟩ := n5 HB_a.out
  go_wp2_with fail
  refine c.mono ?_
  clear c c0
  clear p0 p1 p2 p3 p4 pz
  rintro e U4 ⟨xa_b, xc_b, ya_b, yc_b, g, rfl, hr⟩
  go_upto_region 3 with (fail)
  generalize hV : U4.alloc (.cells #[.int .i64 b.nb, .int .i64 b.nn, .int .i64 b.ns, .slice xa_b b.books.length xc_b, .slice ya_b b.notes.length yc_b] 25) = U5
  have gV : Grow U4 U5 := by rw [← hV]; exact (Grow.refl U4).alloc _
  have HB_b : Hid (U5.heap[U4.heap.size]? = some (.cells #[.int .i64 b.nb, .int .i64 b.nn, .int .i64 b.ns, .slice xa_b b.books.length xc_b, .slice ya_b b.notes.length yc_b] 25 (0, 0))) := by rw [← hV]; exact Lib.hid (heap_alloc_new U4 _)
  clear hV
  replace GW := Lib.hid (GW.out.trans (g.trans gV))
  replace HR_a := Lib.hid (HR_a.out.grow (g.trans gV))
  replace HB_a := Lib.hid (Grow.blk (g.trans gV) HB_a.out)
  have HR_b := Lib.hid (ShelfR.grow hr gV)
  clear hr g gV
  obtain ⟨u, hRES, hea⟩ : ∃ q, removeR b 1 0 = ⟨q, 1, 0⟩ ∧ q = o4 := ⟨o4, by rw [HEb.out]; exact rem_3, rfl⟩
  have HEu := Lib.hid hea
  clear hea
  have HRES_u := Lib.hid hRES
  have c0 := (remove_any b _ _ 1 0 _ HR_b.out (by rw [HEb.out]; exact tame18 o3 may_o3) (HTB.out.below GW.out)).mono fun _ _ => RetM.out hRES
  clear hRES
  have c := c0
  try unfold shelfV at c
  obtain ⟨⟨p0, p1, p2, p3, p4⟩, pz⟩ := n5 HB_b.out
  go_wp2_with fail
  refine c.mono ?_
  clear c c0
  clear p0 p1 p2 p3 p4 pz
  rintro e U6 ⟨xa_u, xc_u, ya_u, yc_u, g, rfl, hr⟩
  go_upto_region 4 with (fail)
  generalize hV : U6.alloc (.cells #[.int .i64 u.nb, .int .i64 u.nn, .int .i64 u.ns, .slice xa_u u.books.length xc_u, .slice ya_u u.notes.length yc_u] 25) = U7
  have gV : Grow U6 U7 := by rw [← hV]; exact (Grow.refl U6).alloc _
  have HB_u : Hid (U7.heap[U6.heap.size]? = some (.cells #[.int .i64 u.nb, .int .i64 u.nn, .int .i64 u.ns, .slice xa_u u.books.length xc_u, .slice ya_u u.notes.length yc_u] 25 (0, 0))) := by rw [← hV]; exact Lib.hid (heap_alloc_new U6 _)
  clear hV
  replace GW := Lib.hid (GW.out.trans (g.trans gV))
  replace HR_a := Lib.hid (HR_a.out.grow (g.trans gV))
  replace HB_a := Lib.hid (Grow.blk (g.trans gV) HB_a.out)
  replace HR_b := Lib.hid (HR_b.out.grow (g.trans gV))
  replace HB_b := Lib.hid (Grow.blk (g.trans gV) HB_b.out)
  have HR_u := Lib.hid (ShelfR.grow hr gV)
  clear hr g gV
  have c := nSheet_any u _ _ 1 0 _ HR_u.out (by rw [HEu.out]; exact tame18 o4 may_o4) (HTB.out.below GW.out)
  try unfold shelfV at c
  obtain ⟨⟨p0, p1, p2, p3, p4⟩, pz⟩ := n5 HB_u.out
  rw [show sheetV u 1 0 = 2 by rw [HEu.out]; exact she_4.2, show sheetE u 1 0 = 0 by rw [HEu.out]; exact she_4.1] at c
  go_wp2_with fail
  refine c.mono ?_
  clear c
  clear p0 p1 p2 p3 p4 pz
  rintro e U8 ⟨rfl, g⟩
  replace GW := Lib.hid (GW.out.trans g)
  replace HR_a := Lib.hid (HR_a.out.grow g)
  replace HB_a := Lib.hid (Grow.blk g HB_a.out)
  replace HR_b := Lib.hid (HR_b.out.grow g)
  replace HB_b := Lib.hid (Grow.blk g HB_b.out)
  replace HR_u := Lib.hid (HR_u.out.grow g)
  replace HB_u := Lib.hid (Grow.blk g HB_u.out)
  clear g
  have c := one_any U8
  try unfold shelfV at c
  go_wp2_with fail
  refine c.mono ?_
  clear c
  rintro e U9 ⟨xa_q, xc_q, ya_q, yc_q, g, rfl, hr⟩
  replace GW := Lib.hid (GW.out.trans g)
  replace HR_a := Lib.hid (HR_a.out.grow g)
  replace HB_a := Lib.hid (Grow.blk g HB_a.out)
  replace HR_b := Lib.hid (HR_b.out.grow g)
  replace HB_b := Lib.hid (Grow.blk g HB_b.out)
  replace HR_u := Lib.hid (HR_u.out.grow g)
  replace HB_u := Lib.hid (Grow.blk g HB_u.out)
  have HR_q := Lib.hid hr
  clear hr g
  obtain ⟨v, hRES, hea⟩ : ∃ q, tagR o1 1 tnX = ⟨q, 0, 0⟩ ∧ q = o5 := ⟨o5, tag_1, rfl⟩
  have HEv := Lib.hid hea
  clear hea
  have HRES_v := Lib.hid hRES
  have c0 := (tag_any o1 _ _ 1 tnX _ HR_q.out (tame18 o1 may_o1) (by decide) (HTB.out.below GW.out)).mono fun _ _ => RetC.out hRES
  clear hRES
  have c := c0
  try unfold shelfV at c
  go_wp2_with fail
  refine c.mono ?_
  clear c c0
  rintro e U10 ⟨xa_v, xc_v, ya_v, yc_v, g, rfl, hr⟩
  go_upto_region 6 with (fail)
  generalize hV : U10.alloc (.cells #[.int .i64 v.nb, .int .i64 v.nn, .int .i64 v.ns, .slice xa_v v.books.length xc_v, .slice ya_v v.notes.length yc_v] 25) = U11
  have gV : Grow U10 U11 := by rw [← hV]; exact (Grow.refl U10).alloc _
  have HB_v : Hid (U11.heap[U10.heap.size]? = some (.cells #[.int .i64 v.nb, .int .i64 v.nn, .int .i64 v.ns, .slice xa_v v.books.length xc_v, .slice ya_v v.notes.length yc_v] 25 (0, 0))) := by rw [← hV]; exact Lib.hid (heap_alloc_new U10 _)
  clear hV
  replace GW := Lib.hid (GW.out.trans (g.trans gV))
  replace HR_a := Lib.hid (HR_a.out.grow (g.trans gV))
  replace HB_a := Lib.hid (Grow.blk (g.trans gV) HB_a.out)
  replace HR_b := Lib.hid (HR_b.out.grow (g.trans gV))
  replace HB_b := Lib.hid (Grow.blk (g.trans gV) HB_b.out)
  replace HR_u := Lib.hid (HR_u.out.grow (g.trans gV))
  replace HB_u := Lib.hid (Grow.blk (g.trans gV) HB_u.out)
  have HR_v := Lib.hid (ShelfR.grow hr gV)
  clear hr g gV
  have hv0 : v.notes[0]? = some ⟨1, 1, tnN, [tnX], []⟩ := by rw [HEv.out]; rfl
  have hvl : v.notes.length = 1 := by rw [HEv.out]; rfl
  obtain ⟨nb, off, tv, sv, ea, hnb, -, -, -, n3, -, htv, -⟩ := Notes.at HR_v.out.2 hv0
  obtain ⟨tva, tvc, etv⟩ := htv.mk
  subst ea etv
  have n3' : U11.cell? ⟨nb, off + 3, none⟩ = some (.slice tva 1 tvc) := by simpa using n3
  have htv' : Texts U11 (.slice tva 1 tvc) [tnX] := htv
  have c := sameTexts_any _ _ [tnX] [tnX] _ (Texts.grow htv' ((Grow.refl _).alloc _)) (show Texts (U11.alloc (.cells #[.string tnX] 9)) (.slice (some ⟨U11.heap.size, 0, none⟩) 1 1) [tnX] from lit_reads (fun t : ByteArray => [Value.string t]) (fun _ => rfl) U11 [tnX] 9 (fun x => rfl)) (by decide)
  rw [same_yes rfl] at c
  rw [hvl] at HB_v
  clear n3 htv htv' hv0 hvl
  obtain ⟨⟨p0, p1, p2, p3, p4⟩, pz⟩ := n5 HB_v.out
  go_wp2_with fail
  refine c.mono ?_
  clear c
  rintro e UX ⟨rfl, gX⟩
  have GX := ((GW.out).alloc (.cells #[.string tnX] 9)).trans gX
  go_wp2_with fail
  go_ret
  exact ⟨rfl, GX⟩
end Go.Proofs.YtieohecgoaakmaaDoor
