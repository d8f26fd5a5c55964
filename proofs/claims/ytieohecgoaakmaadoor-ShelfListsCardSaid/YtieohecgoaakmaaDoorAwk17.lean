/- The awake of chapter 17. -/
import Derived.Test.YtieohecgoaakmaaDoorAwakeS
set_option linter.unusedVariables false
set_option linter.unusedSimpArgs false
namespace Go.Proofs.YtieohecgoaakmaaDoor
open Go.RowKit Go.Lib
theorem tame_of (s : Shelf) (h : mayS s = true) : TameS s := (mayS_iff.1 h).tame
abbrev lit17 : List Item := [⟨2, ta⟩, ⟨1, tb⟩]
set_option maxRecDepth 100000 in
set_option maxHeartbeats 4000000 in
theorem awake17_any (w : World) (hT : Tabs w) : Calls Tryd.prog 11 #[] w fun e w' => e = .returned (.bool true) ∧ Grow w w' := by
  have GW := Lib.hid (Grow.refl w)
  have HTB := Lib.hid hT
  clear hT
  go_enter Tryd.func11, Tryd.ntmps11
  have c := empty_any w
  try unfold shelfV at c
  go_wp2_with fail
  refine c.mono ?_
  clear c
  rintro e U1 ⟨rfl, g⟩
  replace GW := Lib.hid (GW.out.trans g)
  clear g
  obtain ⟨a, hRES, hea⟩ : ∃ a, makeR eS tb = ⟨a, 1, 0⟩ ∧ a = s1 := ⟨s1, make_1, rfl⟩
  have HEA := Lib.hid hea
  clear hea
  have HRES_a := Lib.hid hRES
  have c0 := (make_any eS (.slice none 0 0) (.slice none 0 0) tb U1 ⟨Reads.nil, Reads.nil⟩ (tame_of eS may_eS) (by decide) (HTB.out.below GW.out)).mono fun _ _ => RetM.out hRES
  clear hRES
  have c := c0
  try unfold shelfV at c
  go_wp2_with fail
  refine c.mono ?_
  clear c c0
  rintro e U2 ⟨xa_a, xc_a, ya_a, yc_a, g, rfl, hr⟩
  go_upto_region 2 with (fail)
  generalize hV : U2.alloc (.cells #[.int .i64 a.nb, .int .i64 a.nn, .int .i64 a.ns, .slice xa_a a.books.length xc_a, .slice ya_a a.notes.length yc_a] 25) = U3
  have gV : Grow U2 U3 := by rw [← hV]; exact (Grow.refl U2).alloc _
  have HB_a : Hid (U3.heap[U2.heap.size]? = some (.cells #[.int .i64 a.nb, .int .i64 a.nn, .int .i64 a.ns, .slice xa_a a.books.length xc_a, .slice ya_a a.notes.length yc_a] 25 (0, 0))) := by rw [← hV]; exact Lib.hid (heap_alloc_new U2 _)
  clear hV
  replace GW := Lib.hid (GW.out.trans (g.trans gV))
  have HR_a := Lib.hid (ShelfR.grow hr gV)
  clear hr g gV
  obtain ⟨b, hRES, heb⟩ : ∃ b, makeR a ta = ⟨b, 2, 0⟩ ∧ b = s2 := ⟨s2, by rw [HEA.out]; exact make_2, rfl⟩
  have HEB := Lib.hid heb
  clear heb
  have HRES_b := Lib.hid hRES
  have c0 := (make_any a _ _ ta _ HR_a.out (by rw [HEA.out]; exact tame_of s1 may_s1) (by decide) (HTB.out.below GW.out)).mono fun _ _ => RetM.out hRES
  clear hRES
  have c := c0
  try unfold shelfV at c
  obtain ⟨⟨p0, p1, p2, p3, p4⟩, pz⟩ := n5 HB_a.out
  go_wp2_with fail
  refine c.mono ?_
  clear c c0
  clear p0 p1 p2 p3 p4 pz
  rintro e U4 ⟨xa_b, xc_b, ya_b, yc_b, g, rfl, hr⟩
  go_upto_region 3 with (fail)
  generalize hV : U4.alloc (.cells #[.int .i64 b.nb, .int .i64 b.nn, .int .i64 b.ns, .slice xa_b b.books.length xc_b, .slice ya_b b.notes.length yc_b] 25) = U5
  have gV : Grow U4 U5 := by rw [← hV]; exact (Grow.refl U4).alloc _
  have HB_b : Hid (U5.heap[U4.heap.size]? = some (.cells #[.int .i64 b.nb, .int .i64 b.nn, .int .i64 b.ns, .slice xa_b b.books.length xc_b, .slice ya_b b.notes.length yc_b] 25 (0, 0))) := by rw [← hV]; exact Lib.hid (heap_alloc_new U4 _)
  clear hV
  replace GW := Lib.hid (GW.out.trans (g.trans gV))
  replace HR_a := Lib.hid (HR_a.out.grow (g.trans gV))
  replace HB_a := Lib.hid (Grow.blk (g.trans gV) HB_a.out)
  have HR_b := Lib.hid (ShelfR.grow hr gV)
  clear hr g gV
  obtain ⟨z, hRES⟩ : ∃ z, makeR b ta = ⟨z, 0, 7⟩ := ⟨zS, by rw [HEB.out]; exact make_3⟩
  have HRES_z := Lib.hid hRES
  have c0 := (make_any b _ _ ta _ HR_b.out (by rw [HEB.out]; exact tame_of s2 may_s2) (by decide) (HTB.out.below GW.out)).mono fun _ _ => RetM.out hRES
  clear hRES
  have c := c0
  try unfold shelfV at c
  obtain ⟨⟨p0, p1, p2, p3, p4⟩, pz⟩ := n5 HB_b.out
  go_wp2_with fail
  refine c.mono ?_
  clear c c0
  clear p0 p1 p2 p3 p4 pz
  rintro e U6 ⟨xa_z, xc_z, ya_z, yc_z, g, rfl, hr⟩
  go_upto_region 4 with (fail)
  generalize hV : U6.alloc (.cells #[.int .i64 z.nb, .int .i64 z.nn, .int .i64 z.ns, .slice xa_z z.books.length xc_z, .slice ya_z z.notes.length yc_z] 25) = U7
  have gV : Grow U6 U7 := by rw [← hV]; exact (Grow.refl U6).alloc _
  have HB_z : Hid (U7.heap[U6.heap.size]? = some (.cells #[.int .i64 z.nb, .int .i64 z.nn, .int .i64 z.ns, .slice xa_z z.books.length xc_z, .slice ya_z z.notes.length yc_z] 25 (0, 0))) := by rw [← hV]; exact Lib.hid (heap_alloc_new U6 _)
  clear hV
  replace GW := Lib.hid (GW.out.trans (g.trans gV))
  replace HR_a := Lib.hid (HR_a.out.grow (g.trans gV))
  replace HB_a := Lib.hid (Grow.blk (g.trans gV) HB_a.out)
  replace HR_b := Lib.hid (HR_b.out.grow (g.trans gV))
  replace HB_b := Lib.hid (Grow.blk (g.trans gV) HB_b.out)
  have HR_z := Lib.hid (ShelfR.grow hr gV)
  clear hr g gV
  have c := books_any b _ _ _ HR_b.out (by rw [HEB.out]; exact tame_of s2 may_s2) (HTB.out.below GW.out)
  try unfold shelfV at c
  obtain ⟨⟨p0, p1, p2, p3, p4⟩, pz⟩ := n5 HB_b.out
  go_wp2_with fail
  refine c.mono ?_
  clear c
  clear p0 p1 p2 p3 p4 pz
  rintro e U8 ⟨v, rfl, g, hr⟩
  replace GW := Lib.hid (GW.out.trans g)
  replace HR_a := Lib.hid (HR_a.out.grow g)
  replace HB_a := Lib.hid (Grow.blk g HB_a.out)
  replace HR_b := Lib.hid (HR_b.out.grow g)
  replace HB_b := Lib.hid (Grow.blk g HB_b.out)
  replace HR_z := Lib.hid (HR_z.out.grow g)
  replace HB_z := Lib.hid (Grow.blk g HB_z.out)
  rw [HEB.out, books_2] at hr
  obtain ⟨xa, xc, ev, -⟩ := hr.slice
  subst ev
  have hri := row_items hr
  have c := sameItems_any _ _ lit17 lit17 _ (Items.grow hri ((Grow.refl _).alloc _)) (lit_reads itemC (fun _ => rfl) U8 lit17 34 (fun x => rfl)) (by decide)
  rw [same_yes rfl] at c
  obtain ⟨⟨p0, p1, p2, p3, p4⟩, pz⟩ := n5 HB_b.out
  go_wp2_with fail
  refine c.mono ?_
  clear c p0 p1 p2 p3 p4 pz
  rintro e UX ⟨rfl, gX⟩
  replace GW := Lib.hid (GW.out.trans (((Grow.refl _).alloc _).trans gX))
  replace HR_a := Lib.hid (HR_a.out.grow (((Grow.refl _).alloc _).trans gX))
  replace HB_a := Lib.hid (Grow.blk (((Grow.refl _).alloc _).trans gX) HB_a.out)
  replace HR_b := Lib.hid (HR_b.out.grow (((Grow.refl _).alloc _).trans gX))
  replace HB_b := Lib.hid (Grow.blk (((Grow.refl _).alloc _).trans gX) HB_b.out)
  replace HR_z := Lib.hid (HR_z.out.grow (((Grow.refl _).alloc _).trans gX))
  replace HB_z := Lib.hid (Grow.blk (((Grow.refl _).alloc _).trans gX) HB_z.out)
  have c := mayS_any b _ _ _ HR_b.out (by rw [HEB.out]; exact tame_of s2 may_s2) (HTB.out.below GW.out)
  try unfold shelfV at c
  obtain ⟨⟨p0, p1, p2, p3, p4⟩, pz⟩ := n5 HB_b.out
  rw [show mayS b = true by rw [HEB.out]; exact may_s2] at c
  go_wp2_with fail
  refine c.mono ?_
  clear c
  clear p0 p1 p2 p3 p4 pz
  rintro e U9 ⟨rfl, g2⟩
  replace GW := Lib.hid (GW.out.trans g2)
  replace HR_a := Lib.hid (HR_a.out.grow g2)
  replace HB_a := Lib.hid (Grow.blk g2 HB_a.out)
  replace HR_b := Lib.hid (HR_b.out.grow g2)
  replace HB_b := Lib.hid (Grow.blk g2 HB_b.out)
  replace HR_z := Lib.hid (HR_z.out.grow g2)
  replace HB_z := Lib.hid (Grow.blk g2 HB_z.out)
  go_wp2_with fail
  go_ret
  exact ⟨rfl, GW.out⟩
end Go.Proofs.YtieohecgoaakmaaDoor
