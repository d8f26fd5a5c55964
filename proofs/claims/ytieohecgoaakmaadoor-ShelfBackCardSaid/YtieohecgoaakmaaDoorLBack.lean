/- The walk of the law ShelfBack. -/
import Derived.Test.YtieohecgoaakmaaDoorPBack
import Derived.Test.YtieohecgoaakmaaDoorAwk17
import Derived.Test.YtieohecgoaakmaaDoorCRename
import Derived.Test.YtieohecgoaakmaaDoorCDrop
import Derived.Test.YtieohecgoaakmaaDoorCMove
import Derived.Test.YtieohecgoaakmaaDoorOpen
set_option linter.unusedVariables false
set_option linter.unusedSimpArgs false
namespace Go.Proofs.YtieohecgoaakmaaDoor
open Go.RowKit Go.Lib
set_option maxRecDepth 100000 in
set_option maxHeartbeats 8000000 in
theorem back17_walk (s : Shelf) (bv nv : Value) (t o : ByteArray) (id q : Int) (w : World) (h : ShelfR w s bv nv) (hI : ∀ n ∈ s.notes, ∀ y ∈ n.sheets, Wf y) (hG : ∀ n ∈ s.notes, n.tags.length ≤ 9223372036854775807) (hT : Tabs w) :
    Calls Tryd.prog 5 #[shelfV s bv nv, .string t, .string o, .int .i64 id, .int .i64 q] w fun e w' => e = .returned (.bool true) ∧ Grow w w' := by
  have GW := Lib.hid (Grow.refl w)
  have HTB := Lib.hid hT
  obtain ⟨xa_s, xc_s, rfl⟩ := h.1.mk
  obtain ⟨ya_s, yc_s, rfl⟩ := h.2.mk
  have HR_s := Lib.hid h
  have HG_s := Lib.hid (Grow.refl w)
  have HI := Lib.hid hI
  have HGT := Lib.hid hG
  clear h hI hG hT
  unfold shelfV
  go_enter Tryd.func5, Tryd.ntmps5
  go_upto_region 1 with (fail)
  generalize hV : w.alloc (.cells #[.int .i64 s.nb, .int .i64 s.nn, .int .i64 s.ns, .slice xa_s s.books.length xc_s, .slice ya_s s.notes.length yc_s] 25) = U1
  have gV : Grow w U1 := by rw [← hV]; exact (Grow.refl w).alloc _
  have HB_s : Hid (U1.heap[w.heap.size]? = some (.cells #[.int .i64 s.nb, .int .i64 s.nn, .int .i64 s.ns, .slice xa_s s.books.length xc_s, .slice ya_s s.notes.length yc_s] 25 (0, 0))) := by rw [← hV]; exact Lib.hid (heap_alloc_new w _)
  clear hV
  replace GW := Lib.hid gV
  replace HG_s := Lib.hid gV
  clear gV
  have c := great_any s _ _ _ (HR_s.out.grow HG_s.out) HGT.out
  try unfold shelfV at c
  obtain ⟨⟨p0, p1, p2, p3, p4⟩, pz⟩ := n5 HB_s.out
  go_wp2_with fail
  refine c.mono ?_
  clear c
  clear p0 p1 p2 p3 p4 pz
  rintro e U2 ⟨g, r, rfl, hr⟩
  replace GW := Lib.hid (GW.out.trans g)
  replace HG_s := Lib.hid (HG_s.out.trans g)
  replace HB_s := Lib.hid (Grow.blk g HB_s.out)
  clear g
  cases r with
  | true =>
    clear hr
    have c := awake17_any _ (HTB.out.below GW.out)
    go_wp2_with fail
    refine c.mono ?_
    rintro e UA ⟨rfl, gA⟩
    go_wp2_with fail
    go_ret
    exact ⟨rfl, GW.out.trans gA⟩
  | false =>
    have hlow := hr rfl
    have HZ := Lib.hid (show TameS s from ⟨hlow.tame, HI.out⟩)
    have HLOW := Lib.hid hlow
    clear hr hlow
    by_cases hl_t : 60 < t.size
    · have hl2 : (60 : Int) < t.size := by omega
      have c := awake17_any _ (HTB.out.below GW.out)
      go_wp2_with fail
      refine c.mono ?_
      rintro e UA ⟨rfl, gA⟩
      go_wp2_with fail
      go_ret
      exact ⟨rfl, GW.out.trans gA⟩
    have hl2_t : ¬ (60 : Int) < t.size := by omega
    by_cases hl_o : 60 < o.size
    · have hl2 : (60 : Int) < o.size := by omega
      have c := awake17_any _ (HTB.out.below GW.out)
      go_wp2_with fail
      refine c.mono ?_
      rintro e UA ⟨rfl, gA⟩
      go_wp2_with fail
      go_ret
      exact ⟨rfl, GW.out.trans gA⟩
    have hl2_o : ¬ (60 : Int) < o.size := by omega
    cases hm : mayS s with
    | false =>
      have c := mayS_any s _ _ _ (HR_s.out.grow HG_s.out) HZ.out (HTB.out.below GW.out)
      try unfold shelfV at c
      obtain ⟨⟨p0, p1, p2, p3, p4⟩, pz⟩ := n5 HB_s.out
      rw [hm] at c
      go_wp2_with fail
      refine c.mono ?_
      clear c
      clear p0 p1 p2 p3 p4 pz
      rintro e U3 ⟨rfl, g⟩
      replace GW := Lib.hid (GW.out.trans g)
      replace HG_s := Lib.hid (HG_s.out.trans g)
      replace HB_s := Lib.hid (Grow.blk g HB_s.out)
      have c := awake17_any _ (HTB.out.below GW.out)
      go_wp2_with fail
      refine c.mono ?_
      rintro e UA ⟨rfl, gA⟩
      go_wp2_with fail
      go_ret
      exact ⟨rfl, GW.out.trans gA⟩
    | true =>
      have c := mayS_any s _ _ _ (HR_s.out.grow HG_s.out) HZ.out (HTB.out.below GW.out)
      try unfold shelfV at c
      obtain ⟨⟨p0, p1, p2, p3, p4⟩, pz⟩ := n5 HB_s.out
      rw [hm] at c
      go_wp2_with fail
      refine c.mono ?_
      clear c
      clear p0 p1 p2 p3 p4 pz
      rintro e U3 ⟨rfl, g⟩
      replace GW := Lib.hid (GW.out.trans g)
      replace HG_s := Lib.hid (HG_s.out.trans g)
      replace HB_s := Lib.hid (Grow.blk g HB_s.out)
      have HMY := Lib.hid hm
      have HP := Lib.hid (mayS_iff.1 hm)
      clear hm g
      have hE0 := make_tame s t
      obtain ⟨a, na, ea, hra⟩ : ∃ a n e, makeR s t = ⟨a, n, e⟩ := ⟨_, _, _, rfl⟩
      have hta := hE0
      rw [hra] at hta
      have HTA := Lib.hid hta
      have HRA := Lib.hid hra
      have hee : makeE s t = ea := by have := resOf_e (makeE s t) { s with nb := s.nb + 1, books := s.books ++ [⟨s.nb, t⟩] } s.nb; rw [← this]; exact congrArg Res.e hra
      have HEE := Lib.hid hee
      clear hE0 hta hra hee
      have hRES : makeR s t = ⟨a, na, ea⟩ := HRA.out
      have HRES_a := Lib.hid hRES
      have c0 := (make_any s _ _ t _ (HR_s.out.grow HG_s.out) HZ.out (by omega) (HTB.out.below GW.out)).mono fun _ _ => RetM.out hRES
      clear hRES
      have c := c0
      try unfold shelfV at c
      obtain ⟨⟨p0, p1, p2, p3, p4⟩, pz⟩ := n5 HB_s.out
      go_wp2_with fail
      refine c.mono ?_
      clear c c0
      clear p0 p1 p2 p3 p4 pz
      rintro e U4 ⟨xa_a, xc_a, ya_a, yc_a, g, rfl, hr⟩
      replace GW := Lib.hid (GW.out.trans g)
      replace HG_s := Lib.hid (HG_s.out.trans g)
      replace HB_s := Lib.hid (Grow.blk g HB_s.out)
      have HL_a_s := Lib.hid HG_s.out.size
      have HM_a_s := Lib.hid (Array.getElem?_eq_some_iff.1 HB_s.out).1
      have HW_a := Lib.hid GW.out.size
      go_upto_region 4 with (fail)
      generalize hV : U4.alloc (.cells #[.int .i64 a.nb, .int .i64 a.nn, .int .i64 a.ns, .slice xa_a a.books.length xc_a, .slice ya_a a.notes.length yc_a] 25) = U5
      have gV : Grow U4 U5 := by rw [← hV]; exact (Grow.refl U4).alloc _
      have HB_a : Hid (U5.heap[U4.heap.size]? = some (.cells #[.int .i64 a.nb, .int .i64 a.nn, .int .i64 a.ns, .slice xa_a a.books.length xc_a, .slice ya_a a.notes.length yc_a] 25 (0, 0))) := by rw [← hV]; exact Lib.hid (heap_alloc_new U4 _)
      clear hV
      replace GW := Lib.hid (GW.out.trans gV)
      replace HG_s := Lib.hid (HG_s.out.trans gV)
      replace HB_s := Lib.hid (Grow.blk gV HB_s.out)
      have HG_a := Lib.hid gV
      have HR_a := Lib.hid hr
      clear hr g gV
      go_upto_if 52 with (fail)
      go_cut [] (fun wx => Grow U5 wx)
      case first =>
        have GU := Lib.hid (Grow.refl U5)
        by_cases he0 : ea = 0
        · subst he0
          obtain rfl : na = s.nb := by have := HRA.out; rw [make_s HEE.out] at this; exact (congrArg Res.n this).symm
          have hda := drop_back HEE.out
          rw [HRA.out] at hda
          obtain ⟨b, hb⟩ : ∃ b, b = ({ s with nb := s.nb + 1 } : Shelf) := ⟨_, rfl⟩
          rw [← hb] at hda
          have HEB := Lib.hid hb
          have HDA := Lib.hid hda
          have htb := drop_tame a s.nb
          rw [show dropR a s.nb = ⟨b, 0, 0⟩ from hda] at htb
          have HTBB := Lib.hid htb
          clear hb hda htb
          have hRES : dropR a s.nb = ⟨b, 0, 0⟩ := HDA.out
          have HRES_b := Lib.hid hRES
          have c0 := (drop_any a _ _ s.nb _ (HR_a.out.grow HG_a.out) HTA.out (HTB.out.below GW.out)).mono fun _ _ => RetC.out hRES
          clear hRES
          have c := c0
          try unfold shelfV at c
          obtain ⟨⟨p0, p1, p2, p3, p4⟩, pz⟩ := n5 HB_a.out
          go_wp2_with fail
          refine c.mono ?_
          clear c c0
          clear p0 p1 p2 p3 p4 pz
          rintro e U6 ⟨xa_b, xc_b, ya_b, yc_b, g, rfl, hr⟩
          replace GW := Lib.hid (GW.out.trans g)
          replace HG_s := Lib.hid (HG_s.out.trans g)
          replace HB_s := Lib.hid (Grow.blk g HB_s.out)
          replace HG_a := Lib.hid (HG_a.out.trans g)
          replace HB_a := Lib.hid (Grow.blk g HB_a.out)
          replace GU := Lib.hid (GU.out.trans g)
          have HL_b_s := Lib.hid HG_s.out.size
          have HM_b_s := Lib.hid (Array.getElem?_eq_some_iff.1 HB_s.out).1
          have HL_b_a := Lib.hid HG_a.out.size
          have HM_b_a := Lib.hid (Array.getElem?_eq_some_iff.1 HB_a.out).1
          have HL_b_GU := Lib.hid GU.out.size
          have HW_b := Lib.hid GW.out.size
          go_upto_region 6 with (fail)
          generalize hV : U6.alloc (.cells #[.int .i64 b.nb, .int .i64 b.nn, .int .i64 b.ns, .slice xa_b b.books.length xc_b, .slice ya_b b.notes.length yc_b] 25) = U7
          have gV : Grow U6 U7 := by rw [← hV]; exact (Grow.refl U6).alloc _
          have HB_b : Hid (U7.heap[U6.heap.size]? = some (.cells #[.int .i64 b.nb, .int .i64 b.nn, .int .i64 b.ns, .slice xa_b b.books.length xc_b, .slice ya_b b.notes.length yc_b] 25 (0, 0))) := by rw [← hV]; exact Lib.hid (heap_alloc_new U6 _)
          clear hV
          replace GW := Lib.hid (GW.out.trans gV)
          replace HG_s := Lib.hid (HG_s.out.trans gV)
          replace HB_s := Lib.hid (Grow.blk gV HB_s.out)
          replace HG_a := Lib.hid (HG_a.out.trans gV)
          replace HB_a := Lib.hid (Grow.blk gV HB_a.out)
          replace GU := Lib.hid (GU.out.trans gV)
          have HG_b := Lib.hid gV
          have HR_b := Lib.hid hr
          clear hr g gV
          obtain ⟨⟨p0, p1, p2, p3, p4⟩, pz⟩ := n5 HB_s.out
          obtain ⟨⟨q0, q1, q2, q3, q4⟩, qz⟩ := n5 HB_b.out
          have hbf := frozen_of_row U7 _ 0 _ _ HB_b.out
          go_upto_region 7 with (fail)
          have hT := turned_cell U7 U6.heap.size 0 (.int .i64 s.nb)
          have hB : (U7.setCell ⟨U6.heap.size, 0, none⟩ (.int .i64 s.nb)).heap[U6.heap.size]? = some (.cells #[.int .i64 s.nb, .int .i64 b.nn, .int .i64 b.ns, .slice xa_b b.books.length xc_b, .slice ya_b b.notes.length yc_b] 25 (0, 0)) := heap_setCell_same U7 U6.heap.size 0 _ _ (.int .i64 s.nb) HB_b.out
          replace GU := Lib.hid (hT.grow GU.out HL_b_GU.out)
          replace GW := Lib.hid (hT.grow GW.out HW_b.out)
          replace HG_s := Lib.hid (hT.grow HG_s.out HL_b_s.out)
          replace HB_s := Lib.hid ((hT.block _ (Nat.lt_of_lt_of_le HM_b_s.out (Nat.le_of_lt (Array.getElem?_eq_some_iff.1 HB_b.out).1)) (Nat.ne_of_lt HM_b_s.out)).trans HB_s.out)
          replace HG_a := Lib.hid (hT.grow HG_a.out HL_b_a.out)
          replace HB_a := Lib.hid ((hT.block _ (Nat.lt_of_lt_of_le HM_b_a.out (Nat.le_of_lt (Array.getElem?_eq_some_iff.1 HB_b.out).1)) (Nat.ne_of_lt HM_b_a.out)).trans HB_a.out)
          replace HG_b := Lib.hid (hT.grow HG_b.out (Nat.le_refl _))
          replace HB_b := Lib.hid hB
          clear hT hB
          generalize U7.setCell ⟨U6.heap.size, 0, none⟩ (.int .i64 s.nb) = U8 at *
          clear hbf p0 p1 p2 p3 p4 q0 q1 q2 q3 q4 pz qz
          by_cases hrn : renameE a s.nb o = 0
          · have hcb := rename_back HEE.out (by rw [HRA.out]; exact hrn)
            rw [HRA.out] at hcb
            obtain ⟨c', hc'⟩ : ∃ c', renameR a s.nb o = ⟨c', 0, 0⟩ := ⟨_, rename_s hrn⟩
            have htc := rename_tame a s.nb o
            rw [hc'] at hcb htc
            obtain ⟨d', hd'⟩ : ∃ d', d' = a := ⟨_, rfl⟩
            rw [show (⟨(⟨a, s.nb, 0⟩ : Res).s, 0, 0⟩ : Res) = ⟨d', 0, 0⟩ by rw [hd']] at hcb
            have HC1 := Lib.hid hc'
            have HC2 := Lib.hid hcb
            have HTC := Lib.hid htc
            have HED := Lib.hid hd'
            clear hc' hcb htc hd' hrn
            have hRES : renameR a s.nb o = ⟨c', 0, 0⟩ := HC1.out
            have HRES_c' := Lib.hid hRES
            have c0 := (rename_any a _ _ s.nb o _ (HR_a.out.grow HG_a.out) HTA.out (by omega) (HTB.out.below GW.out)).mono fun _ _ => RetC.out hRES
            clear hRES
            have c := c0
            try unfold shelfV at c
            obtain ⟨⟨p0, p1, p2, p3, p4⟩, pz⟩ := n5 HB_a.out
            go_wp2_with fail
            refine c.mono ?_
            clear c c0
            clear p0 p1 p2 p3 p4 pz
            rintro e U9 ⟨xa_c', xc_c', ya_c', yc_c', g, rfl, hr⟩
            replace GW := Lib.hid (GW.out.trans g)
            replace HG_s := Lib.hid (HG_s.out.trans g)
            replace HB_s := Lib.hid (Grow.blk g HB_s.out)
            replace HG_a := Lib.hid (HG_a.out.trans g)
            replace HB_a := Lib.hid (Grow.blk g HB_a.out)
            replace HG_b := Lib.hid (HG_b.out.trans g)
            replace HB_b := Lib.hid (Grow.blk g HB_b.out)
            replace GU := Lib.hid (GU.out.trans g)
            have HL_c'_s := Lib.hid HG_s.out.size
            have HM_c'_s := Lib.hid (Array.getElem?_eq_some_iff.1 HB_s.out).1
            have HL_c'_a := Lib.hid HG_a.out.size
            have HM_c'_a := Lib.hid (Array.getElem?_eq_some_iff.1 HB_a.out).1
            have HL_c'_b := Lib.hid HG_b.out.size
            have HM_c'_b := Lib.hid (Array.getElem?_eq_some_iff.1 HB_b.out).1
            have HL_c'_GU := Lib.hid GU.out.size
            have HW_c' := Lib.hid GW.out.size
            go_upto_region 8 with (fail)
            generalize hV : U9.alloc (.cells #[.int .i64 c'.nb, .int .i64 c'.nn, .int .i64 c'.ns, .slice xa_c' c'.books.length xc_c', .slice ya_c' c'.notes.length yc_c'] 25) = U10
            have gV : Grow U9 U10 := by rw [← hV]; exact (Grow.refl U9).alloc _
            have HB_c' : Hid (U10.heap[U9.heap.size]? = some (.cells #[.int .i64 c'.nb, .int .i64 c'.nn, .int .i64 c'.ns, .slice xa_c' c'.books.length xc_c', .slice ya_c' c'.notes.length yc_c'] 25 (0, 0))) := by rw [← hV]; exact Lib.hid (heap_alloc_new U9 _)
            clear hV
            replace GW := Lib.hid (GW.out.trans gV)
            replace HG_s := Lib.hid (HG_s.out.trans gV)
            replace HB_s := Lib.hid (Grow.blk gV HB_s.out)
            replace HG_a := Lib.hid (HG_a.out.trans gV)
            replace HB_a := Lib.hid (Grow.blk gV HB_a.out)
            replace HG_b := Lib.hid (HG_b.out.trans gV)
            replace HB_b := Lib.hid (Grow.blk gV HB_b.out)
            replace GU := Lib.hid (GU.out.trans gV)
            have HG_c' := Lib.hid gV
            have HR_c' := Lib.hid hr
            clear hr g gV
            have hRES : renameR c' s.nb t = ⟨d', 0, 0⟩ := HC2.out
            have HRES_d' := Lib.hid hRES
            have c0 := (rename_any c' _ _ s.nb t _ (HR_c'.out.grow HG_c'.out) HTC.out (by omega) (HTB.out.below GW.out)).mono fun _ _ => RetC.out hRES
            clear hRES
            have c := c0
            try unfold shelfV at c
            obtain ⟨⟨p0, p1, p2, p3, p4⟩, pz⟩ := n5 HB_c'.out
            go_wp2_with fail
            refine c.mono ?_
            clear c c0
            clear p0 p1 p2 p3 p4 pz
            rintro e U11 ⟨xa_d', xc_d', ya_d', yc_d', g, rfl, hr⟩
            replace GW := Lib.hid (GW.out.trans g)
            replace HG_s := Lib.hid (HG_s.out.trans g)
            replace HB_s := Lib.hid (Grow.blk g HB_s.out)
            replace HG_a := Lib.hid (HG_a.out.trans g)
            replace HB_a := Lib.hid (Grow.blk g HB_a.out)
            replace HG_b := Lib.hid (HG_b.out.trans g)
            replace HB_b := Lib.hid (Grow.blk g HB_b.out)
            replace HG_c' := Lib.hid (HG_c'.out.trans g)
            replace HB_c' := Lib.hid (Grow.blk g HB_c'.out)
            replace GU := Lib.hid (GU.out.trans g)
            have HL_d'_s := Lib.hid HG_s.out.size
            have HM_d'_s := Lib.hid (Array.getElem?_eq_some_iff.1 HB_s.out).1
            have HL_d'_a := Lib.hid HG_a.out.size
            have HM_d'_a := Lib.hid (Array.getElem?_eq_some_iff.1 HB_a.out).1
            have HL_d'_b := Lib.hid HG_b.out.size
            have HM_d'_b := Lib.hid (Array.getElem?_eq_some_iff.1 HB_b.out).1
            have HL_d'_c' := Lib.hid HG_c'.out.size
            have HM_d'_c' := Lib.hid (Array.getElem?_eq_some_iff.1 HB_c'.out).1
            have HL_d'_GU := Lib.hid GU.out.size
            have HW_d' := Lib.hid GW.out.size
            go_upto_region 9 with (fail)
            generalize hV : U11.alloc (.cells #[.int .i64 d'.nb, .int .i64 d'.nn, .int .i64 d'.ns, .slice xa_d' d'.books.length xc_d', .slice ya_d' d'.notes.length yc_d'] 25) = U12
            have gV : Grow U11 U12 := by rw [← hV]; exact (Grow.refl U11).alloc _
            have HB_d' : Hid (U12.heap[U11.heap.size]? = some (.cells #[.int .i64 d'.nb, .int .i64 d'.nn, .int .i64 d'.ns, .slice xa_d' d'.books.length xc_d', .slice ya_d' d'.notes.length yc_d'] 25 (0, 0))) := by rw [← hV]; exact Lib.hid (heap_alloc_new U11 _)
            clear hV
            replace GW := Lib.hid (GW.out.trans gV)
            replace HG_s := Lib.hid (HG_s.out.trans gV)
            replace HB_s := Lib.hid (Grow.blk gV HB_s.out)
            replace HG_a := Lib.hid (HG_a.out.trans gV)
            replace HB_a := Lib.hid (Grow.blk gV HB_a.out)
            replace HG_b := Lib.hid (HG_b.out.trans gV)
            replace HB_b := Lib.hid (Grow.blk gV HB_b.out)
            replace HG_c' := Lib.hid (HG_c'.out.trans gV)
            replace HB_c' := Lib.hid (Grow.blk gV HB_c'.out)
            replace GU := Lib.hid (GU.out.trans gV)
            have HG_d' := Lib.hid gV
            have HR_d' := Lib.hid hr
            clear hr g gV
            have c1 := sameShelf_any ({ b with nb := s.nb } : Shelf) s _ _ _ _ _ (show ShelfR _ ({ b with nb := s.nb } : Shelf) _ _ from (HR_b.out.grow HG_b.out)) (HR_s.out.grow HG_s.out) (show Tame ({ b with nb := s.nb } : Shelf) from HTBB.out.1)
            rw [same_yes (by rw [HEB.out])] at c1
            have c := c1
            unfold shelfV at c
            dsimp only at c
            obtain ⟨⟨p0, p1, p2, p3, p4⟩, pz⟩ := n5 HB_b.out
            obtain ⟨⟨q0, q1, q2, q3, q4⟩, qz⟩ := n5 HB_s.out
            go_wp2_with fail
            refine c.mono ?_
            clear c c1
            clear p0 p1 p2 p3 p4 pz q0 q1 q2 q3 q4 qz
            rintro e U13 ⟨rfl, g⟩
            replace GW := Lib.hid (GW.out.trans g)
            replace HG_s := Lib.hid (HG_s.out.trans g)
            replace HB_s := Lib.hid (Grow.blk g HB_s.out)
            replace HG_a := Lib.hid (HG_a.out.trans g)
            replace HB_a := Lib.hid (Grow.blk g HB_a.out)
            replace HG_b := Lib.hid (HG_b.out.trans g)
            replace HB_b := Lib.hid (Grow.blk g HB_b.out)
            replace HG_c' := Lib.hid (HG_c'.out.trans g)
            replace HB_c' := Lib.hid (Grow.blk g HB_c'.out)
            replace HG_d' := Lib.hid (HG_d'.out.trans g)
            replace HB_d' := Lib.hid (Grow.blk g HB_d'.out)
            replace GU := Lib.hid (GU.out.trans g)
            clear g
            have c := sameShelf_any d' a _ _ _ _ _ (HR_d'.out.grow HG_d'.out) (HR_a.out.grow HG_a.out) (by rw [HED.out]; exact HTA.out.1)
            rw [same_yes HED.out] at c
            unfold shelfV at c
            obtain ⟨⟨p0, p1, p2, p3, p4⟩, pz⟩ := n5 HB_d'.out
            obtain ⟨⟨q0, q1, q2, q3, q4⟩, qz⟩ := n5 HB_a.out
            go_wp2_with fail
            refine c.mono ?_
            clear c
            clear p0 p1 p2 p3 p4 pz q0 q1 q2 q3 q4 qz
            rintro e U14 ⟨rfl, g⟩
            replace GW := Lib.hid (GW.out.trans g)
            replace HG_s := Lib.hid (HG_s.out.trans g)
            replace HB_s := Lib.hid (Grow.blk g HB_s.out)
            replace HG_a := Lib.hid (HG_a.out.trans g)
            replace HB_a := Lib.hid (Grow.blk g HB_a.out)
            replace HG_b := Lib.hid (HG_b.out.trans g)
            replace HB_b := Lib.hid (Grow.blk g HB_b.out)
            replace HG_c' := Lib.hid (HG_c'.out.trans g)
            replace HB_c' := Lib.hid (Grow.blk g HB_c'.out)
            replace HG_d' := Lib.hid (HG_d'.out.trans g)
            replace HB_d' := Lib.hid (Grow.blk g HB_d'.out)
            replace GU := Lib.hid (GU.out.trans g)
            clear g
            go_wp2_with fail
            go_meet
            exact GU.out
          · obtain ⟨c', n1, e1, hc'⟩ : ∃ c' n1 e1, renameR a s.nb o = ⟨c', n1, e1⟩ := ⟨_, _, _, rfl⟩
            have htc := rename_tame a s.nb o
            rw [hc'] at htc
            have he1 : (e1 == 0) = false := beq_eq_false_iff_ne.2 (by have h7 := congrArg Res.e hc'; rw [renameR, resOf_e] at h7; intro h8; exact hrn (h7.trans h8))
            obtain ⟨d', n2, e2, hcb⟩ : ∃ d' n2 e2, renameR c' s.nb t = ⟨d', n2, e2⟩ := ⟨_, _, _, rfl⟩
            have HC1 := Lib.hid hc'
            have HC2 := Lib.hid hcb
            have HTC := Lib.hid htc
            clear hc' hcb htc hrn
            have hRES : renameR a s.nb o = ⟨c', n1, e1⟩ := HC1.out
            have HRES_c' := Lib.hid hRES
            have c0 := (rename_any a _ _ s.nb o _ (HR_a.out.grow HG_a.out) HTA.out (by omega) (HTB.out.below GW.out)).mono fun _ _ => RetC.out hRES
            clear hRES
            have c := c0
            try unfold shelfV at c
            obtain ⟨⟨p0, p1, p2, p3, p4⟩, pz⟩ := n5 HB_a.out
            go_wp2_with fail
            refine c.mono ?_
            clear c c0
            clear p0 p1 p2 p3 p4 pz
            rintro e U9 ⟨xa_c', xc_c', ya_c', yc_c', g, rfl, hr⟩
            replace GW := Lib.hid (GW.out.trans g)
            replace HG_s := Lib.hid (HG_s.out.trans g)
            replace HB_s := Lib.hid (Grow.blk g HB_s.out)
            replace HG_a := Lib.hid (HG_a.out.trans g)
            replace HB_a := Lib.hid (Grow.blk g HB_a.out)
            replace HG_b := Lib.hid (HG_b.out.trans g)
            replace HB_b := Lib.hid (Grow.blk g HB_b.out)
            replace GU := Lib.hid (GU.out.trans g)
            have HL_c'_s := Lib.hid HG_s.out.size
            have HM_c'_s := Lib.hid (Array.getElem?_eq_some_iff.1 HB_s.out).1
            have HL_c'_a := Lib.hid HG_a.out.size
            have HM_c'_a := Lib.hid (Array.getElem?_eq_some_iff.1 HB_a.out).1
            have HL_c'_b := Lib.hid HG_b.out.size
            have HM_c'_b := Lib.hid (Array.getElem?_eq_some_iff.1 HB_b.out).1
            have HL_c'_GU := Lib.hid GU.out.size
            have HW_c' := Lib.hid GW.out.size
            go_upto_region 8 with (fail)
            generalize hV : U9.alloc (.cells #[.int .i64 c'.nb, .int .i64 c'.nn, .int .i64 c'.ns, .slice xa_c' c'.books.length xc_c', .slice ya_c' c'.notes.length yc_c'] 25) = U10
            have gV : Grow U9 U10 := by rw [← hV]; exact (Grow.refl U9).alloc _
            have HB_c' : Hid (U10.heap[U9.heap.size]? = some (.cells #[.int .i64 c'.nb, .int .i64 c'.nn, .int .i64 c'.ns, .slice xa_c' c'.books.length xc_c', .slice ya_c' c'.notes.length yc_c'] 25 (0, 0))) := by rw [← hV]; exact Lib.hid (heap_alloc_new U9 _)
            clear hV
            replace GW := Lib.hid (GW.out.trans gV)
            replace HG_s := Lib.hid (HG_s.out.trans gV)
            replace HB_s := Lib.hid (Grow.blk gV HB_s.out)
            replace HG_a := Lib.hid (HG_a.out.trans gV)
            replace HB_a := Lib.hid (Grow.blk gV HB_a.out)
            replace HG_b := Lib.hid (HG_b.out.trans gV)
            replace HB_b := Lib.hid (Grow.blk gV HB_b.out)
            replace GU := Lib.hid (GU.out.trans gV)
            have HG_c' := Lib.hid gV
            have HR_c' := Lib.hid hr
            clear hr g gV
            have hRES : renameR c' s.nb t = ⟨d', n2, e2⟩ := HC2.out
            have HRES_d' := Lib.hid hRES
            have c0 := (rename_any c' _ _ s.nb t _ (HR_c'.out.grow HG_c'.out) HTC.out (by omega) (HTB.out.below GW.out)).mono fun _ _ => RetC.out hRES
            clear hRES
            have c := c0
            try unfold shelfV at c
            obtain ⟨⟨p0, p1, p2, p3, p4⟩, pz⟩ := n5 HB_c'.out
            go_wp2_with fail
            refine c.mono ?_
            clear c c0
            clear p0 p1 p2 p3 p4 pz
            rintro e U11 ⟨xa_d', xc_d', ya_d', yc_d', g, rfl, hr⟩
            replace GW := Lib.hid (GW.out.trans g)
            replace HG_s := Lib.hid (HG_s.out.trans g)
            replace HB_s := Lib.hid (Grow.blk g HB_s.out)
            replace HG_a := Lib.hid (HG_a.out.trans g)
            replace HB_a := Lib.hid (Grow.blk g HB_a.out)
            replace HG_b := Lib.hid (HG_b.out.trans g)
            replace HB_b := Lib.hid (Grow.blk g HB_b.out)
            replace HG_c' := Lib.hid (HG_c'.out.trans g)
            replace HB_c' := Lib.hid (Grow.blk g HB_c'.out)
            replace GU := Lib.hid (GU.out.trans g)
            have HL_d'_s := Lib.hid HG_s.out.size
            have HM_d'_s := Lib.hid (Array.getElem?_eq_some_iff.1 HB_s.out).1
            have HL_d'_a := Lib.hid HG_a.out.size
            have HM_d'_a := Lib.hid (Array.getElem?_eq_some_iff.1 HB_a.out).1
            have HL_d'_b := Lib.hid HG_b.out.size
            have HM_d'_b := Lib.hid (Array.getElem?_eq_some_iff.1 HB_b.out).1
            have HL_d'_c' := Lib.hid HG_c'.out.size
            have HM_d'_c' := Lib.hid (Array.getElem?_eq_some_iff.1 HB_c'.out).1
            have HL_d'_GU := Lib.hid GU.out.size
            have HW_d' := Lib.hid GW.out.size
            go_upto_region 9 with (fail)
            generalize hV : U11.alloc (.cells #[.int .i64 d'.nb, .int .i64 d'.nn, .int .i64 d'.ns, .slice xa_d' d'.books.length xc_d', .slice ya_d' d'.notes.length yc_d'] 25) = U12
            have gV : Grow U11 U12 := by rw [← hV]; exact (Grow.refl U11).alloc _
            have HB_d' : Hid (U12.heap[U11.heap.size]? = some (.cells #[.int .i64 d'.nb, .int .i64 d'.nn, .int .i64 d'.ns, .slice xa_d' d'.books.length xc_d', .slice ya_d' d'.notes.length yc_d'] 25 (0, 0))) := by rw [← hV]; exact Lib.hid (heap_alloc_new U11 _)
            clear hV
            replace GW := Lib.hid (GW.out.trans gV)
            replace HG_s := Lib.hid (HG_s.out.trans gV)
            replace HB_s := Lib.hid (Grow.blk gV HB_s.out)
            replace HG_a := Lib.hid (HG_a.out.trans gV)
            replace HB_a := Lib.hid (Grow.blk gV HB_a.out)
            replace HG_b := Lib.hid (HG_b.out.trans gV)
            replace HB_b := Lib.hid (Grow.blk gV HB_b.out)
            replace HG_c' := Lib.hid (HG_c'.out.trans gV)
            replace HB_c' := Lib.hid (Grow.blk gV HB_c'.out)
            replace GU := Lib.hid (GU.out.trans gV)
            have HG_d' := Lib.hid gV
            have HR_d' := Lib.hid hr
            clear hr g gV
            have c1 := sameShelf_any ({ b with nb := s.nb } : Shelf) s _ _ _ _ _ (show ShelfR _ ({ b with nb := s.nb } : Shelf) _ _ from (HR_b.out.grow HG_b.out)) (HR_s.out.grow HG_s.out) (show Tame ({ b with nb := s.nb } : Shelf) from HTBB.out.1)
            rw [same_yes (by rw [HEB.out])] at c1
            have c := c1
            unfold shelfV at c
            dsimp only at c
            obtain ⟨⟨p0, p1, p2, p3, p4⟩, pz⟩ := n5 HB_b.out
            obtain ⟨⟨q0, q1, q2, q3, q4⟩, qz⟩ := n5 HB_s.out
            go_wp2_with fail
            refine c.mono ?_
            clear c c1
            clear p0 p1 p2 p3 p4 pz q0 q1 q2 q3 q4 qz
            rintro e U13 ⟨rfl, g⟩
            replace GW := Lib.hid (GW.out.trans g)
            replace HG_s := Lib.hid (HG_s.out.trans g)
            replace HB_s := Lib.hid (Grow.blk g HB_s.out)
            replace HG_a := Lib.hid (HG_a.out.trans g)
            replace HB_a := Lib.hid (Grow.blk g HB_a.out)
            replace HG_b := Lib.hid (HG_b.out.trans g)
            replace HB_b := Lib.hid (Grow.blk g HB_b.out)
            replace HG_c' := Lib.hid (HG_c'.out.trans g)
            replace HB_c' := Lib.hid (Grow.blk g HB_c'.out)
            replace HG_d' := Lib.hid (HG_d'.out.trans g)
            replace HB_d' := Lib.hid (Grow.blk g HB_d'.out)
            replace GU := Lib.hid (GU.out.trans g)
            clear g
            go_wp2_with fail
            go_meet
            exact GU.out
        · have hne : (ea == 0) = false := beq_eq_false_iff_ne.2 he0
          go_wp2_with fail
          go_meet
          exact Grow.refl _
      case rest =>
        replace GW := Lib.hid (GW.out.trans hcut)
        replace HG_s := Lib.hid (HG_s.out.trans hcut)
        replace HB_s := Lib.hid (Grow.blk hcut HB_s.out)
        replace HG_a := Lib.hid (HG_a.out.trans hcut)
        replace HB_a := Lib.hid (Grow.blk hcut HB_a.out)
        clear hcut
        clear HR_a HG_a HB_a
        by_cases hmv : moveE s id q = 0
        · obtain ⟨hb1, hb2, hb3⟩ := move_back hmv
          obtain ⟨x, hxx⟩ : ∃ x, x = noteOf s id := ⟨_, rfl⟩
          rw [← hxx] at hb1 hb2
          obtain ⟨y, hy⟩ : ∃ y, moveR s id q = ⟨y, 0, 0⟩ := ⟨_, move_s hmv⟩
          have hty := move_tame s id q
          rw [hy] at hb1 hty
          obtain ⟨z, hz⟩ : ∃ z, z = s := ⟨_, rfl⟩
          rw [show (⟨s, 0, 0⟩ : Res) = ⟨z, 0, 0⟩ by rw [hz]] at hb1
          have HB1 := Lib.hid hb1
          have HYY := Lib.hid hy
          have HTY := Lib.hid hty
          have HFN := Lib.hid hb2
          have HFB := Lib.hid hb3
          have HZS := Lib.hid hz
          clear hmv hb1 hb2 hb3 hy hty hxx hz
          have c0 := (find_any s _ _ id _ (HR_s.out.grow HG_s.out) HZ.out (HTB.out.below GW.out)).mono fun _ _ => RetFind.out HFN.out HFB.out
          have c := c0
          try unfold shelfV at c
          obtain ⟨⟨p0, p1, p2, p3, p4⟩, pz⟩ := n5 HB_s.out
          go_wp2_with fail
          refine c.mono ?_
          clear c c0
          clear p0 p1 p2 p3 p4 pz
          rintro e U6 ⟨ta_x, tc_x, sa_x, sc_x, g, rfl, ht, hi⟩
          replace GW := Lib.hid (GW.out.trans g)
          replace HG_s := Lib.hid (HG_s.out.trans g)
          replace HB_s := Lib.hid (Grow.blk g HB_s.out)
          have HL_x_s := Lib.hid HG_s.out.size
          have HM_x_s := Lib.hid (Array.getElem?_eq_some_iff.1 HB_s.out).1
          have HW_x := Lib.hid GW.out.size
          go_upto_region 12 with (fail)
          generalize hV : U6.alloc (.cells #[.int .i64 x.id, .int .i64 x.book, .string x.name, .slice ta_x x.tags.length tc_x, .slice sa_x x.sheets.length sc_x] 38) = U7
          have gV : Grow U6 U7 := by rw [← hV]; exact (Grow.refl U6).alloc _
          have HB_x : Hid (U7.heap[U6.heap.size]? = some (.cells #[.int .i64 x.id, .int .i64 x.book, .string x.name, .slice ta_x x.tags.length tc_x, .slice sa_x x.sheets.length sc_x] 38 (0, 0))) := by rw [← hV]; exact Lib.hid (heap_alloc_new U6 _)
          clear hV
          replace GW := Lib.hid (GW.out.trans gV)
          replace HG_s := Lib.hid (HG_s.out.trans gV)
          replace HB_s := Lib.hid (Grow.blk gV HB_s.out)
          have HG_x := Lib.hid gV
          have HT_x := Lib.hid ht
          have HI_x := Lib.hid hi
          clear ht hi g gV
          have hRES : moveR s id q = ⟨y, 0, 0⟩ := HYY.out
          have HRES_y := Lib.hid hRES
          have c0 := (move_any s _ _ id q _ (HR_s.out.grow HG_s.out) HZ.out (HTB.out.below GW.out)).mono fun _ _ => RetC.out hRES
          clear hRES
          have c := c0
          try unfold shelfV at c
          obtain ⟨⟨p0, p1, p2, p3, p4⟩, pz⟩ := n5 HB_s.out
          go_wp2_with fail
          refine c.mono ?_
          clear c c0
          clear p0 p1 p2 p3 p4 pz
          rintro e U8 ⟨xa_y, xc_y, ya_y, yc_y, g, rfl, hr⟩
          replace GW := Lib.hid (GW.out.trans g)
          replace HG_s := Lib.hid (HG_s.out.trans g)
          replace HB_s := Lib.hid (Grow.blk g HB_s.out)
          replace HG_x := Lib.hid (HG_x.out.trans g)
          replace HB_x := Lib.hid (Grow.blk g HB_x.out)
          have HL_y_s := Lib.hid HG_s.out.size
          have HM_y_s := Lib.hid (Array.getElem?_eq_some_iff.1 HB_s.out).1
          have HL_y_x := Lib.hid HG_x.out.size
          have HM_y_x := Lib.hid (Array.getElem?_eq_some_iff.1 HB_x.out).1
          have HW_y := Lib.hid GW.out.size
          go_upto_region 13 with (fail)
          generalize hV : U8.alloc (.cells #[.int .i64 y.nb, .int .i64 y.nn, .int .i64 y.ns, .slice xa_y y.books.length xc_y, .slice ya_y y.notes.length yc_y] 25) = U9
          have gV : Grow U8 U9 := by rw [← hV]; exact (Grow.refl U8).alloc _
          have HB_y : Hid (U9.heap[U8.heap.size]? = some (.cells #[.int .i64 y.nb, .int .i64 y.nn, .int .i64 y.ns, .slice xa_y y.books.length xc_y, .slice ya_y y.notes.length yc_y] 25 (0, 0))) := by rw [← hV]; exact Lib.hid (heap_alloc_new U8 _)
          clear hV
          replace GW := Lib.hid (GW.out.trans gV)
          replace HG_s := Lib.hid (HG_s.out.trans gV)
          replace HB_s := Lib.hid (Grow.blk gV HB_s.out)
          replace HG_x := Lib.hid (HG_x.out.trans gV)
          replace HB_x := Lib.hid (Grow.blk gV HB_x.out)
          have HG_y := Lib.hid gV
          have HR_y := Lib.hid hr
          clear hr g gV
          have hRES : moveR y id x.book = ⟨z, 0, 0⟩ := HB1.out
          have HRES_z := Lib.hid hRES
          have c0 := (move_any y _ _ id x.book _ (HR_y.out.grow HG_y.out) HTY.out (HTB.out.below GW.out)).mono fun _ _ => RetC.out hRES
          clear hRES
          have c := c0
          try unfold shelfV at c
          obtain ⟨⟨p0, p1, p2, p3, p4⟩, pz⟩ := n5 HB_y.out
          obtain ⟨⟨q0, q1, q2, q3, q4⟩, qz⟩ := n5 HB_x.out
          go_wp2_with fail
          refine c.mono ?_
          clear c c0
          clear p0 p1 p2 p3 p4 pz q0 q1 q2 q3 q4 qz
          rintro e U10 ⟨xa_z, xc_z, ya_z, yc_z, g, rfl, hr⟩
          replace GW := Lib.hid (GW.out.trans g)
          replace HG_s := Lib.hid (HG_s.out.trans g)
          replace HB_s := Lib.hid (Grow.blk g HB_s.out)
          replace HG_y := Lib.hid (HG_y.out.trans g)
          replace HB_y := Lib.hid (Grow.blk g HB_y.out)
          replace HG_x := Lib.hid (HG_x.out.trans g)
          replace HB_x := Lib.hid (Grow.blk g HB_x.out)
          have HL_z_s := Lib.hid HG_s.out.size
          have HM_z_s := Lib.hid (Array.getElem?_eq_some_iff.1 HB_s.out).1
          have HL_z_y := Lib.hid HG_y.out.size
          have HM_z_y := Lib.hid (Array.getElem?_eq_some_iff.1 HB_y.out).1
          have HL_z_x := Lib.hid HG_x.out.size
          have HM_z_x := Lib.hid (Array.getElem?_eq_some_iff.1 HB_x.out).1
          have HW_z := Lib.hid GW.out.size
          go_upto_region 15 with (fail)
          generalize hV : U10.alloc (.cells #[.int .i64 z.nb, .int .i64 z.nn, .int .i64 z.ns, .slice xa_z z.books.length xc_z, .slice ya_z z.notes.length yc_z] 25) = U11
          have gV : Grow U10 U11 := by rw [← hV]; exact (Grow.refl U10).alloc _
          have HB_z : Hid (U11.heap[U10.heap.size]? = some (.cells #[.int .i64 z.nb, .int .i64 z.nn, .int .i64 z.ns, .slice xa_z z.books.length xc_z, .slice ya_z z.notes.length yc_z] 25 (0, 0))) := by rw [← hV]; exact Lib.hid (heap_alloc_new U10 _)
          clear hV
          replace GW := Lib.hid (GW.out.trans gV)
          replace HG_s := Lib.hid (HG_s.out.trans gV)
          replace HB_s := Lib.hid (Grow.blk gV HB_s.out)
          replace HG_y := Lib.hid (HG_y.out.trans gV)
          replace HB_y := Lib.hid (Grow.blk gV HB_y.out)
          replace HG_x := Lib.hid (HG_x.out.trans gV)
          replace HB_x := Lib.hid (Grow.blk gV HB_x.out)
          have HG_z := Lib.hid gV
          have HR_z := Lib.hid hr
          clear hr g gV
          have c := sameShelf_any z s _ _ _ _ _ (HR_z.out.grow HG_z.out) (HR_s.out.grow HG_s.out) (by rw [HZS.out]; exact HZ.out.1)
          rw [same_yes HZS.out] at c
          unfold shelfV at c
          obtain ⟨⟨p0, p1, p2, p3, p4⟩, pz⟩ := n5 HB_z.out
          obtain ⟨⟨q0, q1, q2, q3, q4⟩, qz⟩ := n5 HB_s.out
          go_wp2_with fail
          refine c.mono ?_
          clear c
          clear p0 p1 p2 p3 p4 pz q0 q1 q2 q3 q4 qz
          rintro e U12 ⟨rfl, g⟩
          replace GW := Lib.hid (GW.out.trans g)
          replace HG_s := Lib.hid (HG_s.out.trans g)
          replace HB_s := Lib.hid (Grow.blk g HB_s.out)
          replace HG_y := Lib.hid (HG_y.out.trans g)
          replace HB_y := Lib.hid (Grow.blk g HB_y.out)
          replace HG_z := Lib.hid (HG_z.out.trans g)
          replace HB_z := Lib.hid (Grow.blk g HB_z.out)
          replace HG_x := Lib.hid (HG_x.out.trans g)
          replace HB_x := Lib.hid (Grow.blk g HB_x.out)
          clear g
          have c := awake17_any _ (HTB.out.below GW.out)
          go_wp2_with fail
          refine c.mono ?_
          rintro e UA ⟨rfl, gA⟩
          go_wp2_with fail
          go_ret
          exact ⟨rfl, GW.out.trans gA⟩
        · obtain ⟨x, hxx⟩ : ∃ x, foundN s id = x := ⟨_, rfl⟩
          obtain ⟨xb, hxb⟩ : ∃ x, foundB s id = x := ⟨_, rfl⟩
          obtain ⟨y, ny, ey, hy⟩ : ∃ y n e, moveR s id q = ⟨y, n, e⟩ := ⟨_, _, _, rfl⟩
          have hey : (ey == 0) = false := beq_eq_false_iff_ne.2 (by have h7 := congrArg Res.e hy; rw [moveR, resOf_e] at h7; intro h8; exact hmv (h7.trans h8))
          have HYY := Lib.hid hy
          have HFN := Lib.hid hxx
          have HFB := Lib.hid hxb
          clear hmv hxx hxb hy
          have c0 := (find_any s _ _ id _ (HR_s.out.grow HG_s.out) HZ.out (HTB.out.below GW.out)).mono fun _ _ => RetFind.out HFN.out HFB.out
          have c := c0
          try unfold shelfV at c
          obtain ⟨⟨p0, p1, p2, p3, p4⟩, pz⟩ := n5 HB_s.out
          go_wp2_with fail
          refine c.mono ?_
          clear c c0
          clear p0 p1 p2 p3 p4 pz
          rintro e U6 ⟨ta_x, tc_x, sa_x, sc_x, g, rfl, ht, hi⟩
          replace GW := Lib.hid (GW.out.trans g)
          replace HG_s := Lib.hid (HG_s.out.trans g)
          replace HB_s := Lib.hid (Grow.blk g HB_s.out)
          have HL_x_s := Lib.hid HG_s.out.size
          have HM_x_s := Lib.hid (Array.getElem?_eq_some_iff.1 HB_s.out).1
          have HW_x := Lib.hid GW.out.size
          go_upto_region 12 with (fail)
          generalize hV : U6.alloc (.cells #[.int .i64 x.id, .int .i64 x.book, .string x.name, .slice ta_x x.tags.length tc_x, .slice sa_x x.sheets.length sc_x] 38) = U7
          have gV : Grow U6 U7 := by rw [← hV]; exact (Grow.refl U6).alloc _
          have HB_x : Hid (U7.heap[U6.heap.size]? = some (.cells #[.int .i64 x.id, .int .i64 x.book, .string x.name, .slice ta_x x.tags.length tc_x, .slice sa_x x.sheets.length sc_x] 38 (0, 0))) := by rw [← hV]; exact Lib.hid (heap_alloc_new U6 _)
          clear hV
          replace GW := Lib.hid (GW.out.trans gV)
          replace HG_s := Lib.hid (HG_s.out.trans gV)
          replace HB_s := Lib.hid (Grow.blk gV HB_s.out)
          have HG_x := Lib.hid gV
          have HT_x := Lib.hid ht
          have HI_x := Lib.hid hi
          clear ht hi g gV
          have hRES : moveR s id q = ⟨y, ny, ey⟩ := HYY.out
          have HRES_y := Lib.hid hRES
          have c0 := (move_any s _ _ id q _ (HR_s.out.grow HG_s.out) HZ.out (HTB.out.below GW.out)).mono fun _ _ => RetC.out hRES
          clear hRES
          have c := c0
          try unfold shelfV at c
          obtain ⟨⟨p0, p1, p2, p3, p4⟩, pz⟩ := n5 HB_s.out
          go_wp2_with fail
          refine c.mono ?_
          clear c c0
          clear p0 p1 p2 p3 p4 pz
          rintro e U8 ⟨xa_y, xc_y, ya_y, yc_y, g, rfl, hr⟩
          replace GW := Lib.hid (GW.out.trans g)
          replace HG_s := Lib.hid (HG_s.out.trans g)
          replace HB_s := Lib.hid (Grow.blk g HB_s.out)
          replace HG_x := Lib.hid (HG_x.out.trans g)
          replace HB_x := Lib.hid (Grow.blk g HB_x.out)
          have HL_y_s := Lib.hid HG_s.out.size
          have HM_y_s := Lib.hid (Array.getElem?_eq_some_iff.1 HB_s.out).1
          have HL_y_x := Lib.hid HG_x.out.size
          have HM_y_x := Lib.hid (Array.getElem?_eq_some_iff.1 HB_x.out).1
          have HW_y := Lib.hid GW.out.size
          go_upto_region 13 with (fail)
          generalize hV : U8.alloc (.cells #[.int .i64 y.nb, .int .i64 y.nn, .int .i64 y.ns, .slice xa_y y.books.length xc_y, .slice ya_y y.notes.length yc_y] 25) = U9
          have gV : Grow U8 U9 := by rw [← hV]; exact (Grow.refl U8).alloc _
          have HB_y : Hid (U9.heap[U8.heap.size]? = some (.cells #[.int .i64 y.nb, .int .i64 y.nn, .int .i64 y.ns, .slice xa_y y.books.length xc_y, .slice ya_y y.notes.length yc_y] 25 (0, 0))) := by rw [← hV]; exact Lib.hid (heap_alloc_new U8 _)
          clear hV
          replace GW := Lib.hid (GW.out.trans gV)
          replace HG_s := Lib.hid (HG_s.out.trans gV)
          replace HB_s := Lib.hid (Grow.blk gV HB_s.out)
          replace HG_x := Lib.hid (HG_x.out.trans gV)
          replace HB_x := Lib.hid (Grow.blk gV HB_x.out)
          have HG_y := Lib.hid gV
          have HR_y := Lib.hid hr
          clear hr g gV
          have c := awake17_any _ (HTB.out.below GW.out)
          go_wp2_with fail
          refine c.mono ?_
          rintro e UA ⟨rfl, gA⟩
          go_wp2_with fail
          go_ret
          exact ⟨rfl, GW.out.trans gA⟩
theorem back17_law (s : Shelf) (bv nv : Value) (t o : ByteArray) (id q : Int) (w : World) (h : ShelfArg w s bv nv) (_ : t.size ≤ 140737488351232) (_ : o.size ≤ 140737488351232) (_ : Wf id) (_ : Wf q) (hT : Tabs w) :
    Calls Tryd.prog 5 #[shelfV s bv nv, .string t, .string o, .int .i64 id, .int .i64 q] w fun e w' => e = .returned (.bool true) ∧ Grow w w' := back17_walk s bv nv t o id q w h.rows h.ints h.tags hT
end Go.Proofs.YtieohecgoaakmaaDoor
