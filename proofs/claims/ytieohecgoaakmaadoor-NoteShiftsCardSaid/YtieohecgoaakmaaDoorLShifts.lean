/- The walk of the law NoteShifts. -/
import Derived.Test.YtieohecgoaakmaaDoorPSheets
import Derived.Test.YtieohecgoaakmaaDoorAwk18
import Derived.Test.YtieohecgoaakmaaDoorOpen
import Derived.Test.YtieohecgoaakmaaDoorLow
import Derived.Test.YtieohecgoaakmaaDoorGr
import Derived.Deep.RegionLaw
import Derived.Test.YtieohecgoaakmaaDoorOutF
set_option linter.unusedVariables false
set_option linter.unusedSimpArgs false
namespace Go.Proofs.YtieohecgoaakmaaDoor
open Go.RowKit Go.Lib
set_option maxRecDepth 100000 in
set_option maxHeartbeats 8000000 in
theorem shifts18_walk (s : Shelf) (bv nv : Value) (id k : Int) (w : World) (h : ShelfR w s bv nv) (hI : ∀ n ∈ s.notes, ∀ y ∈ n.sheets, Wf y) (hG : ∀ n ∈ s.notes, n.tags.length ≤ 9223372036854775807) (hT : Tabs w) :
    Calls Tryd.prog 7 #[shelfV s bv nv, .int .i64 id, .int .i64 k] w fun e w' => e = .returned (.bool true) ∧ Grow w w' := by
  have GW := Lib.hid (Grow.refl w)
  have HTB := Lib.hid hT
  obtain ⟨xa_s, xc_s, rfl⟩ := h.1.mk
  obtain ⟨ya_s, yc_s, rfl⟩ := h.2.mk
  have HR_s := Lib.hid h
  have HG_s := Lib.hid (Grow.refl w)
  have HI := Lib.hid hI
  have HGT := Lib.hid hG
  clear h hI hG hT
  unfold shelfV
  go_enter Tryd.func7, Tryd.ntmps7
  go_upto_region 1 with (fail)
  generalize hV : w.alloc (.cells #[.int .i64 s.nb, .int .i64 s.nn, .int .i64 s.ns, .slice xa_s s.books.length xc_s, .slice ya_s s.notes.length yc_s] 25) = U1
  have gV : Grow w U1 := by rw [← hV]; exact (Grow.refl w).alloc _
  have HB_s : Hid (U1.heap[w.heap.size]? = some (.cells #[.int .i64 s.nb, .int .i64 s.nn, .int .i64 s.ns, .slice xa_s s.books.length xc_s, .slice ya_s s.notes.length yc_s] 25 (0, 0))) := by rw [← hV]; exact Lib.hid (heap_alloc_new w _)
  clear hV
  replace GW := Lib.hid gV
  replace HG_s := Lib.hid gV
  clear gV
  have c := great_any s _ _ _ (HR_s.out.grow HG_s.out) HGT.out
  try unfold shelfV at c
  obtain ⟨⟨p0, p1, p2, p3, p4⟩, pz⟩ := n5 HB_s.out
  go_wp2_with fail
  refine c.mono ?_
  clear c
  clear p0 p1 p2 p3 p4 pz
  rintro e U2 ⟨g, r, rfl, hr⟩
  replace GW := Lib.hid (GW.out.trans g)
  replace HG_s := Lib.hid (HG_s.out.trans g)
  replace HB_s := Lib.hid (Grow.blk g HB_s.out)
  clear g
  cases r with
  | true =>
    clear hr
    have c := awake18_any _ (HTB.out.below GW.out)
    go_wp2_with fail
    refine c.mono ?_
    rintro e UA ⟨rfl, gA⟩
    go_wp2_with fail
    go_ret
    exact ⟨rfl, GW.out.trans gA⟩
  | false =>
    have hlow := hr rfl
    have HZ := Lib.hid (show TameS s from ⟨hlow.tame, HI.out⟩)
    have HLOW := Lib.hid hlow
    clear hr hlow
    cases hm : mayS s with
    | false =>
      have c := mayS_any s _ _ _ (HR_s.out.grow HG_s.out) HZ.out (HTB.out.below GW.out)
      try unfold shelfV at c
      obtain ⟨⟨p0, p1, p2, p3, p4⟩, pz⟩ := n5 HB_s.out
      rw [hm] at c
      go_wp2_with fail
      refine c.mono ?_
      clear c
      clear p0 p1 p2 p3 p4 pz
      rintro e U3 ⟨rfl, g⟩
      replace GW := Lib.hid (GW.out.trans g)
      replace HG_s := Lib.hid (HG_s.out.trans g)
      replace HB_s := Lib.hid (Grow.blk g HB_s.out)
      have c := awake18_any _ (HTB.out.below GW.out)
      go_wp2_with fail
      refine c.mono ?_
      rintro e UA ⟨rfl, gA⟩
      go_wp2_with fail
      go_ret
      exact ⟨rfl, GW.out.trans gA⟩
    | true =>
      have c := mayS_any s _ _ _ (HR_s.out.grow HG_s.out) HZ.out (HTB.out.below GW.out)
      try unfold shelfV at c
      obtain ⟨⟨p0, p1, p2, p3, p4⟩, pz⟩ := n5 HB_s.out
      rw [hm] at c
      go_wp2_with fail
      refine c.mono ?_
      clear c
      clear p0 p1 p2 p3 p4 pz
      rintro e U3 ⟨rfl, g⟩
      replace GW := Lib.hid (GW.out.trans g)
      replace HG_s := Lib.hid (HG_s.out.trans g)
      replace HB_s := Lib.hid (Grow.blk g HB_s.out)
      have HMY := Lib.hid hm
      have HP := Lib.hid (mayS_iff.1 hm)
      clear hm g
      obtain ⟨x, hx⟩ : ∃ x, foundN s id = x := ⟨_, rfl⟩
      obtain ⟨xb, hxb⟩ : ∃ x, foundB s id = x := ⟨_, rfl⟩
      have HFN := Lib.hid hx
      have HFB := Lib.hid hxb
      clear hx hxb
      have c0 := (find_any s _ _ id _ (HR_s.out.grow HG_s.out) HZ.out (HTB.out.below GW.out)).mono fun _ _ => RetFind.out HFN.out HFB.out
      have c := c0
      try unfold shelfV at c
      obtain ⟨⟨p0, p1, p2, p3, p4⟩, pz⟩ := n5 HB_s.out
      go_wp2_with fail
      refine c.mono ?_
      clear c c0
      clear p0 p1 p2 p3 p4 pz
      rintro e U4 ⟨ta_x, tc_x, sa_x, sc_x, g, rfl, ht, hi⟩
      replace GW := Lib.hid (GW.out.trans g)
      replace HG_s := Lib.hid (HG_s.out.trans g)
      replace HB_s := Lib.hid (Grow.blk g HB_s.out)
      have HL_x_s := Lib.hid HG_s.out.size
      have HM_x_s := Lib.hid (Array.getElem?_eq_some_iff.1 HB_s.out).1
      have HW_x := Lib.hid GW.out.size
      go_upto_region 4 with (fail)
      generalize hV : U4.alloc (.cells #[.int .i64 x.id, .int .i64 x.book, .string x.name, .slice ta_x x.tags.length tc_x, .slice sa_x x.sheets.length sc_x] 38) = U5
      have gV : Grow U4 U5 := by rw [← hV]; exact (Grow.refl U4).alloc _
      have HB_x : Hid (U5.heap[U4.heap.size]? = some (.cells #[.int .i64 x.id, .int .i64 x.book, .string x.name, .slice ta_x x.tags.length tc_x, .slice sa_x x.sheets.length sc_x] 38 (0, 0))) := by rw [← hV]; exact Lib.hid (heap_alloc_new U4 _)
      clear hV
      replace GW := Lib.hid (GW.out.trans gV)
      replace HG_s := Lib.hid (HG_s.out.trans gV)
      replace HB_s := Lib.hid (Grow.blk gV HB_s.out)
      have HG_x := Lib.hid gV
      have HT_x := Lib.hid ht
      have HI_x := Lib.hid hi
      clear ht hi g gV
      by_cases hn : noteE s id = 0
      rotate_left
      · obtain rfl : xb = false := HFB.out.symm.trans (not_found hn)
        have hsE : sheetE s id k = 4 := by rw [sheetE_of hn]; exact noteE_may HMY.out hn
        clear hn
        obtain ⟨a, na, hra⟩ : ∃ a n, removeR s id k = ⟨a, n, 4⟩ := ⟨_, _, by rw [removeR, resOf_no (by rw [hsE]; decide), hsE]; rfl⟩
        have HRA := Lib.hid hra
        clear hra hsE
        have hRES : removeR s id k = ⟨a, na, 4⟩ := HRA.out
        have HRES_a := Lib.hid hRES
        have c0 := (remove_any s _ _ id k _ (HR_s.out.grow HG_s.out) HZ.out (HTB.out.below GW.out)).mono fun _ _ => RetM.out hRES
        clear hRES
        have c := c0
        try unfold shelfV at c
        obtain ⟨⟨p0, p1, p2, p3, p4⟩, pz⟩ := n5 HB_s.out
        go_wp2_with fail
        refine c.mono ?_
        clear c c0
        clear p0 p1 p2 p3 p4 pz
        rintro e U6 ⟨xa_a, xc_a, ya_a, yc_a, g, rfl, hr⟩
        replace GW := Lib.hid (GW.out.trans g)
        replace HG_s := Lib.hid (HG_s.out.trans g)
        replace HB_s := Lib.hid (Grow.blk g HB_s.out)
        replace HG_x := Lib.hid (HG_x.out.trans g)
        replace HB_x := Lib.hid (Grow.blk g HB_x.out)
        have HL_a_s := Lib.hid HG_s.out.size
        have HM_a_s := Lib.hid (Array.getElem?_eq_some_iff.1 HB_s.out).1
        have HL_a_x := Lib.hid HG_x.out.size
        have HM_a_x := Lib.hid (Array.getElem?_eq_some_iff.1 HB_x.out).1
        have HW_a := Lib.hid GW.out.size
        go_upto_region 6 with (fail)
        generalize hV : U6.alloc (.cells #[.int .i64 a.nb, .int .i64 a.nn, .int .i64 a.ns, .slice xa_a a.books.length xc_a, .slice ya_a a.notes.length yc_a] 25) = U7
        have gV : Grow U6 U7 := by rw [← hV]; exact (Grow.refl U6).alloc _
        have HB_a : Hid (U7.heap[U6.heap.size]? = some (.cells #[.int .i64 a.nb, .int .i64 a.nn, .int .i64 a.ns, .slice xa_a a.books.length xc_a, .slice ya_a a.notes.length yc_a] 25 (0, 0))) := by rw [← hV]; exact Lib.hid (heap_alloc_new U6 _)
        clear hV
        replace GW := Lib.hid (GW.out.trans gV)
        replace HG_s := Lib.hid (HG_s.out.trans gV)
        replace HB_s := Lib.hid (Grow.blk gV HB_s.out)
        replace HG_x := Lib.hid (HG_x.out.trans gV)
        replace HB_x := Lib.hid (Grow.blk gV HB_x.out)
        have HG_a := Lib.hid gV
        have HR_a := Lib.hid hr
        clear hr g gV
        have c := awake18_any _ (HTB.out.below GW.out)
        go_wp2_with fail
        refine c.mono ?_
        rintro e UA ⟨rfl, gA⟩
        go_wp2_with fail
        go_ret
        exact ⟨rfl, GW.out.trans gA⟩
      · obtain rfl : xb = true := HFB.out.symm.trans (found_of hn).1
        have hxn : x = noteOf s id := HFN.out.symm.trans (found_of hn).2
        have HXN := Lib.hid hxn
        have HN0 := Lib.hid hn
        clear hn hxn
        by_cases hl : x.sheets.length = 0
        · have hl0 : ((x.sheets.length : Int) == 0) = true := by rw [hl]; rfl
          have hsE : sheetE s id k = 2 := by
            obtain ⟨h0, h1⟩ := noteE_zero.1 HN0.out
            unfold sheetE
            rw [if_neg (by rw [h0]; simp), if_neg (by omega), ← HXN.out, hl, if_pos (by omega)]
          clear hl
          obtain ⟨a, na, hra⟩ : ∃ a n, removeR s id k = ⟨a, n, 2⟩ := ⟨_, _, by rw [removeR, resOf_no (by rw [hsE]; decide), hsE]; rfl⟩
          have HRA := Lib.hid hra
          clear hra hsE
          have hRES : removeR s id k = ⟨a, na, 2⟩ := HRA.out
          have HRES_a := Lib.hid hRES
          have c0 := (remove_any s _ _ id k _ (HR_s.out.grow HG_s.out) HZ.out (HTB.out.below GW.out)).mono fun _ _ => RetM.out hRES
          clear hRES
          have c := c0
          try unfold shelfV at c
          obtain ⟨⟨p0, p1, p2, p3, p4⟩, pz⟩ := n5 HB_s.out
          obtain ⟨⟨q0, q1, q2, q3, q4⟩, qz⟩ := n5 HB_x.out
          go_wp2_with fail
          refine c.mono ?_
          clear c c0
          clear p0 p1 p2 p3 p4 pz q0 q1 q2 q3 q4 qz
          rintro e U6 ⟨xa_a, xc_a, ya_a, yc_a, g, rfl, hr⟩
          replace GW := Lib.hid (GW.out.trans g)
          replace HG_s := Lib.hid (HG_s.out.trans g)
          replace HB_s := Lib.hid (Grow.blk g HB_s.out)
          replace HG_x := Lib.hid (HG_x.out.trans g)
          replace HB_x := Lib.hid (Grow.blk g HB_x.out)
          have HL_a_s := Lib.hid HG_s.out.size
          have HM_a_s := Lib.hid (Array.getElem?_eq_some_iff.1 HB_s.out).1
          have HL_a_x := Lib.hid HG_x.out.size
          have HM_a_x := Lib.hid (Array.getElem?_eq_some_iff.1 HB_x.out).1
          have HW_a := Lib.hid GW.out.size
          go_upto_region 6 with (fail)
          generalize hV : U6.alloc (.cells #[.int .i64 a.nb, .int .i64 a.nn, .int .i64 a.ns, .slice xa_a a.books.length xc_a, .slice ya_a a.notes.length yc_a] 25) = U7
          have gV : Grow U6 U7 := by rw [← hV]; exact (Grow.refl U6).alloc _
          have HB_a : Hid (U7.heap[U6.heap.size]? = some (.cells #[.int .i64 a.nb, .int .i64 a.nn, .int .i64 a.ns, .slice xa_a a.books.length xc_a, .slice ya_a a.notes.length yc_a] 25 (0, 0))) := by rw [← hV]; exact Lib.hid (heap_alloc_new U6 _)
          clear hV
          replace GW := Lib.hid (GW.out.trans gV)
          replace HG_s := Lib.hid (HG_s.out.trans gV)
          replace HB_s := Lib.hid (Grow.blk gV HB_s.out)
          replace HG_x := Lib.hid (HG_x.out.trans gV)
          replace HB_x := Lib.hid (Grow.blk gV HB_x.out)
          have HG_a := Lib.hid gV
          have HR_a := Lib.hid hr
          clear hr g gV
          have c := awake18_any _ (HTB.out.below GW.out)
          go_wp2_with fail
          refine c.mono ?_
          rintro e UA ⟨rfl, gA⟩
          go_wp2_with fail
          go_ret
          exact ⟨rfl, GW.out.trans gA⟩
        · have hl0 : ((x.sheets.length : Int) == 0) = false := beq_eq_false_iff_ne.2 (by omega)
          have hl1 : 0 < x.sheets.length := by omega
          have hxl : x.sheets.length ≤ 1000000 := by rw [HXN.out]; have := HP.out.sl _ (noteOf_mem (noteE_zero.1 HN0.out).2); omega
          have hlb := lowI_bd k x.sheets.length (by omega)
          obtain ⟨q, hq⟩ : ∃ q : Nat, lowI k x.sheets.length = q := ⟨(lowI k x.sheets.length).toNat, by omega⟩
          have c1 := low_any k x.sheets.length
          rw [hq] at c1 hlb
          have hql : q < x.sheets.length := by omega
          obtain ⟨r1, r2, r3, r4, r5⟩ := remove_all (s := s) (id := id) (q := q) HN0.out (by rw [← HXN.out]; exact hql)
          rw [← HXN.out] at r3 r4
          obtain ⟨u, hu⟩ : ∃ u, x.sheets[q]? = some u := ⟨_, List.getElem?_eq_getElem hql⟩
          have hsn : sheetN s id q = u := (sheet_at HMY.out (noteE_zero.1 HN0.out).2 (by rw [← HXN.out]; exact hu)).2.2
          obtain ⟨a, hra⟩ : ∃ a, removeR s id q = ⟨a, u, 0⟩ := ⟨_, by rw [remove_s r1, hsn]⟩
          rw [hra] at r2 r3 r4 r5
          have hta : TameS a := (mayS_iff.1 r2).tame
          have HTA := Lib.hid hta
          have HRA := Lib.hid hra
          have HMA := Lib.hid (show mayS a = true from r2)
          have HF3 := Lib.hid r3
          have HF4 := Lib.hid (show sheetE a id ((x.sheets.length : Nat) - 1) = 2 from r4)
          have HF5 := Lib.hid r5
          have HU := Lib.hid hu
          clear hl hq hlb r1 r2 r3 r4 r5 hu hsn hra hta
          obtain ⟨⟨m0, m1, m2, m3, m4⟩, mz⟩ := n5 HB_x.out
          go_wp2_with fail
          refine (c1 _ (by omega) (by omega)).mono ?_
          rintro e UL ⟨rfl, rfl⟩
          clear c1 m0 m1 m2 m3 m4 mz
          have hRES : removeR s id q = ⟨a, u, 0⟩ := HRA.out
          have HRES_a := Lib.hid hRES
          have c0 := (remove_any s _ _ id q _ (HR_s.out.grow HG_s.out) HZ.out (HTB.out.below GW.out)).mono fun _ _ => RetM.out hRES
          clear hRES
          have c := c0
          try unfold shelfV at c
          obtain ⟨⟨p0, p1, p2, p3, p4⟩, pz⟩ := n5 HB_s.out
          go_wp2_with fail
          refine c.mono ?_
          clear c c0
          clear p0 p1 p2 p3 p4 pz
          rintro e U6 ⟨xa_a, xc_a, ya_a, yc_a, g, rfl, hr⟩
          replace GW := Lib.hid (GW.out.trans g)
          replace HG_s := Lib.hid (HG_s.out.trans g)
          replace HB_s := Lib.hid (Grow.blk g HB_s.out)
          replace HG_x := Lib.hid (HG_x.out.trans g)
          replace HB_x := Lib.hid (Grow.blk g HB_x.out)
          have HL_a_s := Lib.hid HG_s.out.size
          have HM_a_s := Lib.hid (Array.getElem?_eq_some_iff.1 HB_s.out).1
          have HL_a_x := Lib.hid HG_x.out.size
          have HM_a_x := Lib.hid (Array.getElem?_eq_some_iff.1 HB_x.out).1
          have HW_a := Lib.hid GW.out.size
          go_upto_region 9 with (fail)
          generalize hV : U6.alloc (.cells #[.int .i64 a.nb, .int .i64 a.nn, .int .i64 a.ns, .slice xa_a a.books.length xc_a, .slice ya_a a.notes.length yc_a] 25) = U7
          have gV : Grow U6 U7 := by rw [← hV]; exact (Grow.refl U6).alloc _
          have HB_a : Hid (U7.heap[U6.heap.size]? = some (.cells #[.int .i64 a.nb, .int .i64 a.nn, .int .i64 a.ns, .slice xa_a a.books.length xc_a, .slice ya_a a.notes.length yc_a] 25 (0, 0))) := by rw [← hV]; exact Lib.hid (heap_alloc_new U6 _)
          clear hV
          replace GW := Lib.hid (GW.out.trans gV)
          replace HG_s := Lib.hid (HG_s.out.trans gV)
          replace HB_s := Lib.hid (Grow.blk gV HB_s.out)
          replace HG_x := Lib.hid (HG_x.out.trans gV)
          replace HB_x := Lib.hid (Grow.blk gV HB_x.out)
          have HG_a := Lib.hid gV
          have HR_a := Lib.hid hr
          clear hr g gV
          obtain ⟨bb, off, eo, hbb, y0⟩ := Ints.at (Ints.grow HI_x.out HG_x.out) HU.out
          subst eo
          have hqi : (q : Int) < x.sheets.length := by omega
          obtain ⟨⟨m0, m1, m2, m3, m4⟩, mz⟩ := n5 HB_x.out
          have c := mayS_any a _ _ _ (HR_a.out.grow HG_a.out) HTA.out (HTB.out.below GW.out)
          rw [HMA.out] at c
          try unfold shelfV at c
          obtain ⟨⟨p0, p1, p2, p3, p4⟩, pz⟩ := n5 HB_a.out
          go_wp2_with fail
          refine c.mono ?_
          clear c
          clear p0 p1 p2 p3 p4 pz
          rintro e U8 ⟨rfl, g⟩
          replace GW := Lib.hid (GW.out.trans g)
          replace HG_s := Lib.hid (HG_s.out.trans g)
          replace HB_s := Lib.hid (Grow.blk g HB_s.out)
          replace HG_a := Lib.hid (HG_a.out.trans g)
          replace HB_a := Lib.hid (Grow.blk g HB_a.out)
          replace HG_x := Lib.hid (HG_x.out.trans g)
          replace HB_x := Lib.hid (Grow.blk g HB_x.out)
          clear g m0 m1 m2 m3 m4 mz y0 hbb
          go_wp2_with fail
          go_loopw [15] (fun v15 wx => ∃ i : Nat, v15 = .int .i64 i ∧ i ≤ x.sheets.length ∧ Grow U8 wx) (fun v15 _ => x.sheets.length - (Go.RowKit.intOf v15).toNat)
          case atStart => exact ⟨0, rfl, by omega, Grow.refl _⟩
          case round =>
            obtain ⟨i, rfl, hi, hg⟩ := hrel
            replace GW := Lib.hid (GW.out.trans hg)
            replace HG_s := Lib.hid (HG_s.out.trans hg)
            replace HB_s := Lib.hid (Grow.blk hg HB_s.out)
            replace HG_a := Lib.hid (HG_a.out.trans hg)
            replace HB_a := Lib.hid (Grow.blk hg HB_a.out)
            replace HG_x := Lib.hid (HG_x.out.trans hg)
            replace HB_x := Lib.hid (Grow.blk hg HB_x.out)
            by_cases hlt : i + 1 < x.sheets.length
            · have hlt' : (i : Int) + 1 < x.sheets.length := by omega
              by_cases hiq' : i < q
              · have hiq :  ¬ (q : Int) ≤ i := by omega
                obtain ⟨y, hy, hE, hV⟩ := HF3.out i hlt
                rw [if_pos (by omega)] at hy
                obtain ⟨b2, o2, eo, hb2, y0⟩ := Ints.at (Ints.grow HI_x.out HG_x.out) hy
                injection eo with eo
                injection eo with eb eo
                subst eb eo
                have HY0 := Lib.hid y0
                have HB2 := Lib.hid hb2
                clear hy y0 hb2
                obtain ⟨⟨m0, m1, m2, m3, m4⟩, mz⟩ := n5 HB_x.out
                have c := nSheet_any a _ _ id i _ (HR_a.out.grow HG_a.out) HTA.out (HTB.out.below GW.out)
                rw [show sheetE a id i = 0 from hE, show sheetV a id i = y from hV] at c
                try unfold shelfV at c
                obtain ⟨⟨p0, p1, p2, p3, p4⟩, pz⟩ := n5 HB_a.out
                go_wp2_with fail
                refine c.mono ?_
                clear c
                clear p0 p1 p2 p3 p4 pz
                rintro e U9 ⟨rfl, g⟩
                replace GW := Lib.hid (GW.out.trans g)
                replace HG_s := Lib.hid (HG_s.out.trans g)
                replace HB_s := Lib.hid (Grow.blk g HB_s.out)
                replace HG_a := Lib.hid (HG_a.out.trans g)
                replace HB_a := Lib.hid (Grow.blk g HB_a.out)
                replace HG_x := Lib.hid (HG_x.out.trans g)
                replace HB_x := Lib.hid (Grow.blk g HB_x.out)
                clear m0 m1 m2 m3 m4 mz hE hV
                have y0 := (g.cells bb (off + i) HB2.out).trans HY0.out
                have hbb := Nat.lt_of_lt_of_le HB2.out g.size
                obtain ⟨⟨m0, m1, m2, m3, m4⟩, mz⟩ := n5 HB_x.out
                go_wp2_with fail
                go_roundw
                case rel => exact ⟨i + 1, by go_num, by omega, hg.trans g⟩
                case measure => simp [Go.RowKit.intOf]; omega
              · have hiq : (q : Int) ≤ i := by omega
                obtain ⟨y, hy, hE, hV⟩ := HF3.out i hlt
                rw [if_neg (by omega)] at hy
                obtain ⟨b2, o2, eo, hb2, y0⟩ := Ints.at (Ints.grow HI_x.out HG_x.out) hy
                injection eo with eo
                injection eo with eb eo
                subst eb eo
                have HY0 := Lib.hid y0
                have HB2 := Lib.hid hb2
                clear hy y0 hb2
                obtain ⟨⟨m0, m1, m2, m3, m4⟩, mz⟩ := n5 HB_x.out
                have c := nSheet_any a _ _ id i _ (HR_a.out.grow HG_a.out) HTA.out (HTB.out.below GW.out)
                rw [show sheetE a id i = 0 from hE, show sheetV a id i = y from hV] at c
                try unfold shelfV at c
                obtain ⟨⟨p0, p1, p2, p3, p4⟩, pz⟩ := n5 HB_a.out
                go_wp2_with fail
                refine c.mono ?_
                clear c
                clear p0 p1 p2 p3 p4 pz
                rintro e U9 ⟨rfl, g⟩
                replace GW := Lib.hid (GW.out.trans g)
                replace HG_s := Lib.hid (HG_s.out.trans g)
                replace HB_s := Lib.hid (Grow.blk g HB_s.out)
                replace HG_a := Lib.hid (HG_a.out.trans g)
                replace HB_a := Lib.hid (Grow.blk g HB_a.out)
                replace HG_x := Lib.hid (HG_x.out.trans g)
                replace HB_x := Lib.hid (Grow.blk g HB_x.out)
                clear m0 m1 m2 m3 m4 mz hE hV
                have y0 := (g.cells bb (off + (i + 1)) HB2.out).trans HY0.out
                have hbb := Nat.lt_of_lt_of_le HB2.out g.size
                obtain ⟨⟨m0, m1, m2, m3, m4⟩, mz⟩ := n5 HB_x.out
                go_wp2_with fail
                go_roundw
                case rel => exact ⟨i + 1, by go_num, by omega, hg.trans g⟩
                case measure => simp [Go.RowKit.intOf]; omega
            · have hlt' : ¬ (i : Int) + 1 < x.sheets.length := by omega
              obtain ⟨⟨m0, m1, m2, m3, m4⟩, mz⟩ := n5 HB_x.out
              have c := nSheet_any a _ _ id ((x.sheets.length : Nat) - 1) _ (HR_a.out.grow HG_a.out) HTA.out (HTB.out.below GW.out)
              rw [show sheetE a id ((x.sheets.length : Nat) - 1) = 2 from HF4.out] at c
              try unfold shelfV at c
              obtain ⟨⟨p0, p1, p2, p3, p4⟩, pz⟩ := n5 HB_a.out
              go_wp2_with fail
              refine c.mono ?_
              clear c
              clear p0 p1 p2 p3 p4 pz
              rintro e U9 ⟨rfl, g⟩
              replace GW := Lib.hid (GW.out.trans g)
              replace HG_s := Lib.hid (HG_s.out.trans g)
              replace HB_s := Lib.hid (Grow.blk g HB_s.out)
              replace HG_a := Lib.hid (HG_a.out.trans g)
              replace HB_a := Lib.hid (Grow.blk g HB_a.out)
              replace HG_x := Lib.hid (HG_x.out.trans g)
              replace HB_x := Lib.hid (Grow.blk g HB_x.out)
              clear g m0 m1 m2 m3 m4 mz hlt hlt' hi hg
              have hnl := HP.out.nl
              go_wp2_with fail
              go_loopw [21] (fun v21 wx => ∃ i : Nat, v21 = .int .i64 i ∧ i ≤ s.notes.length ∧ Grow U9 wx) (fun v21 _ => s.notes.length - (Go.RowKit.intOf v21).toNat)
              case atStart => exact ⟨0, rfl, by omega, Grow.refl _⟩
              case round =>
                obtain ⟨i, rfl, hi, hg⟩ := hrel
                replace GW := Lib.hid (GW.out.trans hg)
                replace HG_s := Lib.hid (HG_s.out.trans hg)
                replace HB_s := Lib.hid (Grow.blk hg HB_s.out)
                replace HG_a := Lib.hid (HG_a.out.trans hg)
                replace HB_a := Lib.hid (Grow.blk hg HB_a.out)
                replace HG_x := Lib.hid (HG_x.out.trans hg)
                replace HB_x := Lib.hid (Grow.blk hg HB_x.out)
                by_cases hlt : i < s.notes.length
                · have hlt' : (i : Int) < s.notes.length := by omega
                  obtain ⟨n, hn, -⟩ := lt_get hlt
                  obtain ⟨g1, g2⟩ := HF5.out n (List.mem_of_getElem? hn)
                  have hfb := (found_of g1).1
                  have hfn := (found_of g1).2
                  obtain ⟨z, hz⟩ : ∃ z, foundN a n.id = z := ⟨_, rfl⟩
                  have HZN := Lib.hid (show n.id ≠ id → z = n from fun h => by rw [← hz, show foundN a n.id = noteOf a n.id from hfn]; exact g2 h)
                  have cF := fun W (g : Grow wr W) => (find_any a _ _ n.id W ((HR_a.out.grow HG_a.out).grow g) HTA.out ((HTB.out.below GW.out).below g)).mono fun _ _ => RetFind.out2 hz hfb
                  obtain ⟨nb, noff, tv, sv, ea, hnb, n0, n1, n2, n3, n4, htv, hsv⟩ := Notes.at (HR_s.out.grow HG_s.out).2 hn
                  obtain ⟨ta_n, tc_n, etv⟩ := htv.mk
                  obtain ⟨sa_n, sc_n, esv⟩ := hsv.mk
                  subst ea etv esv
                  have HN0' := Lib.hid n0
                  have HNI := Lib.hid hn
                  have HNN := Lib.hid (And.intro n1 (And.intro n2 (And.intro n3 n4)))
                  have HNB := Lib.hid hnb
                  have HTN := Lib.hid htv
                  have HSN := Lib.hid hsv
                  have hz1 := hz
                  clear hn g1 g2 hfb hfn hz n1 n2 n3 n4 htv hsv
                  obtain ⟨⟨p0, p1, p2, p3, p4⟩, pz⟩ := n5 HB_s.out
                  obtain ⟨⟨q0, q1, q2, q3, q4⟩, qz⟩ := n5 HB_a.out
                  go_upto_region 24 with (fail)
                  go_cut [22, 23] (fun v22 v23 wx => v23 = .bool true ∧ ∃ bz ta tc sa sc, v22 = .pointer (some ⟨bz, 0, none⟩) ∧ Grow wr wx ∧ wx.heap[bz]? = some (.cells #[.int .i64 z.id, .int .i64 z.book, .string z.name, .slice ta z.tags.length tc, .slice sa z.sheets.length sc] 38 (0, 0)) ∧ Texts wx (.slice ta z.tags.length tc) z.tags ∧ Ints wx (.slice sa z.sheets.length sc) z.sheets)
                  case first =>
                    go_region_law (first
                      | (go_simp; go_at_call 14; refine (cF _ (Grow.refl wr).drew).mono ?_; rintro e UF ⟨ta_z, tc_z, sa_z, sc_z, gF, rfl, htz, hsz⟩; have HBA := Lib.hid True.intro; have HGF := Lib.hid (((Grow.refl wr).drew).trans gF); have HTZ := Lib.hid htz; have HSZ := Lib.hid hsz; clear gF htz hsz)
                      | (go_simp; go_at_call 14; refine (cF _ (((Grow.refl wr).alloc _).drew)).mono ?_; rintro e UF ⟨ta_z, tc_z, sa_z, sc_z, gF, rfl, htz, hsz⟩; have hbx := gF.blk (((Grow.refl _).drew).blk (heap_alloc_new wr (.cells #[.int .i64 0, .int .i64 0, .string ⟨#[]⟩, .slice none 0 0, .slice none 0 0] 38))); have HBX := Lib.hid hbx; obtain ⟨⟨e0, e1, e2, e3, e4⟩, ez⟩ := n5 hbx; have ff0 := frozen_of_row UF _ 0 _ _ hbx; have ff1 := frozen_of_row UF _ 1 _ _ hbx; have ff2 := frozen_of_row UF _ 2 _ _ hbx; have ff3 := frozen_of_row UF _ 3 _ _ hbx; have ff4 := frozen_of_row UF _ 4 _ _ hbx; have HGF := Lib.hid ((((Grow.refl wr).alloc _).drew).trans gF); have HTZ := Lib.hid htz; have HSZ := Lib.hid hsz; clear gF htz hsz hbx))
                    all_goals
                      first
                        | (have hA := HBA.out
                           generalize hV : UF.alloc (.cells #[.int .i64 z.id, .int .i64 z.book, .string z.name, .slice ta_z z.tags.length tc_z, .slice sa_z z.sheets.length sc_z] 38) = V
                           have gV : Grow UF V := by rw [← hV]; exact (Grow.refl UF).alloc _
                           have HB_z : Hid (V.heap[UF.heap.size]? = some (.cells #[.int .i64 z.id, .int .i64 z.book, .string z.name, .slice ta_z z.tags.length tc_z, .slice sa_z z.sheets.length sc_z] 38 (0, 0))) := by rw [← hV]; exact Lib.hid (heap_alloc_new UF _)
                           have gT := HGF.out.trans gV
                           have HTZV := Lib.hid (row_texts (HTZ.out.grow gV))
                           have HSZV := Lib.hid (row_ints (HSZ.out.grow gV))
                           clear hV gV)
                        | (have hB := HBX.out
                           generalize hV : ((((UF.setCell ⟨wr.heap.size, 0, none⟩ (.int .i64 z.id)).setCell ⟨wr.heap.size, 1, none⟩ (.int .i64 z.book)).setCell ⟨wr.heap.size, 2, none⟩ (.string z.name)).setCell ⟨wr.heap.size, 3, none⟩ (.slice ta_z z.tags.length tc_z)).setCell ⟨wr.heap.size, 4, none⟩ (.slice sa_z z.sheets.length sc_z) = V
                           have h55 := set5 HBX.out (.int .i64 z.id) (.int .i64 z.book) (.string z.name) (.slice ta_z z.tags.length tc_z) (.slice sa_z z.sheets.length sc_z)
                           unfold set5w at h55
                           rw [hV] at h55
                           have HB_z := Lib.hid h55.1
                           have tV := h55.2
                           have gT := tV.grow HGF.out (Nat.le_refl _)
                           have HTZV := Lib.hid (row_texts (HTZ.out.aside tV (by simp)))
                           have HSZV := Lib.hid (row_ints (HSZ.out.aside tV (by simp)))
                           clear hV h55 tV e0 e1 e2 e3 e4 ez ff0 ff1 ff2 ff3 ff4)
                      go_wp2_with fail
                      go_meet
                      exact ⟨rfl, _, _, _, _, _, rfl, gT, HB_z.out, HTZV.out, HSZV.out⟩
                  case rest =>
                    obtain ⟨rfl, bz, ta_z, tc_z, sa_z, sc_z, rfl, gT, hbz, htz, hsz⟩ := hcut
                    have HB_z := Lib.hid hbz
                    have HTZV := Lib.hid htz
                    have HSZV := Lib.hid hsz
                    clear hbz htz hsz cF n0 hnb p0 p1 p2 p3 p4 pz q0 q1 q2 q3 q4 qz
                    generalize wc = V at *
                    replace GW := Lib.hid (GW.out.trans gT)
                    replace HG_s := Lib.hid (HG_s.out.trans gT)
                    replace HB_s := Lib.hid (Grow.blk gT HB_s.out)
                    replace HG_a := Lib.hid (HG_a.out.trans gT)
                    replace HB_a := Lib.hid (Grow.blk gT HB_a.out)
                    replace HG_x := Lib.hid (HG_x.out.trans gT)
                    replace HB_x := Lib.hid (Grow.blk gT HB_x.out)
                    have n0 := (gT.cells nb (noff + i * 5) HNB.out).trans HN0'.out
                    have n1 := (gT.cells nb (noff + i * 5 + 1) HNB.out).trans HNN.out.1
                    have n2 := (gT.cells nb (noff + i * 5 + 2) HNB.out).trans HNN.out.2.1
                    have n3 := (gT.cells nb (noff + i * 5 + 3) HNB.out).trans HNN.out.2.2.1
                    have n4 := (gT.cells nb (noff + i * 5 + 4) HNB.out).trans HNN.out.2.2.2
                    have hnb := Nat.lt_of_lt_of_le HNB.out gT.size
                    obtain ⟨⟨m0, m1, m2, m3, m4⟩, mz⟩ := n5 HB_z.out
                    obtain ⟨⟨p0, p1, p2, p3, p4⟩, pz⟩ := n5 HB_s.out
                    cases hid : (n.id == id) with
                    | true =>
                      have hid2 : (n.id != id) = false := by rw [bne, hid]; rfl
                      go_upto_region 25 with (fail)
                      refine wp_region_gr (by kernel_rfl) (by kernel_rfl) ?_
                      repeat (first | (go_big_quiet_step (fail)) | rw [Bool.not_true] | rw [hid2])
                      refine wpQuiet_nil ?_
                      rintro _ ⟨y', rfl⟩
                      have gy := y'.g
                      generalize y'.W = wy at *
                      go_wp2_with fail
                      go_roundw
                      case rel => exact ⟨i + 1, by go_num, by omega, (hg.trans gT).trans gy⟩
                      case measure => simp [Go.RowKit.intOf]; omega
                    | false =>
                      have hzn := HZN.out (beq_eq_false_iff_ne.1 hid)
                      have kS := fun y : Gr V => sameNote_any z n _ _ _ _ y.W (Texts.grow HTZV.out y.g) (Ints.grow HSZV.out y.g) (Texts.grow HTN.out (gT.trans y.g)) (Ints.grow HSN.out (gT.trans y.g)) (by rw [hzn]; exact Nat.le_trans (HZ.out.1.note (i := i) (HNI.out)).2.1 (by decide)) (by rw [hzn]; exact Nat.le_trans (HZ.out.1.note (i := i) (HNI.out)).2.2.1 (by decide))
                      rw [same_yes hzn] at kS
                      unfold noteV at kS
                      clear hzn
                      have hid2 : (n.id != id) = true := by rw [bne, hid]; rfl
                      go_upto_region 25 with (fail)
                      refine wp_region_gr (by kernel_rfl) (by kernel_rfl) ?_
                      repeat (first | (go_big_quiet_step (first | (go_at_call 26; exact Calls.gr (kS _)))) | rw [Bool.not_true] | rw [Bool.not_false] | rw [hid2])
                      refine wpQuiet_nil ?_
                      rintro _ ⟨y', rfl⟩
                      have gy := y'.g
                      generalize y'.W = wy at *
                      go_wp2_with fail
                      go_roundw
                      case rel => exact ⟨i + 1, by go_num, by omega, (hg.trans gT).trans gy⟩
                      case measure => simp [Go.RowKit.intOf]; omega
                · have hlt' : ¬ (i : Int) < s.notes.length := by omega
                  obtain ⟨⟨p0, p1, p2, p3, p4⟩, pz⟩ := n5 HB_s.out
                  have c := awake18_any _ (HTB.out.below GW.out)
                  go_wp2_with fail
                  refine c.mono ?_
                  rintro e UA ⟨rfl, gA⟩
                  go_wp2_with fail
                  go_ret
                  exact ⟨rfl, GW.out.trans gA⟩
theorem shifts18_law (s : Shelf) (bv nv : Value) (id k : Int) (w : World) (h : ShelfArg w s bv nv) (_ : Wf id) (_ : Wf k) (hT : Tabs w) :
    Calls Tryd.prog 7 #[shelfV s bv nv, .int .i64 id, .int .i64 k] w fun e w' => e = .returned (.bool true) ∧ Grow w w' := shifts18_walk s bv nv id k w h.rows h.ints h.tags hT
end Go.Proofs.YtieohecgoaakmaaDoor
