/- The walk of the law NoteSheets. -/
import Derived.Test.YtieohecgoaakmaaDoorPSheets
import Derived.Test.YtieohecgoaakmaaDoorAwk18
import Derived.Test.YtieohecgoaakmaaDoorOpen
set_option linter.unusedVariables false
set_option linter.unusedSimpArgs false
namespace Go.Proofs.YtieohecgoaakmaaDoor
open Go.RowKit Go.Lib
set_option maxRecDepth 100000 in
set_option maxHeartbeats 8000000 in
theorem sheets18_walk (s : Shelf) (bv nv : Value) (id : Int) (w : World) (h : ShelfR w s bv nv) (hI : ∀ n ∈ s.notes, ∀ y ∈ n.sheets, Wf y) (hG : ∀ n ∈ s.notes, n.tags.length ≤ 9223372036854775807) (hT : Tabs w) :
    Calls Tryd.prog 6 #[shelfV s bv nv, .int .i64 id] w fun e w' => e = .returned (.bool true) ∧ Grow w w' := by
  have GW := Lib.hid (Grow.refl w)
  have HTB := Lib.hid hT
  obtain ⟨xa_s, xc_s, rfl⟩ := h.1.mk
  obtain ⟨ya_s, yc_s, rfl⟩ := h.2.mk
  have HR_s := Lib.hid h
  have HG_s := Lib.hid (Grow.refl w)
  have HI := Lib.hid hI
  have HGT := Lib.hid hG
  clear h hI hG hT
  unfold shelfV
  go_enter Tryd.func6, Tryd.ntmps6
  go_upto_region 1 with (fail)
  generalize hV : w.alloc (.cells #[.int .i64 s.nb, .int .i64 s.nn, .int .i64 s.ns, .slice xa_s s.books.length xc_s, .slice ya_s s.notes.length yc_s] 25) = U1
  have gV : Grow w U1 := by rw [← hV]; exact (Grow.refl w).alloc _
  have HB_s : Hid (U1.heap[w.heap.size]? = some (.cells #[.int .i64 s.nb, .int .i64 s.nn, .int .i64 s.ns, .slice xa_s s.books.length xc_s, .slice ya_s s.notes.length yc_s] 25 (0, 0))) := by rw [← hV]; exact Lib.hid (heap_alloc_new w _)
  clear hV
  replace GW := Lib.hid gV
  replace HG_s := Lib.hid gV
  clear gV
  have c := great_any s _ _ _ (HR_s.out.grow HG_s.out) HGT.out
  try unfold shelfV at c
  obtain ⟨⟨p0, p1, p2, p3, p4⟩, pz⟩ := n5 HB_s.out
  go_wp2_with fail
  refine c.mono ?_
  clear c
  clear p0 p1 p2 p3 p4 pz
  rintro e U2 ⟨g, r, rfl, hr⟩
  replace GW := Lib.hid (GW.out.trans g)
  replace HG_s := Lib.hid (HG_s.out.trans g)
  replace HB_s := Lib.hid (Grow.blk g HB_s.out)
  clear g
  cases r with
  | true =>
    clear hr
    have c := awake18_any _ (HTB.out.below GW.out)
    go_wp2_with fail
    refine c.mono ?_
    rintro e UA ⟨rfl, gA⟩
    go_wp2_with fail
    go_ret
    exact ⟨rfl, GW.out.trans gA⟩
  | false =>
    have hlow := hr rfl
    have HZ := Lib.hid (show TameS s from ⟨hlow.tame, HI.out⟩)
    have HLOW := Lib.hid hlow
    clear hr hlow
    cases hm : mayS s with
    | false =>
      have c := mayS_any s _ _ _ (HR_s.out.grow HG_s.out) HZ.out (HTB.out.below GW.out)
      try unfold shelfV at c
      obtain ⟨⟨p0, p1, p2, p3, p4⟩, pz⟩ := n5 HB_s.out
      rw [hm] at c
      go_wp2_with fail
      refine c.mono ?_
      clear c
      clear p0 p1 p2 p3 p4 pz
      rintro e U3 ⟨rfl, g⟩
      replace GW := Lib.hid (GW.out.trans g)
      replace HG_s := Lib.hid (HG_s.out.trans g)
      replace HB_s := Lib.hid (Grow.blk g HB_s.out)
      have c := awake18_any _ (HTB.out.below GW.out)
      go_wp2_with fail
      refine c.mono ?_
      rintro e UA ⟨rfl, gA⟩
      go_wp2_with fail
      go_ret
      exact ⟨rfl, GW.out.trans gA⟩
    | true =>
      have c := mayS_any s _ _ _ (HR_s.out.grow HG_s.out) HZ.out (HTB.out.below GW.out)
      try unfold shelfV at c
      obtain ⟨⟨p0, p1, p2, p3, p4⟩, pz⟩ := n5 HB_s.out
      rw [hm] at c
      go_wp2_with fail
      refine c.mono ?_
      clear c
      clear p0 p1 p2 p3 p4 pz
      rintro e U3 ⟨rfl, g⟩
      replace GW := Lib.hid (GW.out.trans g)
      replace HG_s := Lib.hid (HG_s.out.trans g)
      replace HB_s := Lib.hid (Grow.blk g HB_s.out)
      have HMY := Lib.hid hm
      have HP := Lib.hid (mayS_iff.1 hm)
      clear hm g
      obtain ⟨a, na, ea, hra⟩ : ∃ a n e, appendR s id = ⟨a, n, e⟩ := ⟨_, _, _, rfl⟩
      have hta := append_tame s id
      rw [hra] at hta
      have HTA := Lib.hid hta
      have HRA := Lib.hid hra
      have hee : appendE s id = ea := by have h7 := congrArg Res.e hra; rw [appendR, resOf_e] at h7; exact h7
      have HEE := Lib.hid hee
      obtain ⟨x, hx⟩ : ∃ x, foundN s id = x := ⟨_, rfl⟩
      obtain ⟨xb, hxb⟩ : ∃ x, foundB s id = x := ⟨_, rfl⟩
      have HFN := Lib.hid hx
      have HFB := Lib.hid hxb
      clear hta hra hee hx hxb
      have c0 := (find_any s _ _ id _ (HR_s.out.grow HG_s.out) HZ.out (HTB.out.below GW.out)).mono fun _ _ => RetFind.out HFN.out HFB.out
      have c := c0
      try unfold shelfV at c
      obtain ⟨⟨p0, p1, p2, p3, p4⟩, pz⟩ := n5 HB_s.out
      go_wp2_with fail
      refine c.mono ?_
      clear c c0
      clear p0 p1 p2 p3 p4 pz
      rintro e U4 ⟨ta_x, tc_x, sa_x, sc_x, g, rfl, ht, hi⟩
      replace GW := Lib.hid (GW.out.trans g)
      replace HG_s := Lib.hid (HG_s.out.trans g)
      replace HB_s := Lib.hid (Grow.blk g HB_s.out)
      have HL_x_s := Lib.hid HG_s.out.size
      have HM_x_s := Lib.hid (Array.getElem?_eq_some_iff.1 HB_s.out).1
      have HW_x := Lib.hid GW.out.size
      go_upto_region 4 with (fail)
      generalize hV : U4.alloc (.cells #[.int .i64 x.id, .int .i64 x.book, .string x.name, .slice ta_x x.tags.length tc_x, .slice sa_x x.sheets.length sc_x] 38) = U5
      have gV : Grow U4 U5 := by rw [← hV]; exact (Grow.refl U4).alloc _
      have HB_x : Hid (U5.heap[U4.heap.size]? = some (.cells #[.int .i64 x.id, .int .i64 x.book, .string x.name, .slice ta_x x.tags.length tc_x, .slice sa_x x.sheets.length sc_x] 38 (0, 0))) := by rw [← hV]; exact Lib.hid (heap_alloc_new U4 _)
      clear hV
      replace GW := Lib.hid (GW.out.trans gV)
      replace HG_s := Lib.hid (HG_s.out.trans gV)
      replace HB_s := Lib.hid (Grow.blk gV HB_s.out)
      have HG_x := Lib.hid gV
      have HT_x := Lib.hid ht
      have HI_x := Lib.hid hi
      clear ht hi g gV
      have hRES : appendR s id = ⟨a, na, ea⟩ := HRA.out
      have HRES_a := Lib.hid hRES
      have c0 := (append_any s _ _ id _ (HR_s.out.grow HG_s.out) HZ.out (HTB.out.below GW.out)).mono fun _ _ => RetM.out hRES
      clear hRES
      have c := c0
      try unfold shelfV at c
      obtain ⟨⟨p0, p1, p2, p3, p4⟩, pz⟩ := n5 HB_s.out
      go_wp2_with fail
      refine c.mono ?_
      clear c c0
      clear p0 p1 p2 p3 p4 pz
      rintro e U6 ⟨xa_a, xc_a, ya_a, yc_a, g, rfl, hr⟩
      replace GW := Lib.hid (GW.out.trans g)
      replace HG_s := Lib.hid (HG_s.out.trans g)
      replace HB_s := Lib.hid (Grow.blk g HB_s.out)
      replace HG_x := Lib.hid (HG_x.out.trans g)
      replace HB_x := Lib.hid (Grow.blk g HB_x.out)
      have HL_a_s := Lib.hid HG_s.out.size
      have HM_a_s := Lib.hid (Array.getElem?_eq_some_iff.1 HB_s.out).1
      have HL_a_x := Lib.hid HG_x.out.size
      have HM_a_x := Lib.hid (Array.getElem?_eq_some_iff.1 HB_x.out).1
      have HW_a := Lib.hid GW.out.size
      go_upto_region 5 with (fail)
      generalize hV : U6.alloc (.cells #[.int .i64 a.nb, .int .i64 a.nn, .int .i64 a.ns, .slice xa_a a.books.length xc_a, .slice ya_a a.notes.length yc_a] 25) = U7
      have gV : Grow U6 U7 := by rw [← hV]; exact (Grow.refl U6).alloc _
      have HB_a : Hid (U7.heap[U6.heap.size]? = some (.cells #[.int .i64 a.nb, .int .i64 a.nn, .int .i64 a.ns, .slice xa_a a.books.length xc_a, .slice ya_a a.notes.length yc_a] 25 (0, 0))) := by rw [← hV]; exact Lib.hid (heap_alloc_new U6 _)
      clear hV
      replace GW := Lib.hid (GW.out.trans gV)
      replace HG_s := Lib.hid (HG_s.out.trans gV)
      replace HB_s := Lib.hid (Grow.blk gV HB_s.out)
      replace HG_x := Lib.hid (HG_x.out.trans gV)
      replace HB_x := Lib.hid (Grow.blk gV HB_x.out)
      have HG_a := Lib.hid gV
      have HR_a := Lib.hid hr
      clear hr g gV
      by_cases he0 : ea = 0
      rotate_left
      · have hne : (ea == 0) = false := beq_eq_false_iff_ne.2 he0
        obtain rfl : na = 0 := by have h7 := HRA.out; rw [appendR, resOf_no (by rw [HEE.out]; exact he0)] at h7; exact (congrArg Res.n h7).symm
        rcases append_no HMY.out (by rw [HEE.out]; exact he0) with ⟨h1, h2⟩ | ⟨h1, h2⟩
        · rw [HFB.out] at h1
          rw [HEE.out] at h2
          subst h1 h2
          clear he0 hne
          have c := awake18_any _ (HTB.out.below GW.out)
          go_wp2_with fail
          refine c.mono ?_
          rintro e UA ⟨rfl, gA⟩
          go_wp2_with fail
          go_ret
          exact ⟨rfl, GW.out.trans gA⟩
        · rw [HFB.out] at h1
          rw [HEE.out] at h2
          subst h1 h2
          clear he0 hne
          have c := awake18_any _ (HTB.out.below GW.out)
          go_wp2_with fail
          refine c.mono ?_
          rintro e UA ⟨rfl, gA⟩
          go_wp2_with fail
          go_ret
          exact ⟨rfl, GW.out.trans gA⟩
      · subst he0
        obtain ⟨f1, f2, f3, f4, f5, f6, f7⟩ := append_all HEE.out
        obtain rfl : xb = true := HFB.out.symm.trans f1
        rw [HFN.out] at f2
        rw [HRA.out, ← f2] at f3 f4 f5 f6 f7
        obtain rfl : na = s.ns := by have h7 := HRA.out; rw [append_s HEE.out] at h7; exact (congrArg Res.n h7).symm
        obtain ⟨b, hb⟩ : ∃ b, b = ({ s with ns := s.ns + 1 } : Shelf) := ⟨_, rfl⟩
        rw [show (⟨{ s with ns := s.ns + 1 }, s.ns, 0⟩ : Res) = ⟨b, s.ns, 0⟩ by rw [hb]] at f6
        have htb := remove_tame a id (x.sheets.length : Nat)
        rw [show removeR a id (x.sheets.length : Nat) = ⟨b, s.ns, 0⟩ from f6] at htb
        have HF3 := Lib.hid f3
        have HF4 := Lib.hid f4
        have HF5 := Lib.hid f5
        have HF6 := Lib.hid f6
        have HF7 := Lib.hid f7
        have HBS := Lib.hid hb
        have HTBB := Lib.hid htb
        have hxl : x.sheets.length ≤ 1000000 := by rw [f2]; have h8 := (appendE_zero.1 HEE.out).2.2.1; omega
        clear f1 f2 f3 f4 f5 f6 f7 hb htb
        go_wp2_with fail
        go_loopw [10] (fun v10 wx => ∃ i : Nat, v10 = .int .i64 i ∧ i ≤ x.sheets.length ∧ Grow U7 wx) (fun v10 _ => x.sheets.length - (Go.RowKit.intOf v10).toNat)
        case atStart => exact ⟨0, rfl, by omega, Grow.refl _⟩
        case round =>
          obtain ⟨i, rfl, hi, hg⟩ := hrel
          replace GW := Lib.hid (GW.out.trans hg)
          replace HG_s := Lib.hid (HG_s.out.trans hg)
          replace HB_s := Lib.hid (Grow.blk hg HB_s.out)
          replace HG_a := Lib.hid (HG_a.out.trans hg)
          replace HB_a := Lib.hid (Grow.blk hg HB_a.out)
          replace HG_x := Lib.hid (HG_x.out.trans hg)
          replace HB_x := Lib.hid (Grow.blk hg HB_x.out)
          by_cases hlt : i < x.sheets.length
          · have hlt' : (i : Int) < x.sheets.length := by omega
            obtain ⟨y, hy, -⟩ := lt_get hlt
            obtain ⟨bb, off, eo, hbb, y0⟩ := Ints.at (Ints.grow HI_x.out HG_x.out) hy
            subst eo
            have hE := HF3.out i y hy
            have HY0 := Lib.hid y0
            have HBB := Lib.hid hbb
            clear hy y0 hbb
            obtain ⟨⟨k0, k1, k2, k3, k4⟩, kz⟩ := n5 HB_x.out
            have c := nSheet_any a _ _ id i _ (HR_a.out.grow HG_a.out) HTA.out (HTB.out.below GW.out)
            rw [show sheetE a id i = 0 from hE.1, show sheetV a id i = y from hE.2] at c
            try unfold shelfV at c
            obtain ⟨⟨p0, p1, p2, p3, p4⟩, pz⟩ := n5 HB_a.out
            go_wp2_with fail
            refine c.mono ?_
            clear c
            clear p0 p1 p2 p3 p4 pz
            rintro e U8 ⟨rfl, g⟩
            replace GW := Lib.hid (GW.out.trans g)
            replace HG_s := Lib.hid (HG_s.out.trans g)
            replace HB_s := Lib.hid (Grow.blk g HB_s.out)
            replace HG_a := Lib.hid (HG_a.out.trans g)
            replace HB_a := Lib.hid (Grow.blk g HB_a.out)
            replace HG_x := Lib.hid (HG_x.out.trans g)
            replace HB_x := Lib.hid (Grow.blk g HB_x.out)
            clear k0 k1 k2 k3 k4 kz hE
            have y0 := (g.cells bb (off + i) HBB.out).trans HY0.out
            have hbb := Nat.lt_of_lt_of_le HBB.out g.size
            obtain ⟨⟨k0, k1, k2, k3, k4⟩, kz⟩ := n5 HB_x.out
            go_wp2_with fail
            go_roundw
            case rel => exact ⟨i + 1, by go_num, by omega, hg.trans g⟩
            case measure => simp [Go.RowKit.intOf]; omega
          · have hlt' : ¬ (i : Int) < x.sheets.length := by omega
            clear hi hlt hg
            obtain ⟨⟨k0, k1, k2, k3, k4⟩, kz⟩ := n5 HB_x.out
            have c := nSheet_any a _ _ id (x.sheets.length : Nat) _ (HR_a.out.grow HG_a.out) HTA.out (HTB.out.below GW.out)
            rw [show sheetE a id (x.sheets.length : Nat) = 0 from HF4.out, show sheetV a id (x.sheets.length : Nat) = s.ns from HF5.out] at c
            try unfold shelfV at c
            obtain ⟨⟨p0, p1, p2, p3, p4⟩, pz⟩ := n5 HB_a.out
            go_wp2_with fail
            refine c.mono ?_
            clear c
            clear p0 p1 p2 p3 p4 pz
            rintro e U8 ⟨rfl, g⟩
            replace GW := Lib.hid (GW.out.trans g)
            replace HG_s := Lib.hid (HG_s.out.trans g)
            replace HB_s := Lib.hid (Grow.blk g HB_s.out)
            replace HG_a := Lib.hid (HG_a.out.trans g)
            replace HB_a := Lib.hid (Grow.blk g HB_a.out)
            replace HG_x := Lib.hid (HG_x.out.trans g)
            replace HB_x := Lib.hid (Grow.blk g HB_x.out)
            clear g k0 k1 k2 k3 k4 kz
            obtain ⟨⟨k0, k1, k2, k3, k4⟩, kz⟩ := n5 HB_x.out
            have hRES : removeR a id (x.sheets.length : Nat) = ⟨b, s.ns, 0⟩ := HF6.out
            have HRES_b := Lib.hid hRES
            have c0 := (remove_any a _ _ id (x.sheets.length : Nat) _ (HR_a.out.grow HG_a.out) HTA.out (HTB.out.below GW.out)).mono fun _ _ => RetM.out hRES
            clear hRES
            have c := c0
            try unfold shelfV at c
            obtain ⟨⟨p0, p1, p2, p3, p4⟩, pz⟩ := n5 HB_a.out
            go_wp2_with fail
            refine c.mono ?_
            clear c c0
            clear p0 p1 p2 p3 p4 pz
            rintro e U9 ⟨xa_b, xc_b, ya_b, yc_b, g, rfl, hr⟩
            replace GW := Lib.hid (GW.out.trans g)
            replace HG_s := Lib.hid (HG_s.out.trans g)
            replace HB_s := Lib.hid (Grow.blk g HB_s.out)
            replace HG_a := Lib.hid (HG_a.out.trans g)
            replace HB_a := Lib.hid (Grow.blk g HB_a.out)
            replace HG_x := Lib.hid (HG_x.out.trans g)
            replace HB_x := Lib.hid (Grow.blk g HB_x.out)
            have HL_b_s := Lib.hid HG_s.out.size
            have HM_b_s := Lib.hid (Array.getElem?_eq_some_iff.1 HB_s.out).1
            have HL_b_a := Lib.hid HG_a.out.size
            have HM_b_a := Lib.hid (Array.getElem?_eq_some_iff.1 HB_a.out).1
            have HL_b_x := Lib.hid HG_x.out.size
            have HM_b_x := Lib.hid (Array.getElem?_eq_some_iff.1 HB_x.out).1
            have HW_b := Lib.hid GW.out.size
            go_upto_region 15 with (fail)
            generalize hV : U9.alloc (.cells #[.int .i64 b.nb, .int .i64 b.nn, .int .i64 b.ns, .slice xa_b b.books.length xc_b, .slice ya_b b.notes.length yc_b] 25) = U10
            have gV : Grow U9 U10 := by rw [← hV]; exact (Grow.refl U9).alloc _
            have HB_b : Hid (U10.heap[U9.heap.size]? = some (.cells #[.int .i64 b.nb, .int .i64 b.nn, .int .i64 b.ns, .slice xa_b b.books.length xc_b, .slice ya_b b.notes.length yc_b] 25 (0, 0))) := by rw [← hV]; exact Lib.hid (heap_alloc_new U9 _)
            clear hV
            replace GW := Lib.hid (GW.out.trans gV)
            replace HG_s := Lib.hid (HG_s.out.trans gV)
            replace HB_s := Lib.hid (Grow.blk gV HB_s.out)
            replace HG_a := Lib.hid (HG_a.out.trans gV)
            replace HB_a := Lib.hid (Grow.blk gV HB_a.out)
            replace HG_x := Lib.hid (HG_x.out.trans gV)
            replace HB_x := Lib.hid (Grow.blk gV HB_x.out)
            have HG_b := Lib.hid gV
            have HR_b := Lib.hid hr
            clear hr g gV
            clear k0 k1 k2 k3 k4 kz
            obtain ⟨⟨p0, p1, p2, p3, p4⟩, pz⟩ := n5 HB_s.out
            obtain ⟨⟨q0, q1, q2, q3, q4⟩, qz⟩ := n5 HB_b.out
            have hbf := frozen_of_row U10 _ 2 _ _ HB_b.out
            go_upto_region 16 with (fail)
            have hT := turned_cell U10 U9.heap.size 2 (.int .i64 s.ns)
            have hB : (U10.setCell ⟨U9.heap.size, 2, none⟩ (.int .i64 s.ns)).heap[U9.heap.size]? = some (.cells #[.int .i64 b.nb, .int .i64 b.nn, .int .i64 s.ns, .slice xa_b b.books.length xc_b, .slice ya_b b.notes.length yc_b] 25 (0, 0)) := heap_setCell_same U10 U9.heap.size 2 _ _ (.int .i64 s.ns) HB_b.out
            replace GW := Lib.hid (hT.grow GW.out HW_b.out)
            replace HG_s := Lib.hid (hT.grow HG_s.out HL_b_s.out)
            replace HB_s := Lib.hid ((hT.block _ (Nat.lt_of_lt_of_le HM_b_s.out (Nat.le_of_lt (Array.getElem?_eq_some_iff.1 HB_b.out).1)) (Nat.ne_of_lt HM_b_s.out)).trans HB_s.out)
            replace HG_a := Lib.hid (hT.grow HG_a.out HL_b_a.out)
            replace HB_a := Lib.hid ((hT.block _ (Nat.lt_of_lt_of_le HM_b_a.out (Nat.le_of_lt (Array.getElem?_eq_some_iff.1 HB_b.out).1)) (Nat.ne_of_lt HM_b_a.out)).trans HB_a.out)
            replace HG_b := Lib.hid (hT.grow HG_b.out (Nat.le_refl _))
            replace HG_x := Lib.hid (hT.grow HG_x.out HL_b_x.out)
            replace HB_x := Lib.hid ((hT.block _ (Nat.lt_of_lt_of_le HM_b_x.out (Nat.le_of_lt (Array.getElem?_eq_some_iff.1 HB_b.out).1)) (Nat.ne_of_lt HM_b_x.out)).trans HB_x.out)
            replace HB_b := Lib.hid hB
            clear hT hB
            generalize U10.setCell ⟨U9.heap.size, 2, none⟩ (.int .i64 s.ns) = U11 at *
            clear hbf p0 p1 p2 p3 p4 q0 q1 q2 q3 q4 pz qz
            obtain ⟨⟨k0, k1, k2, k3, k4⟩, kz⟩ := n5 HB_x.out
            have c := nSheet_any a _ _ id ((x.sheets.length : Nat) + 1) _ (HR_a.out.grow HG_a.out) HTA.out (HTB.out.below GW.out)
            rw [show sheetE a id ((x.sheets.length : Nat) + 1) = 2 from HF7.out] at c
            try unfold shelfV at c
            obtain ⟨⟨p0, p1, p2, p3, p4⟩, pz⟩ := n5 HB_a.out
            go_wp2_with fail
            refine c.mono ?_
            clear c
            clear p0 p1 p2 p3 p4 pz
            rintro e U12 ⟨rfl, g⟩
            replace GW := Lib.hid (GW.out.trans g)
            replace HG_s := Lib.hid (HG_s.out.trans g)
            replace HB_s := Lib.hid (Grow.blk g HB_s.out)
            replace HG_a := Lib.hid (HG_a.out.trans g)
            replace HB_a := Lib.hid (Grow.blk g HB_a.out)
            replace HG_b := Lib.hid (HG_b.out.trans g)
            replace HB_b := Lib.hid (Grow.blk g HB_b.out)
            replace HG_x := Lib.hid (HG_x.out.trans g)
            replace HB_x := Lib.hid (Grow.blk g HB_x.out)
            clear g k0 k1 k2 k3 k4 kz
            have c1 := sameShelf_any ({ b with ns := s.ns } : Shelf) s _ _ _ _ _ (show ShelfR _ ({ b with ns := s.ns } : Shelf) _ _ from (HR_b.out.grow HG_b.out)) (HR_s.out.grow HG_s.out) (show Tame ({ b with ns := s.ns } : Shelf) from HTBB.out.1)
            rw [same_yes (by rw [HBS.out])] at c1
            have c := c1
            unfold shelfV at c
            dsimp only at c
            obtain ⟨⟨p0, p1, p2, p3, p4⟩, pz⟩ := n5 HB_b.out
            obtain ⟨⟨q0, q1, q2, q3, q4⟩, qz⟩ := n5 HB_s.out
            go_wp2_with fail
            refine c.mono ?_
            clear c c1
            clear p0 p1 p2 p3 p4 pz q0 q1 q2 q3 q4 qz
            rintro e U13 ⟨rfl, g⟩
            replace GW := Lib.hid (GW.out.trans g)
            replace HG_s := Lib.hid (HG_s.out.trans g)
            replace HB_s := Lib.hid (Grow.blk g HB_s.out)
            replace HG_a := Lib.hid (HG_a.out.trans g)
            replace HB_a := Lib.hid (Grow.blk g HB_a.out)
            replace HG_b := Lib.hid (HG_b.out.trans g)
            replace HB_b := Lib.hid (Grow.blk g HB_b.out)
            replace HG_x := Lib.hid (HG_x.out.trans g)
            replace HB_x := Lib.hid (Grow.blk g HB_x.out)
            clear g
            have c := awake18_any _ (HTB.out.below GW.out)
            go_wp2_with fail
            refine c.mono ?_
            rintro e UA ⟨rfl, gA⟩
            go_wp2_with fail
            go_ret
            exact ⟨rfl, GW.out.trans gA⟩
theorem sheets18_law (s : Shelf) (bv nv : Value) (id : Int) (w : World) (h : ShelfArg w s bv nv) (_ : Wf id) (hT : Tabs w) :
    Calls Tryd.prog 6 #[shelfV s bv nv, .int .i64 id] w fun e w' => e = .returned (.bool true) ∧ Grow w w' := sheets18_walk s bv nv id w h.rows h.ints h.tags hT
end Go.Proofs.YtieohecgoaakmaaDoor
