/- The walk of the law NoteTags. -/
import Derived.Test.YtieohecgoaakmaaDoorPTags
import Derived.Test.YtieohecgoaakmaaDoorAwk18
import Derived.Test.YtieohecgoaakmaaDoorCUntag
import Derived.Test.YtieohecgoaakmaaDoorOpen
import Derived.Test.YtieohecgoaakmaaDoorGr
set_option linter.unusedVariables false
set_option linter.unusedSimpArgs false
namespace Go.Proofs.YtieohecgoaakmaaDoor
open Go.RowKit Go.Lib
set_option maxRecDepth 100000 in
set_option maxHeartbeats 8000000 in
theorem tags18_walk (s : Shelf) (bv nv : Value) (id : Int) (t : ByteArray) (w : World) (h : ShelfR w s bv nv) (hI : ∀ n ∈ s.notes, ∀ y ∈ n.sheets, Wf y) (hG : ∀ n ∈ s.notes, n.tags.length ≤ 9223372036854775807) (hT : Tabs w) :
    Calls Tryd.prog 8 #[shelfV s bv nv, .int .i64 id, .string t] w fun e w' => e = .returned (.bool true) ∧ Grow w w' := by
  have GW := Lib.hid (Grow.refl w)
  have HTB := Lib.hid hT
  obtain ⟨xa_s, xc_s, rfl⟩ := h.1.mk
  obtain ⟨ya_s, yc_s, rfl⟩ := h.2.mk
  have HR_s := Lib.hid h
  have HG_s := Lib.hid (Grow.refl w)
  have HI := Lib.hid hI
  have HGT := Lib.hid hG
  clear h hI hG hT
  unfold shelfV
  go_enter Tryd.func8, Tryd.ntmps8
  go_upto_region 1 with (fail)
  generalize hV : w.alloc (.cells #[.int .i64 s.nb, .int .i64 s.nn, .int .i64 s.ns, .slice xa_s s.books.length xc_s, .slice ya_s s.notes.length yc_s] 25) = U1
  have gV : Grow w U1 := by rw [← hV]; exact (Grow.refl w).alloc _
  have HB_s : Hid (U1.heap[w.heap.size]? = some (.cells #[.int .i64 s.nb, .int .i64 s.nn, .int .i64 s.ns, .slice xa_s s.books.length xc_s, .slice ya_s s.notes.length yc_s] 25 (0, 0))) := by rw [← hV]; exact Lib.hid (heap_alloc_new w _)
  clear hV
  replace GW := Lib.hid gV
  replace HG_s := Lib.hid gV
  clear gV
  have c := great_any s _ _ _ (HR_s.out.grow HG_s.out) HGT.out
  try unfold shelfV at c
  obtain ⟨⟨p0, p1, p2, p3, p4⟩, pz⟩ := n5 HB_s.out
  go_wp2_with fail
  refine c.mono ?_
  clear c
  clear p0 p1 p2 p3 p4 pz
  rintro e U2 ⟨g, r, rfl, hr⟩
  replace GW := Lib.hid (GW.out.trans g)
  replace HG_s := Lib.hid (HG_s.out.trans g)
  replace HB_s := Lib.hid (Grow.blk g HB_s.out)
  clear g
  cases r with
  | true =>
    clear hr
    have c := awake18_any _ (HTB.out.below GW.out)
    go_wp2_with fail
    refine c.mono ?_
    rintro e UA ⟨rfl, gA⟩
    go_wp2_with fail
    go_ret
    exact ⟨rfl, GW.out.trans gA⟩
  | false =>
    have hlow := hr rfl
    have HZ := Lib.hid (show TameS s from ⟨hlow.tame, HI.out⟩)
    have HLOW := Lib.hid hlow
    clear hr hlow
    by_cases hl_t : 60 < t.size
    · have hl2 : (60 : Int) < t.size := by omega
      have c := awake18_any _ (HTB.out.below GW.out)
      go_wp2_with fail
      refine c.mono ?_
      rintro e UA ⟨rfl, gA⟩
      go_wp2_with fail
      go_ret
      exact ⟨rfl, GW.out.trans gA⟩
    have hl2_t : ¬ (60 : Int) < t.size := by omega
    cases hm : mayS s with
    | false =>
      have c := mayS_any s _ _ _ (HR_s.out.grow HG_s.out) HZ.out (HTB.out.below GW.out)
      try unfold shelfV at c
      obtain ⟨⟨p0, p1, p2, p3, p4⟩, pz⟩ := n5 HB_s.out
      rw [hm] at c
      go_wp2_with fail
      refine c.mono ?_
      clear c
      clear p0 p1 p2 p3 p4 pz
      rintro e U3 ⟨rfl, g⟩
      replace GW := Lib.hid (GW.out.trans g)
      replace HG_s := Lib.hid (HG_s.out.trans g)
      replace HB_s := Lib.hid (Grow.blk g HB_s.out)
      have c := awake18_any _ (HTB.out.below GW.out)
      go_wp2_with fail
      refine c.mono ?_
      rintro e UA ⟨rfl, gA⟩
      go_wp2_with fail
      go_ret
      exact ⟨rfl, GW.out.trans gA⟩
    | true =>
      have c := mayS_any s _ _ _ (HR_s.out.grow HG_s.out) HZ.out (HTB.out.below GW.out)
      try unfold shelfV at c
      obtain ⟨⟨p0, p1, p2, p3, p4⟩, pz⟩ := n5 HB_s.out
      rw [hm] at c
      go_wp2_with fail
      refine c.mono ?_
      clear c
      clear p0 p1 p2 p3 p4 pz
      rintro e U3 ⟨rfl, g⟩
      replace GW := Lib.hid (GW.out.trans g)
      replace HG_s := Lib.hid (HG_s.out.trans g)
      replace HB_s := Lib.hid (Grow.blk g HB_s.out)
      have HMY := Lib.hid hm
      have HP := Lib.hid (mayS_iff.1 hm)
      clear hm g
      obtain ⟨a, na, ea, hra⟩ : ∃ a n e, tagR s id t = ⟨a, n, e⟩ := ⟨_, _, _, rfl⟩
      have hta := tag_tame s id t
      rw [hra] at hta
      have HTA := Lib.hid hta
      have HRA := Lib.hid hra
      have hee : tagE s id t = ea := by have h7 := congrArg Res.e hra; rw [tagR, resOf_e] at h7; exact h7
      have HEE := Lib.hid hee
      clear hta hra hee
      have hRES : tagR s id t = ⟨a, na, ea⟩ := HRA.out
      have HRES_a := Lib.hid hRES
      have c0 := (tag_any s _ _ id t _ (HR_s.out.grow HG_s.out) HZ.out (by omega) (HTB.out.below GW.out)).mono fun _ _ => RetC.out hRES
      clear hRES
      have c := c0
      try unfold shelfV at c
      obtain ⟨⟨p0, p1, p2, p3, p4⟩, pz⟩ := n5 HB_s.out
      go_wp2_with fail
      refine c.mono ?_
      clear c c0
      clear p0 p1 p2 p3 p4 pz
      rintro e U4 ⟨xa_a, xc_a, ya_a, yc_a, g, rfl, hr⟩
      replace GW := Lib.hid (GW.out.trans g)
      replace HG_s := Lib.hid (HG_s.out.trans g)
      replace HB_s := Lib.hid (Grow.blk g HB_s.out)
      have HL_a_s := Lib.hid HG_s.out.size
      have HM_a_s := Lib.hid (Array.getElem?_eq_some_iff.1 HB_s.out).1
      have HW_a := Lib.hid GW.out.size
      go_upto_region 4 with (fail)
      generalize hV : U4.alloc (.cells #[.int .i64 a.nb, .int .i64 a.nn, .int .i64 a.ns, .slice xa_a a.books.length xc_a, .slice ya_a a.notes.length yc_a] 25) = U5
      have gV : Grow U4 U5 := by rw [← hV]; exact (Grow.refl U4).alloc _
      have HB_a : Hid (U5.heap[U4.heap.size]? = some (.cells #[.int .i64 a.nb, .int .i64 a.nn, .int .i64 a.ns, .slice xa_a a.books.length xc_a, .slice ya_a a.notes.length yc_a] 25 (0, 0))) := by rw [← hV]; exact Lib.hid (heap_alloc_new U4 _)
      clear hV
      replace GW := Lib.hid (GW.out.trans gV)
      replace HG_s := Lib.hid (HG_s.out.trans gV)
      replace HB_s := Lib.hid (Grow.blk gV HB_s.out)
      have HG_a := Lib.hid gV
      have HR_a := Lib.hid hr
      clear hr g gV
      by_cases he0 : ea = 0
      rotate_left
      · have hne : (ea == 0) = false := beq_eq_false_iff_ne.2 he0
        have hz : a = zS := by have h7 := HRA.out; rw [tagR, resOf_no (by rw [HEE.out]; exact he0)] at h7; exact (congrArg Res.s h7).symm
        have HZZ := Lib.hid hz
        clear hz
        have c1 := sameShelf_any a zS _ _ (.slice none 0 0) (.slice none 0 0) _ (HR_a.out.grow HG_a.out) ⟨Reads.nil, Reads.nil⟩ HTA.out.1
        rw [same_yes HZZ.out] at c1
        have c := c1
        unfold shelfV zS at c
        obtain ⟨⟨p0, p1, p2, p3, p4⟩, pz⟩ := n5 HB_a.out
        go_wp2_with fail
        refine c.mono ?_
        clear c c1
        clear p0 p1 p2 p3 p4 pz
        rintro e U6 ⟨rfl, g⟩
        replace GW := Lib.hid (GW.out.trans g)
        replace HG_s := Lib.hid (HG_s.out.trans g)
        replace HB_s := Lib.hid (Grow.blk g HB_s.out)
        replace HG_a := Lib.hid (HG_a.out.trans g)
        replace HB_a := Lib.hid (Grow.blk g HB_a.out)
        clear g
        have c := awake18_any _ (HTB.out.below GW.out)
        go_wp2_with fail
        refine c.mono ?_
        rintro e UA ⟨rfl, gA⟩
        go_wp2_with fail
        go_ret
        exact ⟨rfl, GW.out.trans gA⟩
      · subst he0
        obtain ⟨f1, f2, f3, f4, f5, f6, f7⟩ := tag_all HEE.out
        rw [HRA.out] at f1 f2 f3 f4
        obtain ⟨x, hx⟩ : ∃ x, foundN a id = x := ⟨_, rfl⟩
        rw [show foundN (⟨a, na, 0⟩ : Res).s id = x from hx] at f2
        obtain ⟨b, hb⟩ : ∃ b, b = s := ⟨_, rfl⟩
        rw [show (⟨s, 0, 0⟩ : Res) = ⟨b, 0, 0⟩ by rw [hb]] at f3
        have HFN := Lib.hid hx
        have HFB := Lib.hid (show foundB a id = true from f1)
        have HF3 := Lib.hid (show untagR a id t = ⟨b, 0, 0⟩ from f3)
        obtain ⟨c2, hc2⟩ : ∃ c2, c2 = zS := ⟨_, rfl⟩
        obtain ⟨d2, hd2⟩ : ∃ d2, d2 = zS := ⟨_, rfl⟩
        have HF4 := Lib.hid (show tagR a id t = ⟨c2, 0, 7⟩ by rw [hc2]; exact f4)
        have HF5 := Lib.hid (show untagR b id t = ⟨d2, 0, 4⟩ by rw [hb, hd2]; exact f5)
        clear hc2 hd2
        have HBS := Lib.hid hb
        have HXT := Lib.hid f2
        have HF6 := Lib.hid f6
        have HF7 := Lib.hid f7
        have hxl : x.tags.length ≤ 1000000 := by rw [f2, insT_length]; have h8 := (tagE_zero.1 HEE.out).2.2.2.2; omega
        clear f1 f2 f3 f4 f5 f6 f7 hx hb
        have c0 := (find_any a _ _ id _ (HR_a.out.grow HG_a.out) HTA.out (HTB.out.below GW.out)).mono fun _ _ => RetFind.out HFN.out HFB.out
        have c := c0
        try unfold shelfV at c
        obtain ⟨⟨p0, p1, p2, p3, p4⟩, pz⟩ := n5 HB_a.out
        go_wp2_with fail
        refine c.mono ?_
        clear c c0
        clear p0 p1 p2 p3 p4 pz
        rintro e U6 ⟨ta_x, tc_x, sa_x, sc_x, g, rfl, ht, hi⟩
        replace GW := Lib.hid (GW.out.trans g)
        replace HG_s := Lib.hid (HG_s.out.trans g)
        replace HB_s := Lib.hid (Grow.blk g HB_s.out)
        replace HG_a := Lib.hid (HG_a.out.trans g)
        replace HB_a := Lib.hid (Grow.blk g HB_a.out)
        have HL_x_s := Lib.hid HG_s.out.size
        have HM_x_s := Lib.hid (Array.getElem?_eq_some_iff.1 HB_s.out).1
        have HL_x_a := Lib.hid HG_a.out.size
        have HM_x_a := Lib.hid (Array.getElem?_eq_some_iff.1 HB_a.out).1
        have HW_x := Lib.hid GW.out.size
        go_upto_region 7 with (fail)
        generalize hV : U6.alloc (.cells #[.int .i64 x.id, .int .i64 x.book, .string x.name, .slice ta_x x.tags.length tc_x, .slice sa_x x.sheets.length sc_x] 38) = U7
        have gV : Grow U6 U7 := by rw [← hV]; exact (Grow.refl U6).alloc _
        have HB_x : Hid (U7.heap[U6.heap.size]? = some (.cells #[.int .i64 x.id, .int .i64 x.book, .string x.name, .slice ta_x x.tags.length tc_x, .slice sa_x x.sheets.length sc_x] 38 (0, 0))) := by rw [← hV]; exact Lib.hid (heap_alloc_new U6 _)
        clear hV
        replace GW := Lib.hid (GW.out.trans gV)
        replace HG_s := Lib.hid (HG_s.out.trans gV)
        replace HB_s := Lib.hid (Grow.blk gV HB_s.out)
        replace HG_a := Lib.hid (HG_a.out.trans gV)
        replace HB_a := Lib.hid (Grow.blk gV HB_a.out)
        have HG_x := Lib.hid gV
        have HT_x := Lib.hid ht
        have HI_x := Lib.hid hi
        clear ht hi g gV
        have HGU := Lib.hid (Grow.refl U7)
        go_wp2_with fail
        go_loopw [11, 12] (fun v11 v12 wx => ∃ i k : Nat, v12 = .int .i64 i ∧ v11 = .int .i64 k ∧ i ≤ x.tags.length ∧ k = ((x.tags.take i).filter (fun y => y.toList == t.toList)).length ∧ k ≤ i ∧ Grow U7 wx) (fun _ v12 _ => x.tags.length - (Go.RowKit.intOf v12).toNat)
        case atStart => exact ⟨0, 0, rfl, rfl, by omega, rfl, by omega, Grow.refl _⟩
        case round =>
          obtain ⟨i, k, rfl, rfl, hi, hk, hki, hg⟩ := hrel
          have HK := Lib.hid hk
          clear hk
          replace GW := Lib.hid (GW.out.trans hg)
          replace HG_s := Lib.hid (HG_s.out.trans hg)
          replace HB_s := Lib.hid (Grow.blk hg HB_s.out)
          replace HG_a := Lib.hid (HG_a.out.trans hg)
          replace HB_a := Lib.hid (Grow.blk hg HB_a.out)
          replace HG_x := Lib.hid (HG_x.out.trans hg)
          replace HB_x := Lib.hid (Grow.blk hg HB_x.out)
          by_cases hlt : i < x.tags.length
          · have hlt' : (i : Int) < x.tags.length := by omega
            obtain ⟨y, hy, -⟩ := lt_get hlt
            have HY := Lib.hid hy
            obtain ⟨bb, off, eo, hbb, y0⟩ := Texts.at (Texts.grow HT_x.out HG_x.out) hy
            subst eo
            obtain ⟨⟨p0, p1, p2, p3, p4⟩, pz⟩ := n5 HB_x.out
            by_cases h0 : 0 < i
            · have h0' : 0 < (i : Int) := by omega
              obtain ⟨z, hz, -⟩ := lt_get (l := x.tags) (i := i - 1) (by omega)
              obtain ⟨b2, off2, eo2, -, z0⟩ := Texts.at (Texts.grow HT_x.out HG_x.out) hz
              injection eo2 with eo2
              injection eo2 with eb2 eo2
              subst eb2 eo2
              have hpw : x.tags.Pairwise (fun a b => ltS a b = true) := by rw [HXT.out]; exact HF6.out
              have hlz := less_no (pair_get hpw hz hy (by omega))
              have q1 := hlz.1
              have q2 := hlz.2
              have hsub : ((i : Int) - 1).toNat = i - 1 := by omega
              have hii : ((i : Int) - 1) = ((i - 1 : Nat) : Int) := by omega
              clear hz hlz hy hpw
              cases hyt : (y.toList == t.toList) with
              | true =>
                have HYT := Lib.hid hyt
                go_upto_region 13 with (fail)
                refine wp_region_gr (by kernel_rfl) (by kernel_rfl) ?_
                repeat (go_big_quiet_step (fail))
                refine wpQuiet_nil ?_
                rintro _ ⟨y', rfl⟩
                have gy := y'.g
                generalize y'.W = wy at *
                go_wp2_with fail
                go_roundw
                case rel => exact ⟨i + 1, k + 1, by go_num, by go_num, by omega, by rw [filter_next HY.out, if_pos HYT.out, List.length_append, HK.out]; rfl, by omega, hg.trans gy⟩
                case measure => simp [Go.RowKit.intOf]; omega
              | false =>
                have HYT := Lib.hid hyt
                go_upto_region 13 with (fail)
                refine wp_region_gr (by kernel_rfl) (by kernel_rfl) ?_
                repeat (go_big_quiet_step (fail))
                refine wpQuiet_nil ?_
                rintro _ ⟨y', rfl⟩
                have gy := y'.g
                generalize y'.W = wy at *
                go_wp2_with fail
                go_roundw
                case rel => exact ⟨i + 1, k, by go_num, rfl, by omega, by rw [filter_next HY.out, if_neg (by rw [HYT.out]; simp), List.append_nil]; exact HK.out, by omega, hg.trans gy⟩
                case measure => simp [Go.RowKit.intOf]; omega
            · have h0' : ¬ 0 < (i : Int) := by omega
              clear hy
              cases hyt : (y.toList == t.toList) with
              | true =>
                have HYT := Lib.hid hyt
                go_upto_region 13 with (fail)
                refine wp_region_gr (by kernel_rfl) (by kernel_rfl) ?_
                repeat (go_big_quiet_step (fail))
                refine wpQuiet_nil ?_
                rintro _ ⟨y', rfl⟩
                have gy := y'.g
                generalize y'.W = wy at *
                go_wp2_with fail
                go_roundw
                case rel => exact ⟨i + 1, k + 1, by go_num, by go_num, by omega, by rw [filter_next HY.out, if_pos HYT.out, List.length_append, HK.out]; rfl, by omega, hg.trans gy⟩
                case measure => simp [Go.RowKit.intOf]; omega
              | false =>
                have HYT := Lib.hid hyt
                go_upto_region 13 with (fail)
                refine wp_region_gr (by kernel_rfl) (by kernel_rfl) ?_
                repeat (go_big_quiet_step (fail))
                refine wpQuiet_nil ?_
                rintro _ ⟨y', rfl⟩
                have gy := y'.g
                generalize y'.W = wy at *
                go_wp2_with fail
                go_roundw
                case rel => exact ⟨i + 1, k, by go_num, rfl, by omega, by rw [filter_next HY.out, if_neg (by rw [HYT.out]; simp), List.append_nil]; exact HK.out, by omega, hg.trans gy⟩
                case measure => simp [Go.RowKit.intOf]; omega
          · have hlt' : ¬ (i : Int) < x.tags.length := by omega
            have hk1 : k = 1 := by rw [HK.out, List.take_of_length_le (by omega), HXT.out, insT_count HF7.out]
            subst hk1
            clear hki hi hlt hg
            obtain ⟨⟨k0, k1, k2, k3, k4⟩, kz⟩ := n5 HB_x.out
            have hRES : untagR a id t = ⟨b, 0, 0⟩ := HF3.out
            have HRES_b := Lib.hid hRES
            have c0 := (untag_any a _ _ id t _ (HR_a.out.grow HG_a.out) HTA.out (by omega) (HTB.out.below GW.out)).mono fun _ _ => RetC.out hRES
            clear hRES
            have c := c0
            try unfold shelfV at c
            obtain ⟨⟨p0, p1, p2, p3, p4⟩, pz⟩ := n5 HB_a.out
            go_wp2_with fail
            refine c.mono ?_
            clear c c0
            clear p0 p1 p2 p3 p4 pz
            rintro e U8 ⟨xa_b, xc_b, ya_b, yc_b, g, rfl, hr⟩
            replace GW := Lib.hid (GW.out.trans g)
            replace HG_s := Lib.hid (HG_s.out.trans g)
            replace HB_s := Lib.hid (Grow.blk g HB_s.out)
            replace HG_a := Lib.hid (HG_a.out.trans g)
            replace HB_a := Lib.hid (Grow.blk g HB_a.out)
            replace HG_x := Lib.hid (HG_x.out.trans g)
            replace HB_x := Lib.hid (Grow.blk g HB_x.out)
            have HL_b_s := Lib.hid HG_s.out.size
            have HM_b_s := Lib.hid (Array.getElem?_eq_some_iff.1 HB_s.out).1
            have HL_b_a := Lib.hid HG_a.out.size
            have HM_b_a := Lib.hid (Array.getElem?_eq_some_iff.1 HB_a.out).1
            have HL_b_x := Lib.hid HG_x.out.size
            have HM_b_x := Lib.hid (Array.getElem?_eq_some_iff.1 HB_x.out).1
            have HW_b := Lib.hid GW.out.size
            go_upto_region 16 with (fail)
            generalize hV : U8.alloc (.cells #[.int .i64 b.nb, .int .i64 b.nn, .int .i64 b.ns, .slice xa_b b.books.length xc_b, .slice ya_b b.notes.length yc_b] 25) = U9
            have gV : Grow U8 U9 := by rw [← hV]; exact (Grow.refl U8).alloc _
            have HB_b : Hid (U9.heap[U8.heap.size]? = some (.cells #[.int .i64 b.nb, .int .i64 b.nn, .int .i64 b.ns, .slice xa_b b.books.length xc_b, .slice ya_b b.notes.length yc_b] 25 (0, 0))) := by rw [← hV]; exact Lib.hid (heap_alloc_new U8 _)
            clear hV
            replace GW := Lib.hid (GW.out.trans gV)
            replace HG_s := Lib.hid (HG_s.out.trans gV)
            replace HB_s := Lib.hid (Grow.blk gV HB_s.out)
            replace HG_a := Lib.hid (HG_a.out.trans gV)
            replace HB_a := Lib.hid (Grow.blk gV HB_a.out)
            replace HG_x := Lib.hid (HG_x.out.trans gV)
            replace HB_x := Lib.hid (Grow.blk gV HB_x.out)
            have HG_b := Lib.hid gV
            have HR_b := Lib.hid hr
            clear hr g gV
            clear k0 k1 k2 k3 k4 kz
            have hRES : tagR a id t = ⟨c2, 0, 7⟩ := HF4.out
            have HRES_c2 := Lib.hid hRES
            have c0 := (tag_any a _ _ id t _ (HR_a.out.grow HG_a.out) HTA.out (by omega) (HTB.out.below GW.out)).mono fun _ _ => RetC.out hRES
            clear hRES
            have c := c0
            try unfold shelfV at c
            obtain ⟨⟨p0, p1, p2, p3, p4⟩, pz⟩ := n5 HB_a.out
            go_wp2_with fail
            refine c.mono ?_
            clear c c0
            clear p0 p1 p2 p3 p4 pz
            rintro e U10 ⟨xa_c2, xc_c2, ya_c2, yc_c2, g, rfl, hr⟩
            replace GW := Lib.hid (GW.out.trans g)
            replace HG_s := Lib.hid (HG_s.out.trans g)
            replace HB_s := Lib.hid (Grow.blk g HB_s.out)
            replace HG_a := Lib.hid (HG_a.out.trans g)
            replace HB_a := Lib.hid (Grow.blk g HB_a.out)
            replace HG_b := Lib.hid (HG_b.out.trans g)
            replace HB_b := Lib.hid (Grow.blk g HB_b.out)
            replace HG_x := Lib.hid (HG_x.out.trans g)
            replace HB_x := Lib.hid (Grow.blk g HB_x.out)
            have HL_c2_s := Lib.hid HG_s.out.size
            have HM_c2_s := Lib.hid (Array.getElem?_eq_some_iff.1 HB_s.out).1
            have HL_c2_a := Lib.hid HG_a.out.size
            have HM_c2_a := Lib.hid (Array.getElem?_eq_some_iff.1 HB_a.out).1
            have HL_c2_b := Lib.hid HG_b.out.size
            have HM_c2_b := Lib.hid (Array.getElem?_eq_some_iff.1 HB_b.out).1
            have HL_c2_x := Lib.hid HG_x.out.size
            have HM_c2_x := Lib.hid (Array.getElem?_eq_some_iff.1 HB_x.out).1
            have HW_c2 := Lib.hid GW.out.size
            go_upto_region 17 with (fail)
            generalize hV : U10.alloc (.cells #[.int .i64 c2.nb, .int .i64 c2.nn, .int .i64 c2.ns, .slice xa_c2 c2.books.length xc_c2, .slice ya_c2 c2.notes.length yc_c2] 25) = U11
            have gV : Grow U10 U11 := by rw [← hV]; exact (Grow.refl U10).alloc _
            have HB_c2 : Hid (U11.heap[U10.heap.size]? = some (.cells #[.int .i64 c2.nb, .int .i64 c2.nn, .int .i64 c2.ns, .slice xa_c2 c2.books.length xc_c2, .slice ya_c2 c2.notes.length yc_c2] 25 (0, 0))) := by rw [← hV]; exact Lib.hid (heap_alloc_new U10 _)
            clear hV
            replace GW := Lib.hid (GW.out.trans gV)
            replace HG_s := Lib.hid (HG_s.out.trans gV)
            replace HB_s := Lib.hid (Grow.blk gV HB_s.out)
            replace HG_a := Lib.hid (HG_a.out.trans gV)
            replace HB_a := Lib.hid (Grow.blk gV HB_a.out)
            replace HG_b := Lib.hid (HG_b.out.trans gV)
            replace HB_b := Lib.hid (Grow.blk gV HB_b.out)
            replace HG_x := Lib.hid (HG_x.out.trans gV)
            replace HB_x := Lib.hid (Grow.blk gV HB_x.out)
            have HG_c2 := Lib.hid gV
            have HR_c2 := Lib.hid hr
            clear hr g gV
            have hRES : untagR b id t = ⟨d2, 0, 4⟩ := HF5.out
            have HRES_d2 := Lib.hid hRES
            have c0 := (untag_any b _ _ id t _ (HR_b.out.grow HG_b.out) (by rw [HBS.out]; exact HZ.out) (by omega) (HTB.out.below GW.out)).mono fun _ _ => RetC.out hRES
            clear hRES
            have c := c0
            try unfold shelfV at c
            obtain ⟨⟨p0, p1, p2, p3, p4⟩, pz⟩ := n5 HB_b.out
            go_wp2_with fail
            refine c.mono ?_
            clear c c0
            clear p0 p1 p2 p3 p4 pz
            rintro e U12 ⟨xa_d2, xc_d2, ya_d2, yc_d2, g, rfl, hr⟩
            replace GW := Lib.hid (GW.out.trans g)
            replace HG_s := Lib.hid (HG_s.out.trans g)
            replace HB_s := Lib.hid (Grow.blk g HB_s.out)
            replace HG_a := Lib.hid (HG_a.out.trans g)
            replace HB_a := Lib.hid (Grow.blk g HB_a.out)
            replace HG_b := Lib.hid (HG_b.out.trans g)
            replace HB_b := Lib.hid (Grow.blk g HB_b.out)
            replace HG_c2 := Lib.hid (HG_c2.out.trans g)
            replace HB_c2 := Lib.hid (Grow.blk g HB_c2.out)
            replace HG_x := Lib.hid (HG_x.out.trans g)
            replace HB_x := Lib.hid (Grow.blk g HB_x.out)
            have HL_d2_s := Lib.hid HG_s.out.size
            have HM_d2_s := Lib.hid (Array.getElem?_eq_some_iff.1 HB_s.out).1
            have HL_d2_a := Lib.hid HG_a.out.size
            have HM_d2_a := Lib.hid (Array.getElem?_eq_some_iff.1 HB_a.out).1
            have HL_d2_b := Lib.hid HG_b.out.size
            have HM_d2_b := Lib.hid (Array.getElem?_eq_some_iff.1 HB_b.out).1
            have HL_d2_c2 := Lib.hid HG_c2.out.size
            have HM_d2_c2 := Lib.hid (Array.getElem?_eq_some_iff.1 HB_c2.out).1
            have HL_d2_x := Lib.hid HG_x.out.size
            have HM_d2_x := Lib.hid (Array.getElem?_eq_some_iff.1 HB_x.out).1
            have HW_d2 := Lib.hid GW.out.size
            go_upto_region 18 with (fail)
            generalize hV : U12.alloc (.cells #[.int .i64 d2.nb, .int .i64 d2.nn, .int .i64 d2.ns, .slice xa_d2 d2.books.length xc_d2, .slice ya_d2 d2.notes.length yc_d2] 25) = U13
            have gV : Grow U12 U13 := by rw [← hV]; exact (Grow.refl U12).alloc _
            have HB_d2 : Hid (U13.heap[U12.heap.size]? = some (.cells #[.int .i64 d2.nb, .int .i64 d2.nn, .int .i64 d2.ns, .slice xa_d2 d2.books.length xc_d2, .slice ya_d2 d2.notes.length yc_d2] 25 (0, 0))) := by rw [← hV]; exact Lib.hid (heap_alloc_new U12 _)
            clear hV
            replace GW := Lib.hid (GW.out.trans gV)
            replace HG_s := Lib.hid (HG_s.out.trans gV)
            replace HB_s := Lib.hid (Grow.blk gV HB_s.out)
            replace HG_a := Lib.hid (HG_a.out.trans gV)
            replace HB_a := Lib.hid (Grow.blk gV HB_a.out)
            replace HG_b := Lib.hid (HG_b.out.trans gV)
            replace HB_b := Lib.hid (Grow.blk gV HB_b.out)
            replace HG_c2 := Lib.hid (HG_c2.out.trans gV)
            replace HB_c2 := Lib.hid (Grow.blk gV HB_c2.out)
            replace HG_x := Lib.hid (HG_x.out.trans gV)
            replace HB_x := Lib.hid (Grow.blk gV HB_x.out)
            have HG_d2 := Lib.hid gV
            have HR_d2 := Lib.hid hr
            clear hr g gV
            have c1 := sameShelf_any b s _ _ _ _ _ (HR_b.out.grow HG_b.out) (HR_s.out.grow HG_s.out) (by rw [HBS.out]; exact HZ.out.1)
            rw [same_yes HBS.out] at c1
            have c := c1
            unfold shelfV at c
            obtain ⟨⟨p0, p1, p2, p3, p4⟩, pz⟩ := n5 HB_b.out
            obtain ⟨⟨q0, q1, q2, q3, q4⟩, qz⟩ := n5 HB_s.out
            go_wp2_with fail
            refine c.mono ?_
            clear c c1
            clear p0 p1 p2 p3 p4 pz q0 q1 q2 q3 q4 qz
            rintro e U14 ⟨rfl, g⟩
            replace GW := Lib.hid (GW.out.trans g)
            replace HG_s := Lib.hid (HG_s.out.trans g)
            replace HB_s := Lib.hid (Grow.blk g HB_s.out)
            replace HG_a := Lib.hid (HG_a.out.trans g)
            replace HB_a := Lib.hid (Grow.blk g HB_a.out)
            replace HG_b := Lib.hid (HG_b.out.trans g)
            replace HB_b := Lib.hid (Grow.blk g HB_b.out)
            replace HG_c2 := Lib.hid (HG_c2.out.trans g)
            replace HB_c2 := Lib.hid (Grow.blk g HB_c2.out)
            replace HG_d2 := Lib.hid (HG_d2.out.trans g)
            replace HB_d2 := Lib.hid (Grow.blk g HB_d2.out)
            replace HG_x := Lib.hid (HG_x.out.trans g)
            replace HB_x := Lib.hid (Grow.blk g HB_x.out)
            clear g
            have c := awake18_any _ (HTB.out.below GW.out)
            go_wp2_with fail
            refine c.mono ?_
            rintro e UA ⟨rfl, gA⟩
            go_wp2_with fail
            go_ret
            exact ⟨rfl, GW.out.trans gA⟩
theorem tags18_law (s : Shelf) (bv nv : Value) (id : Int) (t : ByteArray) (w : World) (h : ShelfArg w s bv nv) (_ : Wf id) (_ : t.size ≤ 140737488351232) (hT : Tabs w) :
    Calls Tryd.prog 8 #[shelfV s bv nv, .int .i64 id, .string t] w fun e w' => e = .returned (.bool true) ∧ Grow w w' := tags18_walk s bv nv id t w h.rows h.ints h.tags hT
end Go.Proofs.YtieohecgoaakmaaDoor
