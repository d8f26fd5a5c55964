/- The walk of the law ShelfDrops. -/
import Derived.Test.YtieohecgoaakmaaDoorPLists
import Derived.Test.YtieohecgoaakmaaDoorAwk17
import Derived.Test.YtieohecgoaakmaaDoorCDrop
import Derived.Test.YtieohecgoaakmaaDoorCDiscard
import Derived.Test.YtieohecgoaakmaaDoorOpen
import Derived.Test.YtieohecgoaakmaaDoorGr
import Derived.Deep.RegionLaw
import Derived.Test.YtieohecgoaakmaaDoorOutI
set_option linter.unusedVariables false
set_option linter.unusedSimpArgs false
namespace Go.Proofs.YtieohecgoaakmaaDoor
open Go.RowKit Go.Lib
set_option maxRecDepth 100000 in
set_option maxHeartbeats 8000000 in
theorem drops17_walk (s : Shelf) (bv nv : Value) (id : Int) (w : World) (h : ShelfR w s bv nv) (hI : ∀ n ∈ s.notes, ∀ y ∈ n.sheets, Wf y) (hG : ∀ n ∈ s.notes, n.tags.length ≤ 9223372036854775807) (hT : Tabs w) :
    Calls Tryd.prog 4 #[shelfV s bv nv, .int .i64 id] w fun e w' => e = .returned (.bool true) ∧ Grow w w' := by
  have GW := Lib.hid (Grow.refl w)
  have HTB := Lib.hid hT
  obtain ⟨xa_s, xc_s, rfl⟩ := h.1.mk
  obtain ⟨ya_s, yc_s, rfl⟩ := h.2.mk
  have HR_s := Lib.hid h
  have HG_s := Lib.hid (Grow.refl w)
  have HI := Lib.hid hI
  have HGT := Lib.hid hG
  clear h hI hG hT
  unfold shelfV
  go_enter Tryd.func4, Tryd.ntmps4
  go_upto_region 1 with (fail)
  generalize hV : w.alloc (.cells #[.int .i64 s.nb, .int .i64 s.nn, .int .i64 s.ns, .slice xa_s s.books.length xc_s, .slice ya_s s.notes.length yc_s] 25) = U1
  have gV : Grow w U1 := by rw [← hV]; exact (Grow.refl w).alloc _
  have HB_s : Hid (U1.heap[w.heap.size]? = some (.cells #[.int .i64 s.nb, .int .i64 s.nn, .int .i64 s.ns, .slice xa_s s.books.length xc_s, .slice ya_s s.notes.length yc_s] 25 (0, 0))) := by rw [← hV]; exact Lib.hid (heap_alloc_new w _)
  clear hV
  replace GW := Lib.hid gV
  replace HG_s := Lib.hid gV
  clear gV
  have c := great_any s _ _ _ (HR_s.out.grow HG_s.out) HGT.out
  try unfold shelfV at c
  obtain ⟨⟨p0, p1, p2, p3, p4⟩, pz⟩ := n5 HB_s.out
  go_wp2_with fail
  refine c.mono ?_
  clear c
  clear p0 p1 p2 p3 p4 pz
  rintro e U2 ⟨g, r, rfl, hr⟩
  replace GW := Lib.hid (GW.out.trans g)
  replace HG_s := Lib.hid (HG_s.out.trans g)
  replace HB_s := Lib.hid (Grow.blk g HB_s.out)
  clear g
  cases r with
  | true =>
    clear hr
    have c := awake17_any _ (HTB.out.below GW.out)
    go_wp2_with fail
    refine c.mono ?_
    rintro e UA ⟨rfl, gA⟩
    go_wp2_with fail
    go_ret
    exact ⟨rfl, GW.out.trans gA⟩
  | false =>
    have hlow := hr rfl
    have HZ := Lib.hid (show TameS s from ⟨hlow.tame, HI.out⟩)
    have HLOW := Lib.hid hlow
    clear hr hlow
    cases hm : mayS s with
    | false =>
      have c := mayS_any s _ _ _ (HR_s.out.grow HG_s.out) HZ.out (HTB.out.below GW.out)
      try unfold shelfV at c
      obtain ⟨⟨p0, p1, p2, p3, p4⟩, pz⟩ := n5 HB_s.out
      rw [hm] at c
      go_wp2_with fail
      refine c.mono ?_
      clear c
      clear p0 p1 p2 p3 p4 pz
      rintro e U3 ⟨rfl, g⟩
      replace GW := Lib.hid (GW.out.trans g)
      replace HG_s := Lib.hid (HG_s.out.trans g)
      replace HB_s := Lib.hid (Grow.blk g HB_s.out)
      have c := awake17_any _ (HTB.out.below GW.out)
      go_wp2_with fail
      refine c.mono ?_
      rintro e UA ⟨rfl, gA⟩
      go_wp2_with fail
      go_ret
      exact ⟨rfl, GW.out.trans gA⟩
    | true =>
      have c := mayS_any s _ _ _ (HR_s.out.grow HG_s.out) HZ.out (HTB.out.below GW.out)
      try unfold shelfV at c
      obtain ⟨⟨p0, p1, p2, p3, p4⟩, pz⟩ := n5 HB_s.out
      rw [hm] at c
      go_wp2_with fail
      refine c.mono ?_
      clear c
      clear p0 p1 p2 p3 p4 pz
      rintro e U3 ⟨rfl, g⟩
      replace GW := Lib.hid (GW.out.trans g)
      replace HG_s := Lib.hid (HG_s.out.trans g)
      replace HB_s := Lib.hid (Grow.blk g HB_s.out)
      have HMY := Lib.hid hm
      have HP := Lib.hid (mayS_iff.1 hm)
      clear hm g
      obtain ⟨a, na, ea, hra⟩ : ∃ a n e, dropR s id = ⟨a, n, e⟩ := ⟨_, _, _, rfl⟩
      have hta := drop_tame s id
      rw [hra] at hta
      have HTA := Lib.hid hta
      have HRA := Lib.hid hra
      have hee : dropE s id = ea := by have h7 := congrArg Res.e hra; rw [dropR, resOf_e] at h7; exact h7
      have HEE := Lib.hid hee
      obtain ⟨L, hL⟩ : ∃ L, notesI s id = L := ⟨_, rfl⟩
      have HL := Lib.hid hL
      clear hta hra hee hL
      have hRES : dropR s id = ⟨a, na, ea⟩ := HRA.out
      have HRES_a := Lib.hid hRES
      have c0 := (drop_any s _ _ id _ (HR_s.out.grow HG_s.out) HZ.out (HTB.out.below GW.out)).mono fun _ _ => RetC.out hRES
      clear hRES
      have c := c0
      try unfold shelfV at c
      obtain ⟨⟨p0, p1, p2, p3, p4⟩, pz⟩ := n5 HB_s.out
      go_wp2_with fail
      refine c.mono ?_
      clear c c0
      clear p0 p1 p2 p3 p4 pz
      rintro e U4 ⟨xa_a, xc_a, ya_a, yc_a, g, rfl, hr⟩
      replace GW := Lib.hid (GW.out.trans g)
      replace HG_s := Lib.hid (HG_s.out.trans g)
      replace HB_s := Lib.hid (Grow.blk g HB_s.out)
      have HL_a_s := Lib.hid HG_s.out.size
      have HM_a_s := Lib.hid (Array.getElem?_eq_some_iff.1 HB_s.out).1
      have HW_a := Lib.hid GW.out.size
      go_upto_region 4 with (fail)
      generalize hV : U4.alloc (.cells #[.int .i64 a.nb, .int .i64 a.nn, .int .i64 a.ns, .slice xa_a a.books.length xc_a, .slice ya_a a.notes.length yc_a] 25) = U5
      have gV : Grow U4 U5 := by rw [← hV]; exact (Grow.refl U4).alloc _
      have HB_a : Hid (U5.heap[U4.heap.size]? = some (.cells #[.int .i64 a.nb, .int .i64 a.nn, .int .i64 a.ns, .slice xa_a a.books.length xc_a, .slice ya_a a.notes.length yc_a] 25 (0, 0))) := by rw [← hV]; exact Lib.hid (heap_alloc_new U4 _)
      clear hV
      replace GW := Lib.hid (GW.out.trans gV)
      replace HG_s := Lib.hid (HG_s.out.trans gV)
      replace HB_s := Lib.hid (Grow.blk gV HB_s.out)
      have HG_a := Lib.hid gV
      have HR_a := Lib.hid hr
      clear hr g gV
      have c := notes_out s _ _ id _ (HR_s.out.grow HG_s.out) HZ.out (HTB.out.below GW.out) HL.out HEE.out
      try unfold shelfV at c
      obtain ⟨⟨p0, p1, p2, p3, p4⟩, pz⟩ := n5 HB_s.out
      go_wp2_with fail
      refine c.mono ?_
      clear c
      clear p0 p1 p2 p3 p4 pz
      rintro e U6 ⟨ia, ic, g, rfl, hit⟩
      replace GW := Lib.hid (GW.out.trans g)
      replace HG_s := Lib.hid (HG_s.out.trans g)
      replace HB_s := Lib.hid (Grow.blk g HB_s.out)
      replace HG_a := Lib.hid (HG_a.out.trans g)
      replace HB_a := Lib.hid (Grow.blk g HB_a.out)
      have HIT := Lib.hid hit
      clear g hit
      by_cases he0 : ea = 0
      rotate_left
      · have h4 : ea = 4 := HEE.out.symm.trans (dropE_may HMY.out (by rw [HEE.out]; exact he0))
        subst h4
        clear he0
        have c := awake17_any _ (HTB.out.below GW.out)
        go_wp2_with fail
        refine c.mono ?_
        rintro e UA ⟨rfl, gA⟩
        go_wp2_with fail
        go_ret
        exact ⟨rfl, GW.out.trans gA⟩
      · subst he0
        obtain ⟨hs1, hs2⟩ := drop_sizes HEE.out
        rw [HRA.out, HL.out] at hs1
        rw [HRA.out] at hs2
        have hs1 : a.notes.length + L.length = s.notes.length := hs1
        have hs2 : a.books.length + 1 = s.books.length := hs2
        have hsn := HP.out.nl
        have hsb := HP.out.bl
        obtain ⟨⟨p0, p1, p2, p3, p4⟩, pz⟩ := n5 HB_s.out
        go_upto_region 8 with (fail)
        generalize hV : U6.alloc (.cells #[.int .i64 s.nb, .int .i64 s.nn, .int .i64 s.ns, .slice xa_s s.books.length xc_s, .slice ya_s s.notes.length yc_s] 25) = V0
        have gV : Grow U6 V0 := by rw [← hV]; exact (Grow.refl U6).alloc _
        have HB_t : Hid (V0.heap[U6.heap.size]? = some (.cells #[.int .i64 s.nb, .int .i64 s.nn, .int .i64 s.ns, .slice xa_s s.books.length xc_s, .slice ya_s s.notes.length yc_s] 25 (0, 0))) := by rw [← hV]; exact Lib.hid (heap_alloc_new U6 _)
        clear hV p0 p1 p2 p3 p4 pz
        have HRS := Lib.hid ((HR_s.out.grow HG_s.out).grow gV)
        have HGV := Lib.hid gV
        clear gV
        go_wp2_with fail
        go_loopw [10] (fun v10 wx => ∃ (i : Nat) (b : Shelf) (xa_b : Option Addr) (xc_b : Nat) (ya_b : Option Addr) (yc_b : Nat), v10 = .int .i64 i ∧ i ≤ L.length ∧ b = lessS s (L.take i) ∧ Grow U6 wx ∧ wx.heap[U6.heap.size]? = some (.cells #[.int .i64 b.nb, .int .i64 b.nn, .int .i64 b.ns, .slice xa_b b.books.length xc_b, .slice ya_b b.notes.length yc_b] 25 (0, 0)) ∧ ShelfR wx b (.slice xa_b b.books.length xc_b) (.slice ya_b b.notes.length yc_b)) (fun v10 _ => L.length - (Go.RowKit.intOf v10).toNat)
        case atStart => exact ⟨0, s, _, _, _, _, rfl, by omega, by rw [List.take_zero, less_nil], HGV.out, HB_t.out, HRS.out⟩
        case round =>
          obtain ⟨i, b, xa_b, xc_b, ya_b, yc_b, rfl, hi, hb, hg, hbx, hrb⟩ := hrel
          clear HB_t HRS HGV
          replace GW := Lib.hid (GW.out.trans hg)
          replace HG_s := Lib.hid (HG_s.out.trans hg)
          replace HB_s := Lib.hid (Grow.blk hg HB_s.out)
          replace HG_a := Lib.hid (HG_a.out.trans hg)
          replace HB_a := Lib.hid (Grow.blk hg HB_a.out)
          have HG0 := Lib.hid hg
          have HBE := Lib.hid hb
          have HTBB := Lib.hid (show TameS b by rw [hb]; exact (lessS_may HP.out _).tame)
          have HB_b := Lib.hid hbx
          have HR_b := Lib.hid hrb
          have HG_b := Lib.hid (Grow.refl wr)
          clear hb hrb
          by_cases hlt : i < L.length
          · have hlt' : (i : Int) < L.length := by omega
            obtain ⟨y, hy, -⟩ := lt_get hlt
            obtain ⟨bb, off, eo, hbb, y0, -⟩ := Items.at (HIT.out.grow hg) hy
            subst eo
            obtain ⟨c, hc⟩ : ∃ c, c = lessS s (L.take (i + 1)) := ⟨_, rfl⟩
            have hst : discardR b y.id = ⟨c, 0, 0⟩ := by rw [HBE.out, hc, ← HL.out]; exact less_step HEE.out (by rw [HL.out]; exact hy)
            have HC := Lib.hid hc
            have cD := fun W (g : Grow wr W) => (discard_any b _ _ y.id W (HR_b.out.grow g) HTBB.out ((HTB.out.below GW.out).below g)).mono fun _ _ => RetC.out2 hst
            clear hy hc hst
            unfold shelfV at cD
            obtain ⟨⟨p0, p1, p2, p3, p4⟩, pz⟩ := n5 HB_b.out
            go_upto_region 11 with (fail)
            go_cut [11, 12] (fun v11 v12 wx => v12 = .int .i64 0 ∧ ∃ bz xa_c xc_c ya_c yc_c Y, v11 = .pointer (some ⟨bz, 0, none⟩) ∧ Grow wr wx ∧ wx.heap[bz]? = some (.cells #[.int .i64 c.nb, .int .i64 c.nn, .int .i64 c.ns, .slice xa_c c.books.length xc_c, .slice ya_c c.notes.length yc_c] 25 (0, 0)) ∧ OwnS wr.heap.size (.slice xa_c c.books.length xc_c) (.slice ya_c c.notes.length yc_c) c.books Y wx ∧ Y.map NV.n = c.notes)
            case first =>
              go_region_law (first
                | (go_simp; go_at_call 16; refine (cD _ (Grow.refl wr).drew).mono ?_; rintro e UF ⟨xa_c, xc_c, ya_c, yc_c, Y, gF, rfl, hoc, hmc⟩; have HBA := Lib.hid True.intro; have HGF := Lib.hid (((Grow.refl wr).drew).trans gF); have HOC := Lib.hid (hoc.base_mono (Nat.le_refl _ : wr.heap.size ≤ wr.drew.heap.size)); have HMC := Lib.hid hmc; clear gF hoc hmc)
                | (go_simp; go_at_call 16; refine (cD _ (((Grow.refl wr).alloc _).drew)).mono ?_; rintro e UF ⟨xa_c, xc_c, ya_c, yc_c, Y, gF, rfl, hoc, hmc⟩; have hbx2 := gF.blk (((Grow.refl _).drew).blk (heap_alloc_new wr (.cells #[.int .i64 0, .int .i64 0, .int .i64 0, .slice none 0 0, .slice none 0 0] 25))); have HBX := Lib.hid hbx2; obtain ⟨⟨e0, e1, e2, e3, e4⟩, ez⟩ := n5 hbx2; have ff0 := frozen_of_row UF _ 0 _ _ hbx2; have ff1 := frozen_of_row UF _ 1 _ _ hbx2; have ff2 := frozen_of_row UF _ 2 _ _ hbx2; have ff3 := frozen_of_row UF _ 3 _ _ hbx2; have ff4 := frozen_of_row UF _ 4 _ _ hbx2; have HGF := Lib.hid ((((Grow.refl wr).alloc _).drew).trans gF); have HOC := Lib.hid (hoc.base_mono (show wr.heap.size ≤ _ from (((Grow.refl wr).alloc _).drew).size)); have HMC := Lib.hid hmc; clear gF hoc hmc hbx2))
              all_goals
                first
                  | (have hA := HBA.out
                     generalize hV : UF.alloc (.cells #[.int .i64 c.nb, .int .i64 c.nn, .int .i64 c.ns, .slice xa_c c.books.length xc_c, .slice ya_c c.notes.length yc_c] 25) = V
                     have gV : Grow UF V := by rw [← hV]; exact (Grow.refl UF).alloc _
                     have HB_c : Hid (V.heap[UF.heap.size]? = some (.cells #[.int .i64 c.nb, .int .i64 c.nn, .int .i64 c.ns, .slice xa_c c.books.length xc_c, .slice ya_c c.notes.length yc_c] 25 (0, 0))) := by rw [← hV]; exact Lib.hid (heap_alloc_new UF _)
                     have gT := HGF.out.trans gV
                     have HOV := Lib.hid (HOC.out.grow gV)
                     clear hV gV)
                  | (have hB := HBX.out
                     generalize hV : ((((UF.setCell ⟨wr.heap.size, 0, none⟩ (.int .i64 c.nb)).setCell ⟨wr.heap.size, 1, none⟩ (.int .i64 c.nn)).setCell ⟨wr.heap.size, 2, none⟩ (.int .i64 c.ns)).setCell ⟨wr.heap.size, 3, none⟩ (.slice xa_c c.books.length xc_c)).setCell ⟨wr.heap.size, 4, none⟩ (.slice ya_c c.notes.length yc_c) = V
                     have h55 := set5 HBX.out (.int .i64 c.nb) (.int .i64 c.nn) (.int .i64 c.ns) (.slice xa_c c.books.length xc_c) (.slice ya_c c.notes.length yc_c)
                     unfold set5w at h55
                     rw [hV] at h55
                     have HB_c := Lib.hid h55.1
                     have tV := h55.2
                     have gT := tV.grow HGF.out (Nat.le_refl _)
                     have HOV := Lib.hid (HOC.out.kept (KeptS.of_turned tV hB (by decide)))
                     clear hV h55 tV e0 e1 e2 e3 e4 ez ff0 ff1 ff2 ff3 ff4)
                go_wp2_with fail
                go_meet
                exact ⟨rfl, _, _, _, _, _, _, rfl, gT, HB_c.out, HOV.out, HMC.out⟩
            case rest =>
              obtain ⟨rfl, bz, xa_c, xc_c, ya_c, yc_c, Y, rfl, gT, hbz, hoc, hmc⟩ := hcut
              have HOC := Lib.hid hoc
              have HMC := Lib.hid hmc
              have hbt := gT.blk HB_b.out
              have HBT := Lib.hid hbt
              clear hoc hmc cD y0 hbb p0 p1 p2 p3 p4 pz
              generalize wc = V at *
              obtain ⟨⟨m0, m1, m2, m3, m4⟩, mz⟩ := n5 hbz
              obtain ⟨⟨e0, e1, e2, e3, e4⟩, ez⟩ := n5 hbt
              have ff0 := frozen_of_row V _ 0 _ _ hbt
              have ff1 := frozen_of_row V _ 1 _ _ hbt
              have ff2 := frozen_of_row V _ 2 _ _ hbt
              have ff3 := frozen_of_row V _ 3 _ _ hbt
              have ff4 := frozen_of_row V _ 4 _ _ hbt
              clear hbz hbt hbx
              go_upto_region 10 with (fail)
              generalize hV : ((((V.setCell ⟨U6.heap.size, 0, none⟩ (.int .i64 c.nb)).setCell ⟨U6.heap.size, 1, none⟩ (.int .i64 c.nn)).setCell ⟨U6.heap.size, 2, none⟩ (.int .i64 c.ns)).setCell ⟨U6.heap.size, 3, none⟩ (.slice xa_c c.books.length xc_c)).setCell ⟨U6.heap.size, 4, none⟩ (.slice ya_c c.notes.length yc_c) = V2
              have h55 := set5 HBT.out (.int .i64 c.nb) (.int .i64 c.nn) (.int .i64 c.ns) (.slice xa_c c.books.length xc_c) (.slice ya_c c.notes.length yc_c)
              unfold set5w at h55
              rw [hV] at h55
              have hrc := (HOC.out.kept (KeptS.of_turned h55.2 HBT.out (by decide))).reads
              rw [HMC.out] at hrc
              have HRC := Lib.hid hrc
              have HB2 := Lib.hid h55.1
              have HGN := Lib.hid (h55.2.grow (HG0.out.trans gT) (Nat.le_refl _))
              clear hV h55 hrc e0 e1 e2 e3 e4 ez ff0 ff1 ff2 ff3 ff4 m0 m1 m2 m3 m4 mz
              go_wp2_with fail
              go_roundw
              case rel => exact ⟨i + 1, c, xa_c, xc_c, ya_c, yc_c, by go_num, by omega, HC.out, HGN.out, HB2.out, HRC.out⟩
              case measure => simp [Go.RowKit.intOf]; omega
          · have hlt' : ¬ (i : Int) < L.length := by omega
            obtain ⟨d, hd⟩ : ∃ d, d = a := ⟨_, rfl⟩
            have hdd : dropR b id = ⟨d, 0, 0⟩ := by
              have h7 := less_drop HEE.out
              rw [HL.out, HRA.out] at h7
              rw [HBE.out, List.take_of_length_le (by omega), hd]; exact h7
            have HDD := Lib.hid hdd
            have HDA := Lib.hid hd
            clear hdd hd hbx
            have hRES : dropR b id = ⟨d, 0, 0⟩ := HDD.out
            have HRES_d := Lib.hid hRES
            have c0 := (drop_any b _ _ id _ (HR_b.out.grow HG_b.out) HTBB.out (HTB.out.below GW.out)).mono fun _ _ => RetC.out hRES
            clear hRES
            have c := c0
            try unfold shelfV at c
            obtain ⟨⟨p0, p1, p2, p3, p4⟩, pz⟩ := n5 HB_b.out
            go_wp2_with fail
            refine c.mono ?_
            clear c c0
            clear p0 p1 p2 p3 p4 pz
            rintro e U7 ⟨xa_d, xc_d, ya_d, yc_d, g, rfl, hr⟩
            replace GW := Lib.hid (GW.out.trans g)
            replace HG_s := Lib.hid (HG_s.out.trans g)
            replace HB_s := Lib.hid (Grow.blk g HB_s.out)
            replace HG_a := Lib.hid (HG_a.out.trans g)
            replace HB_a := Lib.hid (Grow.blk g HB_a.out)
            replace HG_b := Lib.hid (HG_b.out.trans g)
            replace HB_b := Lib.hid (Grow.blk g HB_b.out)
            have HL_d_s := Lib.hid HG_s.out.size
            have HM_d_s := Lib.hid (Array.getElem?_eq_some_iff.1 HB_s.out).1
            have HL_d_a := Lib.hid HG_a.out.size
            have HM_d_a := Lib.hid (Array.getElem?_eq_some_iff.1 HB_a.out).1
            have HL_d_b := Lib.hid HG_b.out.size
            have HM_d_b := Lib.hid (Array.getElem?_eq_some_iff.1 HB_b.out).1
            have HW_d := Lib.hid GW.out.size
            go_upto_region 16 with (fail)
            generalize hV : U7.alloc (.cells #[.int .i64 d.nb, .int .i64 d.nn, .int .i64 d.ns, .slice xa_d d.books.length xc_d, .slice ya_d d.notes.length yc_d] 25) = U8
            have gV : Grow U7 U8 := by rw [← hV]; exact (Grow.refl U7).alloc _
            have HB_d : Hid (U8.heap[U7.heap.size]? = some (.cells #[.int .i64 d.nb, .int .i64 d.nn, .int .i64 d.ns, .slice xa_d d.books.length xc_d, .slice ya_d d.notes.length yc_d] 25 (0, 0))) := by rw [← hV]; exact Lib.hid (heap_alloc_new U7 _)
            clear hV
            replace GW := Lib.hid (GW.out.trans gV)
            replace HG_s := Lib.hid (HG_s.out.trans gV)
            replace HB_s := Lib.hid (Grow.blk gV HB_s.out)
            replace HG_a := Lib.hid (HG_a.out.trans gV)
            replace HB_a := Lib.hid (Grow.blk gV HB_a.out)
            replace HG_b := Lib.hid (HG_b.out.trans gV)
            replace HB_b := Lib.hid (Grow.blk gV HB_b.out)
            have HG_d := Lib.hid gV
            have HR_d := Lib.hid hr
            clear hr g gV
            have c := sameShelf_any a d _ _ _ _ _ (HR_a.out.grow HG_a.out) (HR_d.out.grow HG_d.out) HTA.out.1
            rw [same_yes HDA.out.symm] at c
            unfold shelfV at c
            obtain ⟨⟨p0, p1, p2, p3, p4⟩, pz⟩ := n5 HB_a.out
            obtain ⟨⟨q0, q1, q2, q3, q4⟩, qz⟩ := n5 HB_d.out
            go_wp2_with fail
            refine c.mono ?_
            clear c
            clear p0 p1 p2 p3 p4 pz q0 q1 q2 q3 q4 qz
            rintro e U9 ⟨rfl, g⟩
            replace GW := Lib.hid (GW.out.trans g)
            replace HG_s := Lib.hid (HG_s.out.trans g)
            replace HB_s := Lib.hid (Grow.blk g HB_s.out)
            replace HG_a := Lib.hid (HG_a.out.trans g)
            replace HB_a := Lib.hid (Grow.blk g HB_a.out)
            replace HG_b := Lib.hid (HG_b.out.trans g)
            replace HB_b := Lib.hid (Grow.blk g HB_b.out)
            replace HG_d := Lib.hid (HG_d.out.trans g)
            replace HB_d := Lib.hid (Grow.blk g HB_d.out)
            clear g
            have hq1 : ((a.notes.length : Int) == (s.notes.length : Int) - (L.length : Int)) = true := by rw [beq_iff_eq]; omega
            have hq2 : ((a.books.length : Int) == (s.books.length : Int) - 1) = true := by rw [beq_iff_eq]; omega
            clear hlt' hlt hi hg
            obtain ⟨⟨p0, p1, p2, p3, p4⟩, pz⟩ := n5 HB_a.out
            obtain ⟨⟨q0, q1, q2, q3, q4⟩, qz⟩ := n5 HB_s.out
            have c := awake17_any _ (HTB.out.below GW.out)
            go_wp2_with fail
            refine c.mono ?_
            rintro e UA ⟨rfl, gA⟩
            go_wp2_with fail
            go_ret
            exact ⟨rfl, GW.out.trans gA⟩
theorem drops17_law (s : Shelf) (bv nv : Value) (id : Int) (w : World) (h : ShelfArg w s bv nv) (_ : Wf id) (hT : Tabs w) :
    Calls Tryd.prog 4 #[shelfV s bv nv, .int .i64 id] w fun e w' => e = .returned (.bool true) ∧ Grow w w' := drops17_walk s bv nv id w h.rows h.ints h.tags hT
end Go.Proofs.YtieohecgoaakmaaDoor
