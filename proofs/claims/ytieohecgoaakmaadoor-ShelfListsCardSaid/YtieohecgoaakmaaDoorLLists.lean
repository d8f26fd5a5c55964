/- The walk of the law ShelfLists. -/
import Derived.Test.YtieohecgoaakmaaDoorPLists
import Derived.Test.YtieohecgoaakmaaDoorPTags
import Derived.Test.YtieohecgoaakmaaDoorAwk17
import Derived.Test.YtieohecgoaakmaaDoorOpen
import Derived.Test.YtieohecgoaakmaaDoorGr
import Derived.Deep.RegionLaw
import Derived.Test.YtieohecgoaakmaaDoorOutF
import Derived.Test.YtieohecgoaakmaaDoorOutI
set_option linter.unusedVariables false
set_option linter.unusedSimpArgs false
namespace Go.Proofs.YtieohecgoaakmaaDoor
open Go.RowKit Go.Lib
set_option maxRecDepth 100000 in
set_option maxHeartbeats 8000000 in
theorem lists17_walk (s : Shelf) (bv nv : Value) (w : World) (h : ShelfR w s bv nv) (hI : ∀ n ∈ s.notes, ∀ y ∈ n.sheets, Wf y) (hG : ∀ n ∈ s.notes, n.tags.length ≤ 9223372036854775807) (hT : Tabs w) :
    Calls Tryd.prog 3 #[shelfV s bv nv] w fun e w' => e = .returned (.bool true) ∧ Grow w w' := by
  have GW := Lib.hid (Grow.refl w)
  have HTB := Lib.hid hT
  obtain ⟨xa_s, xc_s, rfl⟩ := h.1.mk
  obtain ⟨ya_s, yc_s, rfl⟩ := h.2.mk
  have HR_s := Lib.hid h
  have HG_s := Lib.hid (Grow.refl w)
  have HI := Lib.hid hI
  have HGT := Lib.hid hG
  clear h hI hG hT
  unfold shelfV
  go_enter Tryd.func3, Tryd.ntmps3
  go_upto_region 1 with (fail)
  generalize hV : w.alloc (.cells #[.int .i64 s.nb, .int .i64 s.nn, .int .i64 s.ns, .slice xa_s s.books.length xc_s, .slice ya_s s.notes.length yc_s] 25) = U1
  have gV : Grow w U1 := by rw [← hV]; exact (Grow.refl w).alloc _
  have HB_s : Hid (U1.heap[w.heap.size]? = some (.cells #[.int .i64 s.nb, .int .i64 s.nn, .int .i64 s.ns, .slice xa_s s.books.length xc_s, .slice ya_s s.notes.length yc_s] 25 (0, 0))) := by rw [← hV]; exact Lib.hid (heap_alloc_new w _)
  clear hV
  replace GW := Lib.hid gV
  replace HG_s := Lib.hid gV
  clear gV
  have c := great_any s _ _ _ (HR_s.out.grow HG_s.out) HGT.out
  try unfold shelfV at c
  obtain ⟨⟨p0, p1, p2, p3, p4⟩, pz⟩ := n5 HB_s.out
  go_wp2_with fail
  refine c.mono ?_
  clear c
  clear p0 p1 p2 p3 p4 pz
  rintro e U2 ⟨g, r, rfl, hr⟩
  replace GW := Lib.hid (GW.out.trans g)
  replace HG_s := Lib.hid (HG_s.out.trans g)
  replace HB_s := Lib.hid (Grow.blk g HB_s.out)
  clear g
  cases r with
  | true =>
    clear hr
    have c := awake17_any _ (HTB.out.below GW.out)
    go_wp2_with fail
    refine c.mono ?_
    rintro e UA ⟨rfl, gA⟩
    go_wp2_with fail
    go_ret
    exact ⟨rfl, GW.out.trans gA⟩
  | false =>
    have hlow := hr rfl
    have HZ := Lib.hid (show TameS s from ⟨hlow.tame, HI.out⟩)
    have HLOW := Lib.hid hlow
    clear hr hlow
    cases hm : mayS s with
    | false =>
      have c := mayS_any s _ _ _ (HR_s.out.grow HG_s.out) HZ.out (HTB.out.below GW.out)
      try unfold shelfV at c
      obtain ⟨⟨p0, p1, p2, p3, p4⟩, pz⟩ := n5 HB_s.out
      rw [hm] at c
      go_wp2_with fail
      refine c.mono ?_
      clear c
      clear p0 p1 p2 p3 p4 pz
      rintro e U3 ⟨rfl, g⟩
      replace GW := Lib.hid (GW.out.trans g)
      replace HG_s := Lib.hid (HG_s.out.trans g)
      replace HB_s := Lib.hid (Grow.blk g HB_s.out)
      have c := awake17_any _ (HTB.out.below GW.out)
      go_wp2_with fail
      refine c.mono ?_
      rintro e UA ⟨rfl, gA⟩
      go_wp2_with fail
      go_ret
      exact ⟨rfl, GW.out.trans gA⟩
    | true =>
      have c := mayS_any s _ _ _ (HR_s.out.grow HG_s.out) HZ.out (HTB.out.below GW.out)
      try unfold shelfV at c
      obtain ⟨⟨p0, p1, p2, p3, p4⟩, pz⟩ := n5 HB_s.out
      rw [hm] at c
      go_wp2_with fail
      refine c.mono ?_
      clear c
      clear p0 p1 p2 p3 p4 pz
      rintro e U3 ⟨rfl, g⟩
      replace GW := Lib.hid (GW.out.trans g)
      replace HG_s := Lib.hid (HG_s.out.trans g)
      replace HB_s := Lib.hid (Grow.blk g HB_s.out)
      have HMY := Lib.hid hm
      have HP := Lib.hid (mayS_iff.1 hm)
      clear hm g
      obtain ⟨L, hL⟩ : ∃ L, booksI s = L := ⟨_, rfl⟩
      have HL := Lib.hid hL
      have hl1 := booksI_len HMY.out
      rw [hL] at hl1
      have hl2 := totB_all HMY.out
      rw [hL] at hl2
      have HTOT := Lib.hid hl2
      have hsn := HP.out.nl
      have hsb := HP.out.bl
      have HLB := Lib.hid hl1
      have hLl : L.length ≤ 6 := by omega
      clear hL hl2 hl1
      have c := books_out s _ _ _ (HR_s.out.grow HG_s.out) HZ.out (HTB.out.below GW.out) HL.out
      try unfold shelfV at c
      obtain ⟨⟨p0, p1, p2, p3, p4⟩, pz⟩ := n5 HB_s.out
      go_wp2_with fail
      refine c.mono ?_
      clear c
      clear p0 p1 p2 p3 p4 pz
      rintro e U4 ⟨ia, ic, g, rfl, hit⟩
      replace GW := Lib.hid (GW.out.trans g)
      replace HG_s := Lib.hid (HG_s.out.trans g)
      replace HB_s := Lib.hid (Grow.blk g HB_s.out)
      have HIT := Lib.hid hit
      clear g hit
      go_wp2_with fail
      go_loopw [4, 5] (fun v4 v5 wx => ∃ i m : Nat, v5 = .int .i64 i ∧ v4 = .int .i64 m ∧ i ≤ L.length ∧ m = totB s (L.take i) ∧ m ≤ s.notes.length ∧ Grow U4 wx) (fun _ v5 _ => L.length - (Go.RowKit.intOf v5).toNat)
      case atStart => exact ⟨0, 0, rfl, rfl, by omega, rfl, by omega, Grow.refl _⟩
      case round =>
        obtain ⟨i, m, rfl, rfl, hi, hm, hml, hg⟩ := hrel
        have HM := Lib.hid hm
        clear hm
        replace GW := Lib.hid (GW.out.trans hg)
        replace HG_s := Lib.hid (HG_s.out.trans hg)
        replace HB_s := Lib.hid (Grow.blk hg HB_s.out)
        have HIW := Lib.hid (HIT.out.grow hg)
        have HG0 := Lib.hid hg
        by_cases hlt : i < L.length
        · have hlt' : (i : Int) < L.length := by omega
          obtain ⟨x, hx, -⟩ := lt_get hlt
          obtain ⟨bb, off, eo, hbb, x0, x1⟩ := Items.at HIW.out hx
          subst eo
          have HX0 := Lib.hid x0
          have HX1 := Lib.hid x1
          have HBB := Lib.hid hbb
          have hde : dropE s x.id = 0 := booksI_has HMY.out (by rw [HL.out]; exact List.mem_of_getElem? hx)
          have HDE := Lib.hid hde
          obtain ⟨M, hM⟩ : ∃ M, notesI s x.id = M := ⟨_, rfl⟩
          have hstep := totB_step hx hde
          have hle := totB_le s L (i + 1)
          rw [HTOT.out] at hle
          rw [hM] at hstep
          have hmM : m + M.length ≤ s.notes.length := by rw [HM.out]; omega
          have HST := Lib.hid (show m + M.length = totB s (L.take (i + 1)) by rw [HM.out]; omega)
          have HMM := Lib.hid hM
          have HX := Lib.hid hx
          have cN := fun W (g : Grow wr W) => notes_out s _ _ x.id W ((HR_s.out.grow HG_s.out).grow g) HZ.out ((HTB.out.below GW.out).below g) hM hde
          clear hM hde hstep hle hx
          unfold shelfV at cN
          obtain ⟨⟨p0, p1, p2, p3, p4⟩, pz⟩ := n5 HB_s.out
          go_upto_region 8 with (fail)
          go_cut [6, 7] (fun v6 v7 wx => v7 = .int .i64 0 ∧ ∃ na nc, v6 = .slice na M.length nc ∧ Grow wr wx ∧ Items wx (.slice na M.length nc) M)
          case first =>
            go_region_law (first
              | (go_simp; go_at_call 13; refine (cN _ (Grow.refl wr).drew).mono ?_; rintro e UF ⟨na, nc, gF, rfl, hin⟩; have HGF := Lib.hid (((Grow.refl wr).drew).trans gF); have HIN := Lib.hid hin; clear gF hin))
            all_goals
              go_wp2_with fail
              go_meet
              exact ⟨rfl, _, _, rfl, HGF.out, HIN.out⟩
          case rest =>
            obtain ⟨rfl, na, nc, rfl, gT, hin⟩ := hcut
            have HIN := Lib.hid hin
            clear hin cN p0 p1 p2 p3 p4 pz x0 x1 hbb
            generalize wc = V at *
            replace GW := Lib.hid (GW.out.trans gT)
            replace HG_s := Lib.hid (HG_s.out.trans gT)
            replace HB_s := Lib.hid (Grow.blk gT HB_s.out)
            have x1 := (gT.cells bb (off + i * 2 + 1) HBB.out).trans HX1.out
            have hbb := Nat.lt_of_lt_of_le HBB.out gT.size
            have HGT2 := Lib.hid (HG0.out.trans gT)
            go_upto_region 9 with (fail)
            go_cut [58] (fun v58 wx => v58 = .bool false ∧ Grow V wx)
            case first =>
              by_cases h0 : 0 < i
              · have h0' : 0 < (i : Int) := by omega
                obtain ⟨z, hz, -⟩ := lt_get (l := L) (i := i - 1) (by omega)
                obtain ⟨b2, off2, eo2, -, -, z0⟩ := Items.at (HIW.out.grow gT) hz
                injection eo2 with eo2
                injection eo2 with eb2 eo2
                subst eb2 eo2
                have hlz := less_no (pair_get (show L.Pairwise _ by rw [← HL.out]; exact booksI_inc HMY.out) hz HX.out (by omega))
                have q1 := hlz.1
                have q2 := hlz.2
                have hsub : ((i : Int) - 1).toNat = i - 1 := by omega
                have hii : ((i : Int) - 1) = ((i - 1 : Nat) : Int) := by omega
                clear hz hlz
                refine wp_region_gr (by kernel_rfl) (by kernel_rfl) ?_
                repeat (go_big_quiet_step (fail))
                refine wpQuiet_nil ?_
                rintro _ ⟨y', rfl⟩
                have gy := y'.g
                generalize y'.W = wy at *
                go_wp2_with fail
                go_meet
                exact ⟨rfl, gy⟩
              · have h0' : ¬ 0 < (i : Int) := by omega
                refine wp_region_gr (by kernel_rfl) (by kernel_rfl) ?_
                repeat (go_big_quiet_step (fail))
                refine wpQuiet_nil ?_
                rintro _ ⟨y', rfl⟩
                have gy := y'.g
                generalize y'.W = wy at *
                go_wp2_with fail
                go_meet
                exact ⟨rfl, gy⟩
            case rest =>
              obtain ⟨rfl, gT3⟩ := hcut
              have HIN2 := Lib.hid (HIN.out.grow gT3)
              have HGT3 := Lib.hid (HGT2.out.trans gT3)
              have HX03 := Lib.hid (((gT.trans gT3).cells bb (off + i * 2) HBB.out).trans HX0.out)
              have HB3 := Lib.hid (Nat.lt_of_lt_of_le hbb gT3.size)
              clear x1 hbb HIN HGT2
              generalize wc = V3 at *
              replace GW := Lib.hid (GW.out.trans gT3)
              replace HG_s := Lib.hid (HG_s.out.trans gT3)
              replace HB_s := Lib.hid (Grow.blk gT3 HB_s.out)
              go_wp2_with fail
              go_loopw [4, 8] (fun v4 v8 wx => ∃ k m2 : Nat, v8 = .int .i64 k ∧ v4 = .int .i64 m2 ∧ k ≤ M.length ∧ m2 = m + k ∧ Grow V3 wx) (fun _ v8 _ => M.length - (Go.RowKit.intOf v8).toNat)
              case atStart => exact ⟨0, m, rfl, rfl, by omega, rfl, Grow.refl _⟩
              case round =>
                obtain ⟨k, m2, rfl, rfl, hk, hm2, hg2⟩ := hrel
                have HM2 := Lib.hid hm2
                have hm2l : m2 ≤ 12 := by omega
                clear hm2
                replace GW := Lib.hid (GW.out.trans hg2)
                replace HG_s := Lib.hid (HG_s.out.trans hg2)
                replace HB_s := Lib.hid (Grow.blk hg2 HB_s.out)
                have HIN3 := Lib.hid (HIN2.out.grow hg2)
                have HG2 := Lib.hid hg2
                by_cases hltk : k < M.length
                · have hltk' : (k : Int) < M.length := by omega
                  obtain ⟨y, hy, -⟩ := lt_get hltk
                  obtain ⟨nb, noff, eo, hnb, y0, y1⟩ := Items.at HIN3.out hy
                  subst eo
                  obtain ⟨n, hn, e1, e2, e3, hfn, hfb⟩ := notesI_has HDE.out (by rw [HMM.out]; exact List.mem_of_getElem? hy)
                  have HY0 := Lib.hid y0
                  have HY1 := Lib.hid y1
                  have HNB := Lib.hid hnb
                  have HY := Lib.hid hy
                  obtain ⟨z, hz⟩ : ∃ z, z = n := ⟨_, rfl⟩
                  rw [← hz] at hfn e1 e2 e3
                  have cF := fun W (g : Grow wr W) => (find_any s _ _ y.id W ((HR_s.out.grow HG_s.out).grow g) HZ.out ((HTB.out.below GW.out).below g)).mono fun _ _ => RetFind.out2 hfn hfb
                  have HE1 := Lib.hid e1
                  have HE3 := Lib.hid e3
                  clear hy hn e1 e2 e3 hfn hfb hz
                  unfold shelfV at cF
                  obtain ⟨⟨p0, p1, p2, p3, p4⟩, pz⟩ := n5 HB_s.out
                  go_upto_region 14 with (fail)
                  go_cut [9, 10] (fun v9 v10 wx => v10 = .bool true ∧ ∃ bz ta tc sa sc, v9 = .pointer (some ⟨bz, 0, none⟩) ∧ Grow wr wx ∧ wx.heap[bz]? = some (.cells #[.int .i64 z.id, .int .i64 z.book, .string z.name, .slice ta z.tags.length tc, .slice sa z.sheets.length sc] 38 (0, 0)))
                  case first =>
                    go_region_law (first
                      | (go_simp; go_at_call 14; refine (cF _ (Grow.refl wr).drew).mono ?_; rintro e UF ⟨ta_z, tc_z, sa_z, sc_z, gF, rfl, -, -⟩; have HBA := Lib.hid True.intro; have HGF := Lib.hid (((Grow.refl wr).drew).trans gF); clear gF)
                      | (go_simp; go_at_call 14; refine (cF _ (((Grow.refl wr).alloc _).drew)).mono ?_; rintro e UF ⟨ta_z, tc_z, sa_z, sc_z, gF, rfl, -, -⟩; have hbx := gF.blk (((Grow.refl _).drew).blk (heap_alloc_new wr (.cells #[.int .i64 0, .int .i64 0, .string ⟨#[]⟩, .slice none 0 0, .slice none 0 0] 38))); have HBX := Lib.hid hbx; obtain ⟨⟨e0, e1, e2, e3, e4⟩, ez⟩ := n5 hbx; have ff0 := frozen_of_row UF _ 0 _ _ hbx; have ff1 := frozen_of_row UF _ 1 _ _ hbx; have ff2 := frozen_of_row UF _ 2 _ _ hbx; have ff3 := frozen_of_row UF _ 3 _ _ hbx; have ff4 := frozen_of_row UF _ 4 _ _ hbx; have HGF := Lib.hid ((((Grow.refl wr).alloc _).drew).trans gF); clear gF hbx))
                    all_goals
                      first
                        | (have hA := HBA.out
                           generalize hV : UF.alloc (.cells #[.int .i64 z.id, .int .i64 z.book, .string z.name, .slice ta_z z.tags.length tc_z, .slice sa_z z.sheets.length sc_z] 38) = V9
                           have gV : Grow UF V9 := by rw [← hV]; exact (Grow.refl UF).alloc _
                           have HB_z : Hid (V9.heap[UF.heap.size]? = some (.cells #[.int .i64 z.id, .int .i64 z.book, .string z.name, .slice ta_z z.tags.length tc_z, .slice sa_z z.sheets.length sc_z] 38 (0, 0))) := by rw [← hV]; exact Lib.hid (heap_alloc_new UF _)
                           have gT9 := HGF.out.trans gV
                           clear hV gV)
                        | (have hB := HBX.out
                           generalize hV : ((((UF.setCell ⟨wr.heap.size, 0, none⟩ (.int .i64 z.id)).setCell ⟨wr.heap.size, 1, none⟩ (.int .i64 z.book)).setCell ⟨wr.heap.size, 2, none⟩ (.string z.name)).setCell ⟨wr.heap.size, 3, none⟩ (.slice ta_z z.tags.length tc_z)).setCell ⟨wr.heap.size, 4, none⟩ (.slice sa_z z.sheets.length sc_z) = V9
                           have h55 := set5 HBX.out (.int .i64 z.id) (.int .i64 z.book) (.string z.name) (.slice ta_z z.tags.length tc_z) (.slice sa_z z.sheets.length sc_z)
                           unfold set5w at h55
                           rw [hV] at h55
                           have HB_z := Lib.hid h55.1
                           have tV := h55.2
                           have gT9 := tV.grow HGF.out (Nat.le_refl _)
                           clear hV h55 tV e0 e1 e2 e3 e4 ez ff0 ff1 ff2 ff3 ff4)
                      go_wp2_with fail
                      go_meet
                      exact ⟨rfl, _, _, _, _, _, rfl, gT9, HB_z.out⟩
                  case rest =>
                    obtain ⟨rfl, bz, ta_z, tc_z, sa_z, sc_z, rfl, gT9, hbz⟩ := hcut
                    generalize wc = V9 at *
                    have gA9 := hg2.trans gT9
                    have x0 := (gA9.cells bb (off + i * 2) HB3.out).trans HX03.out
                    have hbb := Nat.lt_of_lt_of_le HB3.out gA9.size
                    have y1 := (gT9.cells nb (noff + k * 2 + 1) HNB.out).trans HY1.out
                    have hnb := Nat.lt_of_lt_of_le HNB.out gT9.size
                    obtain ⟨⟨m0, m1, m2', m3, m4⟩, mz⟩ := n5 hbz
                    rw [HE1.out] at m1
                    rw [HE3.out] at m2'
                    have hbe : (x.id != x.id) = false := by simp
                    have hne : (y.name.toList != y.name.toList) = false := by simp
                    clear cF y0 p0 p1 p2 p3 p4 pz hbz
                    by_cases h0 : 0 < k
                    · have h0' : 0 < (k : Int) := by omega
                      obtain ⟨z', hz, -⟩ := lt_get (l := M) (i := k - 1) (by omega)
                      obtain ⟨b2, off2, eo2, -, -, z0⟩ := Items.at (HIN3.out.grow gT9) hz
                      injection eo2 with eo2
                      injection eo2 with eb2 eo2
                      subst eb2 eo2
                      have hlz := less_no (pair_get (show M.Pairwise _ by rw [← HMM.out]; exact notesI_inc HDE.out) hz HY.out (by omega))
                      have q1 := hlz.1
                      have q2 := hlz.2
                      have hsub : ((k : Int) - 1).toNat = k - 1 := by omega
                      have hii : ((k : Int) - 1) = ((k - 1 : Nat) : Int) := by omega
                      clear hz hlz
                      go_upto_region 15 with (fail)
                      refine wp_region_gr (by kernel_rfl) (by kernel_rfl) ?_
                      repeat (first | (go_big_quiet_step (fail)) | rw [hbe] | rw [hne])
                      refine wpQuiet_nil ?_
                      rintro _ ⟨y', rfl⟩
                      have gy := y'.g
                      generalize y'.W = wy at *
                      go_wp2_with fail
                      go_roundw
                      case rel => exact ⟨k + 1, m2 + 1, by go_num, by go_num, by omega, by have := HM2.out; omega, gA9.trans gy⟩
                      case measure => simp [Go.RowKit.intOf]; omega
                    · have h0' : ¬ 0 < (k : Int) := by omega
                      go_upto_region 15 with (fail)
                      refine wp_region_gr (by kernel_rfl) (by kernel_rfl) ?_
                      repeat (first | (go_big_quiet_step (fail)) | rw [hbe] | rw [hne])
                      refine wpQuiet_nil ?_
                      rintro _ ⟨y', rfl⟩
                      have gy := y'.g
                      generalize y'.W = wy at *
                      go_wp2_with fail
                      go_roundw
                      case rel => exact ⟨k + 1, m2 + 1, by go_num, by go_num, by omega, by have := HM2.out; omega, gA9.trans gy⟩
                      case measure => simp [Go.RowKit.intOf]; omega
                · have hltk' : ¬ (k : Int) < M.length := by omega
                  go_wp2_with fail
                  go_roundw
                  case rel => exact ⟨i + 1, m2, by go_num, by go_num, by omega, by have := HM2.out; rw [← HST.out]; omega, by have := HM2.out; omega, HGT3.out.trans hg2⟩
                  case measure => simp [Go.RowKit.intOf]; omega
        · have hlt' : ¬ (i : Int) < L.length := by omega
          have hl1 := HLB.out
          have hm2 : m = s.notes.length := by rw [HM.out, List.take_of_length_le (by omega), HTOT.out]
          have hq1 : ((L.length : Int) == (s.books.length : Int)) = true := by rw [beq_iff_eq]; omega
          have hq2 : ((m : Int) == (s.notes.length : Int)) = true := by rw [beq_iff_eq]; omega
          clear hlt hl1 hm2
          have c := notes_out s _ _ 0 _ (HR_s.out.grow HG_s.out) HZ.out (HTB.out.below GW.out) rfl (drop_none HMY.out)
          try unfold shelfV at c
          obtain ⟨⟨p0, p1, p2, p3, p4⟩, pz⟩ := n5 HB_s.out
          go_wp2_with fail
          refine c.mono ?_
          clear c
          clear p0 p1 p2 p3 p4 pz
          rintro e U5 ⟨ja, jc, g, rfl, -⟩
          replace GW := Lib.hid (GW.out.trans g)
          replace HG_s := Lib.hid (HG_s.out.trans g)
          replace HB_s := Lib.hid (Grow.blk g HB_s.out)
          clear g
          obtain ⟨⟨p0, p1, p2, p3, p4⟩, pz⟩ := n5 HB_s.out
          have c := awake17_any _ (HTB.out.below GW.out)
          go_wp2_with fail
          refine c.mono ?_
          rintro e UA ⟨rfl, gA⟩
          go_wp2_with fail
          go_ret
          exact ⟨rfl, GW.out.trans gA⟩
theorem lists17_law (s : Shelf) (bv nv : Value) (w : World) (h : ShelfArg w s bv nv) (hT : Tabs w) :
    Calls Tryd.prog 3 #[shelfV s bv nv] w fun e w' => e = .returned (.bool true) ∧ Grow w w' := lists17_walk s bv nv w h.rows h.ints h.tags hT
end Go.Proofs.YtieohecgoaakmaaDoor
