/- note.Append. -/
import Derived.Test.YtieohecgoaakmaaDoorNBase
import Derived.Deep.RegionLaw
set_option linter.unusedVariables false
set_option linter.unusedSimpArgs false
namespace Go.Proofs.YtieohecgoaakmaaDoor
open Go.RowKit Go.Lib
set_option maxRecDepth 100000 in
set_option maxHeartbeats 4000000 in
theorem append_any (s : Shelf) (bv nv : Value) (id : Int) (w : World) (h : ShelfR w s bv nv) (hz : TameS s) (hT : Tabs w) :
    Calls Tryd.prog 22 #[shelfV s bv nv, .int .i64 id] w (RetM (appendR s id) w) := by
  have cF := fun W (g : Grow w W) => nfind_any s bv nv id W (h.grow g) hz (hT.below g)
  have cO := fun W (g : Grow w W) => own18_any s bv nv W (h.grow g) hz.1
  have HZ := Lib.hid hz
  have HH := Lib.hid h
  obtain ⟨a1, c1, rfl⟩ := h.1.mk
  obtain ⟨a2, c2, rfl⟩ := h.2.mk
  have HXX := Lib.hid (two_boxes2 w (shB s (.slice a1 s.books.length c1) (.slice a2 s.notes.length c2)) (shB ⟨0, 0, 0, [], []⟩ (.slice none 0 0) (.slice none 0 0)))
  clear h hz hT
  unfold shelfV at *
  go_enter Tryd.func22, Tryd.ntmps22
  go_upto_region 1 with (fail)
  generalize hV : (w.alloc (.cells #[.int .i64 s.nb, .int .i64 s.nn, .int .i64 s.ns, .slice a1 s.books.length c1, .slice a2 s.notes.length c2] 25)).alloc (.cells #[.int .i64 0, .int .i64 0, .int .i64 0, .slice none 0 0, .slice none 0 0] 25) = V
  have gV : Grow w V := by rw [← hV]; exact ((Grow.refl w).alloc _).alloc _
  have HBX : Hid (V.heap[w.heap.size]? = some (shB s (.slice a1 s.books.length c1) (.slice a2 s.notes.length c2))) := by rw [← hV]; exact Lib.hid HXX.out.1
  have HRX : Hid (V.heap[w.heap.size + 1]? = some (shB ⟨0, 0, 0, [], []⟩ (.slice none 0 0) (.slice none 0 0))) := by rw [← hV]; exact Lib.hid HXX.out.2
  obtain ⟨⟨p0, p1, p2, p3, p4⟩, hpz⟩ := n5 HBX.out
  clear hV
  have cF1 := cF V gV
  rcases noteE_cases s id with h0 | ⟨h0, h1⟩
  rotate_left
  · have HEE := Lib.hid (show appendE s id = noteE s id from appendE_of h0)
    have HF := Lib.hid (show nfI s id = 0 by unfold nfI; rw [if_neg h0])
    have HN0 := Lib.hid h0
    rw [HF.out] at cF1
    generalize noteE s id = n at *
    clear cO
    go_wp2_with fail
    refine cF1.mono ?_
    rintro e w1 ⟨rfl, g1⟩
    clear cF1 p0 p1 p2 p3 p4 hpz h0
    have HE := Lib.hid (show appendR s id = bad n from res_bad HEE.out HN0.out _ _)
    obtain ⟨⟨e0, e1, e2, e3, e4⟩, hez⟩ := n5 (g1.blk HRX.out)
    have f0 := frozen_of_row _ (w.heap.size + 1) 0 _ _ (g1.blk HRX.out)
    have f1 := frozen_of_row _ (w.heap.size + 1) 1 _ _ (g1.blk HRX.out)
    have f2 := frozen_of_row _ (w.heap.size + 1) 2 _ _ (g1.blk HRX.out)
    have f3 := frozen_of_row _ (w.heap.size + 1) 3 _ _ (g1.blk HRX.out)
    have f4 := frozen_of_row _ (w.heap.size + 1) 4 _ _ (g1.blk HRX.out)
    go_wp2_with fail
    refine bodyPost_ret (v := .tuple #[.agg #[.int .i64 0, .int .i64 0, .int .i64 0, .slice none 0 0, .slice none 0 0], .int .i64 0, .int .i64 n]) ?_ rfl ?_
    · rw [results_cell_tmp2 (P := Tryd.prog) rfl]
      go_simp
    · refine ret_badM HE.out ?_
      repeat' (first | with_reducible exact gV.trans g1 | with_reducible refine Grow.set ?_ (by first | (simp; done) | (simp; omega)) _)
  · have HN0 := Lib.hid h0
    obtain ⟨i, hi1, hi2, hil, hx, hxid⟩ := note_here h0
    rw [h0, hi1] at cF1
    have HII := Lib.hid hi2
    obtain ⟨x, hxx⟩ : ∃ x, x = noteOf s id := ⟨_, rfl⟩
    rw [← hxx] at hx hxid
    have HXN := Lib.hid hxx
    have HX := Lib.hid hx
    have HXID := Lib.hid hxid
    have hil' : (i : Int) < s.notes.length := by omega
    obtain ⟨z1, z2, z3, z4⟩ := HZ.out.1.note hx
    clear h0 hi1 hi2 hxid hxx
    go_wp2_with fail
    refine cF1.mono ?_
    rintro e w1 ⟨rfl, g1⟩
    clear cF1 p0 p1 p2 p3 p4 hpz
    obtain ⟨⟨p0, p1, p2, p3, p4⟩, hpz⟩ := n5 (g1.blk HBX.out)
    obtain ⟨nb, off, tv, sv, ea, hnb, -, -, -, n3, n4, htv, hsv⟩ := Notes.at (Notes.grow HH.out.2 (gV.trans g1)) hx
    obtain ⟨ta, tc, etv⟩ := htv.mk
    obtain ⟨sa, sc, esv⟩ := hsv.mk
    subst ea etv esv
    have HTV := Lib.hid htv
    have HSV := Lib.hid hsv
    have HN3 := Lib.hid n3
    have HN4 := Lib.hid n4
    have HNB := Lib.hid hnb
    clear hx htv hsv
    by_cases hl : 8 ≤ (x.sheets.length : Int)
    · have HL := Lib.hid (show 8 ≤ ((noteOf s id).sheets.length : Int) by rw [← HXN.out]; exact hl)
      clear cO
      have HE := Lib.hid (show appendR s id = bad 3 from res_bad (by unfold appendE; rw [if_neg (by rw [(noteE_zero.1 HN0.out).1]; simp), if_neg (by have := (noteE_zero.1 HN0.out).2; omega), if_pos (.inl HL.out)]) (by decide) _ _)
      obtain ⟨⟨e0, e1, e2, e3, e4⟩, hez⟩ := n5 (g1.blk HRX.out)
      have f0 := frozen_of_row _ (w.heap.size + 1) 0 _ _ (g1.blk HRX.out)
      have f1 := frozen_of_row _ (w.heap.size + 1) 1 _ _ (g1.blk HRX.out)
      have f2 := frozen_of_row _ (w.heap.size + 1) 2 _ _ (g1.blk HRX.out)
      have f3 := frozen_of_row _ (w.heap.size + 1) 3 _ _ (g1.blk HRX.out)
      have f4 := frozen_of_row _ (w.heap.size + 1) 4 _ _ (g1.blk HRX.out)
      go_wp2_with fail
      refine bodyPost_ret (v := .tuple #[.agg #[.int .i64 0, .int .i64 0, .int .i64 0, .slice none 0 0, .slice none 0 0], .int .i64 0, .int .i64 3]) ?_ rfl ?_
      · rw [results_cell_tmp2 (P := Tryd.prog) rfl]
        go_simp
      · refine ret_badM HE.out ?_
        repeat' (first | with_reducible exact gV.trans g1 | with_reducible refine Grow.set ?_ (by first | (simp; done) | (simp; omega)) _)
    · by_cases hk : 4095 < s.ns
      · have HL := Lib.hid hk
        clear cO
        have HE := Lib.hid (show appendR s id = bad 3 from res_bad (by unfold appendE; rw [if_neg (by rw [(noteE_zero.1 HN0.out).1]; simp), if_neg (by have := (noteE_zero.1 HN0.out).2; omega), if_pos (.inr HL.out)]) (by decide) _ _)
        obtain ⟨⟨e0, e1, e2, e3, e4⟩, hez⟩ := n5 (g1.blk HRX.out)
        have f0 := frozen_of_row _ (w.heap.size + 1) 0 _ _ (g1.blk HRX.out)
        have f1 := frozen_of_row _ (w.heap.size + 1) 1 _ _ (g1.blk HRX.out)
        have f2 := frozen_of_row _ (w.heap.size + 1) 2 _ _ (g1.blk HRX.out)
        have f3 := frozen_of_row _ (w.heap.size + 1) 3 _ _ (g1.blk HRX.out)
        have f4 := frozen_of_row _ (w.heap.size + 1) 4 _ _ (g1.blk HRX.out)
        go_wp2_with fail
        refine bodyPost_ret (v := .tuple #[.agg #[.int .i64 0, .int .i64 0, .int .i64 0, .slice none 0 0, .slice none 0 0], .int .i64 0, .int .i64 3]) ?_ rfl ?_
        · rw [results_cell_tmp2 (P := Tryd.prog) rfl]
          go_simp
        · refine ret_badM HE.out ?_
          repeat' (first | with_reducible exact gV.trans g1 | with_reducible refine Grow.set ?_ (by first | (simp; done) | (simp; omega)) _)
      · have hez : appendE s id = 0 := appendE_zero.2 ⟨(noteE_zero.1 HN0.out).1, (noteE_zero.1 HN0.out).2, by rw [← HXN.out]; omega, by omega⟩
        have HMY := Lib.hid (mayS_iff.1 (noteE_zero.1 HN0.out).1)
        have hns := HMY.out.ns
        have HE := Lib.hid (show appendR s id = ⟨{ s with ns := s.ns + 1, notes := updN id (fun n => { n with sheets := n.sheets ++ [s.ns] }) s.notes }, s.ns, 0⟩ from resOf_ok hez _ _)
        obtain ⟨ii, hii, hiz0, hiz1, hiz2⟩ := info_parts info_int
        clear hez
        have cO1 := cO _ (gV.trans g1)
        go_wp2_with fail
        refine cO1.mono ?_
        rintro e w3 ⟨bv', nv', Y, rfl, ho, hmap, g3⟩
        have hs : StB w w.heap.size (w.heap.size + 1) s.nb s.nn s.ns bv' nv' s.books Y (((((w3.setCell ⟨w.heap.size, 0, none⟩ (.int .i64 s.nb)).setCell ⟨w.heap.size, 1, none⟩ (.int .i64 s.nn)).setCell ⟨w.heap.size, 2, none⟩ (.int .i64 s.ns)).setCell ⟨w.heap.size, 3, none⟩ bv').setCell ⟨w.heap.size, 4, none⟩ nv') := StB.start (s := s) (D := w.heap.size + 1) gV HBX.out HRX.out g1 g3 ho ⟨Nat.le_refl _, by omega, by omega⟩
        obtain ⟨ba, bc, ebv, -⟩ := ho.books.slice
        obtain ⟨na, nc, env, -⟩ := ho.notes.slice
        have hYl : Y.length = s.notes.length := by rw [← hmap, List.length_map]
        rw [hYl] at env
        have HMAP := Lib.hid hmap
        have HYL := Lib.hid hYl
        subst ebv env
        obtain ⟨⟨p0', p1', p2', p3', p4'⟩, hpz'⟩ := n5 ((g1.trans g3).blk HBX.out)
        have HF3 := Lib.hid (frozen_of_row w3 w.heap.size 0 _ _ ((g1.trans g3).blk HBX.out))
        have ff : ∀ j, w3.frozen? ⟨w.heap.size, j, none⟩ = false := fun j => frozen_of_row w3 w.heap.size j _ _ ((g1.trans g3).blk HBX.out)
        have ff0 := ff 0
        have ff1 := ff 1
        have ff2 := ff 2
        have ff3 := ff 3
        have ff4 := ff 4
        have HOW3 := Lib.hid ho
        have HG3 := Lib.hid (g1.trans g3)
        have hw3 : w.heap.size < w3.heap.size := hpz'
        clear cO1 cO ho hmap g3 hYl p0 p1 p2 p3 p4 ff
        unfold shelfV
        go_upto_region 7 with (fail)
        generalize ((((w3.setCell ⟨w.heap.size, 0, none⟩ (.int .i64 s.nb)).setCell ⟨w.heap.size, 1, none⟩ (.int .i64 s.nn)).setCell ⟨w.heap.size, 2, none⟩ (.int .i64 s.ns)).setCell ⟨w.heap.size, 3, none⟩ (.slice ba s.books.length bc)).setCell ⟨w.heap.size, 4, none⟩ (.slice na s.notes.length nc) = W at *
        have HS := Lib.hid hs
        obtain ⟨⟨p0, p1, p2, p3, p4⟩, hpz⟩ := hs.five
        have hb3 := hs.boxF 3
        have hb4 := hs.boxF 4
        clear hs p0' p1' p2' p3' p4' ff0 ff1 ff2 ff3 ff4 hpz'
        obtain ⟨z, hz, hzn⟩ := nv_get HMAP.out HX.out
        have HZN := Lib.hid hzn
        have HY := Lib.hid hz
        obtain ⟨b, cc, ebb, hbz, -, -, hcl⟩ := HS.out.own.note hz
        rw [HYL.out] at ebb
        injection ebb with eb1 eb2 eb3
        subst eb1 eb3
        have hrt := HS.out.own.sheets z (List.mem_of_getElem? hz)
        rw [hzn] at hrt
        obtain ⟨tb, tcc, ezt, -⟩ := hrt.slice
        rw [ezt] at hrt
        have HEZ := Lib.hid ezt
        have HRT := Lib.hid (hrt.grow (Grow.refl W).drew)
        obtain ⟨q3, qf3⟩ := hcl 4 _ rfl
        rw [ezt] at q3
        have hyl8 : x.sheets.length ≤ 8 := by omega
        clear hcl hz hzn ezt hrt
        go_upto_region 8 with (fail)
        go_region_law (refine step_R (base := w.heap.size) (by rfl) _ _ 36 (by rfl) 3 ii _ 1 8 Tryd.underlying36 hii hiz0 hiz1 hiz2 (by rfl) (by decide) (.slice tb x.sheets.length tcc) x.sheets.length (intC x.sheets) (by rfl) W.drew HRT.out HS.out.grow.drew.size [.int .i64 s.ns] rfl ?_ (by rfl) ?_ (by decide) ?_; (intro u hu; simp at hu; subst hu; rfl); omega; intro v' w4 ra; obtain ⟨va, vc, e3, -⟩ := ra.1.slice; subst e3; obtain ⟨k3, f3, z5, hs4⟩ := (HS.out.more (Grow.refl W).drew).sheetApp HY.out (by rw [HEZ.out, HZN.out]; exact ra) (by rw [HYL.out]); rw [HEZ.out] at k3; have HS4 := Lib.hid hs4; clear hs4 ra)
        all_goals
          generalize w4.setCell ⟨b, i * 5 + 4, none⟩ (.slice va (x.sheets.length + 1) vc) = W4 at *
          have HMQ := Lib.hid (map_setN HMY.out.ninc HMAP.out HY.out (z := ⟨{ z.n with sheets := z.n.sheets ++ [s.ns] }, z.tv, .slice va (x.sheets.length + 1) vc⟩) (fun n => { n with sheets := n.sheets ++ [s.ns] }) rfl (show z.n.id = id by rw [HZN.out]; exact HXID.out))
          clear k3 f3 z5 q3 qf3 p0 p1 p2 p3 p4 hpz hb3 hb4 HS
          obtain ⟨⟨p0, p1, p2, p3, p4⟩, hpz⟩ := HS4.out.five
          have hb2 := HS4.out.boxF 2
          have HS5 := Lib.hid (HS4.out.num2 (s.ns + 1))
          go_upto_region 10 with (fail)
          generalize W4.setCell ⟨w.heap.size, 2, none⟩ (.int .i64 (s.ns + 1)) = W5 at *
          clear p0 p1 p2 p3 p4 hpz hb2 HS4
          obtain ⟨⟨p0, p1, p2, p3, p4⟩, hpz⟩ := HS5.out.five
          obtain ⟨⟨e0, e1, e2, e3, e4⟩, hez⟩ := HS5.out.res5
          have f0 := HS5.out.resF 0
          have f1 := HS5.out.resF 1
          have f2 := HS5.out.resF 2
          have f3 := HS5.out.resF 3
          have f4 := HS5.out.resF 4
          have HOD := Lib.hid HS5.out.fin
          go_region
          go_wp2_with fail
          refine bodyPost_ret (v := .tuple #[.agg #[.int .i64 s.nb, .int .i64 s.nn, .int .i64 (s.ns + 1), .slice ba s.books.length bc, .slice (some ⟨b, 0, none⟩) s.notes.length nc], .int .i64 (s.ns), .int .i64 0]) ?_ rfl ?_
          · rw [results_cell_tmp2 (P := Tryd.prog) rfl]
            go_simp
          · refine ret_okM (D := w.heap.size + 1) (s := { s with ns := s.ns + 1, notes := updN id (fun n => { n with sheets := n.sheets ++ [s.ns] }) s.notes }) HE.out ?_ HMQ.out
            repeat' (first | with_reducible exact HOD.out | with_reducible refine OwnD2.drew ?_ | with_reducible refine OwnD2.set ?_ (by omega) _ _)
end Go.Proofs.YtieohecgoaakmaaDoor
