/- note.Tag. note.Untag. note.Append. note.Replace. note.Remove. -/
import Derived.Test.YtnajccljdjllgaaDoorNBase
import Derived.Test.YtnajccljdjllgaaDoorGr
import Derived.Deep.RegionLaw
set_option linter.unusedVariables false
set_option linter.unusedSimpArgs false
namespace Go.Proofs.YtnajccljdjllgaaDoor
open Go.RowKit Go.Lib
set_option maxRecDepth 100000 in
set_option maxHeartbeats 4000000 in
theorem tag_any (s : Shelf) (bv nv : Value) (id : Int) (t : ByteArray) (w : World) (h : ShelfR w s bv nv) (hz : TameS s) (ht : t.size ≤ 1000000000) (hT : Tabs w) :
    Calls Tryd.prog 47 #[shelfV s bv nv, .int .i64 id, .string t] w (RetC (tagR s id t) w) := by
  have cF := fun W (g : Grow w W) => nfind_any s bv nv id W (h.grow g) hz (hT.below g)
  have cN := fun W (g : Grow w W) => may_any t W ht (hT.below g)
  have cO := fun W (g : Grow w W) => own18_any s bv nv W (h.grow g) hz.1
  have cC := fun v (l : List ByteArray) W (hl : l.length ≤ 1000000) (hv : Texts W v l) => hasText_any v l t W hv hl
  have HZ := Lib.hid hz
  have HH := Lib.hid h
  obtain ⟨a1, c1, rfl⟩ := h.1.mk
  obtain ⟨a2, c2, rfl⟩ := h.2.mk
  have HXX := Lib.hid (two_boxes2 w (shB s (.slice a1 s.books.length c1) (.slice a2 s.notes.length c2)) (shB ⟨0, 0, 0, [], []⟩ (.slice none 0 0) (.slice none 0 0)))
  clear h hz hT
  unfold shelfV at *
  go_enter Tryd.func47, Tryd.ntmps47
  go_upto_region 1 with (fail)
  generalize hV : (w.alloc (.cells #[.int .i64 s.nb, .int .i64 s.nn, .int .i64 s.ns, .slice a1 s.books.length c1, .slice a2 s.notes.length c2] 28)).alloc (.cells #[.int .i64 0, .int .i64 0, .int .i64 0, .slice none 0 0, .slice none 0 0] 28) = V
  have gV : Grow w V := by rw [← hV]; exact ((Grow.refl w).alloc _).alloc _
  have HBX : Hid (V.heap[w.heap.size]? = some (shB s (.slice a1 s.books.length c1) (.slice a2 s.notes.length c2))) := by rw [← hV]; exact Lib.hid HXX.out.1
  have HRX : Hid (V.heap[w.heap.size + 1]? = some (shB ⟨0, 0, 0, [], []⟩ (.slice none 0 0) (.slice none 0 0))) := by rw [← hV]; exact Lib.hid HXX.out.2
  obtain ⟨⟨p0, p1, p2, p3, p4⟩, hpz⟩ := n5 HBX.out
  clear hV
  have cF1 := cF V gV
  rcases noteE_cases s id with h0 | ⟨h0, h1⟩
  rotate_left
  · have HEE := Lib.hid (show tagE s id t = noteE s id from tagE_of h0 t)
    have HF := Lib.hid (show nfI s id = 0 by unfold nfI; rw [if_neg h0])
    have HN0 := Lib.hid h0
    rw [HF.out] at cF1
    generalize noteE s id = n at *
    clear cO
    go_wp2_with fail
    refine cF1.mono ?_
    rintro e w1 ⟨rfl, g1⟩
    clear cF1 p0 p1 p2 p3 p4 hpz h0
    have HE := Lib.hid (show tagR s id t = bad n from res_bad HEE.out HN0.out _ _)
    obtain ⟨⟨e0, e1, e2, e3, e4⟩, hez⟩ := n5 (g1.blk HRX.out)
    have f0 := frozen_of_row _ (w.heap.size + 1) 0 _ _ (g1.blk HRX.out)
    have f1 := frozen_of_row _ (w.heap.size + 1) 1 _ _ (g1.blk HRX.out)
    have f2 := frozen_of_row _ (w.heap.size + 1) 2 _ _ (g1.blk HRX.out)
    have f3 := frozen_of_row _ (w.heap.size + 1) 3 _ _ (g1.blk HRX.out)
    have f4 := frozen_of_row _ (w.heap.size + 1) 4 _ _ (g1.blk HRX.out)
    go_wp2_with fail
    refine bodyPost_ret (v := .tuple #[.agg #[.int .i64 0, .int .i64 0, .int .i64 0, .slice none 0 0, .slice none 0 0], .int .i64 n]) ?_ rfl ?_
    · rw [results_cell_tmp rfl]
      go_simp
    · refine ret_badC HE.out ?_
      repeat' (first | with_reducible exact gV.trans g1 | with_reducible refine Grow.set ?_ (by first | (simp; done) | (simp; omega)) _)
  · have HN0 := Lib.hid h0
    obtain ⟨i, hi1, hi2, hil, hx, hxid⟩ := note_here h0
    rw [h0, hi1] at cF1
    have HII := Lib.hid hi2
    obtain ⟨x, hxx⟩ : ∃ x, x = noteOf s id := ⟨_, rfl⟩
    rw [← hxx] at hx hxid
    have HXN := Lib.hid hxx
    have HX := Lib.hid hx
    have HXID := Lib.hid hxid
    have hil' : (i : Int) < s.notes.length := by omega
    obtain ⟨z1, z2, z3, z4⟩ := HZ.out.1.note hx
    clear h0 hi1 hi2 hxid hxx
    go_wp2_with fail
    refine cF1.mono ?_
    rintro e w1 ⟨rfl, g1⟩
    clear cF1 p0 p1 p2 p3 p4 hpz
    obtain ⟨⟨p0, p1, p2, p3, p4⟩, hpz⟩ := n5 (g1.blk HBX.out)
    obtain ⟨nb, off, tv, sv, ea, hnb, -, -, -, n3, n4, htv, hsv⟩ := Notes.at (Notes.grow HH.out.2 (gV.trans g1)) hx
    obtain ⟨ta, tc, etv⟩ := htv.mk
    obtain ⟨sa, sc, esv⟩ := hsv.mk
    subst ea etv esv
    have HTV := Lib.hid htv
    have HSV := Lib.hid hsv
    have HN3 := Lib.hid n3
    have HN4 := Lib.hid n4
    have HNB := Lib.hid hnb
    clear hx htv hsv
    have cN1 := cN w1 (gV.trans g1)
    cases hn : mayB t with
    | false =>
      have HN := Lib.hid hn
      rw [hn] at cN1
      clear hn cO
      go_wp2_with fail
      refine cN1.mono ?_
      rintro e w2 ⟨rfl, g2⟩
      have gg := g1.trans g2
      clear cN1 p0 p1 p2 p3 p4 hpz n3 n4 hnb
      have HE := Lib.hid (show tagR s id t = bad 6 from res_bad (by unfold tagE; rw [if_neg (by rw [(noteE_zero.1 HN0.out).1]; simp), if_neg (by have := (noteE_zero.1 HN0.out).2; omega), if_pos HN.out]) (by decide) _ _)
      obtain ⟨⟨e0, e1, e2, e3, e4⟩, hez⟩ := n5 (gg.blk HRX.out)
      have f0 := frozen_of_row _ (w.heap.size + 1) 0 _ _ (gg.blk HRX.out)
      have f1 := frozen_of_row _ (w.heap.size + 1) 1 _ _ (gg.blk HRX.out)
      have f2 := frozen_of_row _ (w.heap.size + 1) 2 _ _ (gg.blk HRX.out)
      have f3 := frozen_of_row _ (w.heap.size + 1) 3 _ _ (gg.blk HRX.out)
      have f4 := frozen_of_row _ (w.heap.size + 1) 4 _ _ (gg.blk HRX.out)
      go_wp2_with fail
      refine bodyPost_ret (v := .tuple #[.agg #[.int .i64 0, .int .i64 0, .int .i64 0, .slice none 0 0, .slice none 0 0], .int .i64 6]) ?_ rfl ?_
      · rw [results_cell_tmp rfl]
        go_simp
      · refine ret_badC HE.out ?_
        repeat' (first | with_reducible exact gV.trans gg | with_reducible refine Grow.set ?_ (by first | (simp; done) | (simp; omega)) _)
    | true =>
      have HN := Lib.hid hn
      rw [hn] at cN1
      clear hn
      go_wp2_with fail
      refine cN1.mono ?_
      rintro e w2 ⟨rfl, g2⟩
      have gg := g1.trans g2
      have HG2 : Hid (Grow w1 w2) := Lib.hid g2
      clear cN1 p0 p1 p2 p3 p4 hpz n3 n4 hnb
      have n3 := ((HG2.out).cells nb (off + i * 5 + 3) HNB.out).trans HN3.out
      have n4 := ((HG2.out).cells nb (off + i * 5 + 4) HNB.out).trans HN4.out
      have hnb := Nat.lt_of_lt_of_le HNB.out (HG2.out).size
      obtain ⟨⟨p0, p1, p2, p3, p4⟩, hpz⟩ := n5 (gg.blk HBX.out)
      have cC1 := cC (.slice ta x.tags.length tc) x.tags w2 z2 (HTV.out.grow HG2.out)
      cases hh : hasT t x.tags with
      | true =>
        have HHT := Lib.hid (show hasT t (noteOf s id).tags = true by rw [← HXN.out]; exact hh)
        rw [hh] at cC1
        clear hh cO
        go_wp2_with fail
        refine cC1.mono ?_
        rintro e w3 ⟨rfl, rfl⟩
        clear cC1 p0 p1 p2 p3 p4 hpz n3 n4 hnb
        have HE := Lib.hid (show tagR s id t = bad 7 from res_bad (by unfold tagE; rw [if_neg (by rw [(noteE_zero.1 HN0.out).1]; simp), if_neg (by have := (noteE_zero.1 HN0.out).2; omega), if_neg (by rw [HN.out]; simp), if_pos HHT.out]) (by decide) _ _)
        obtain ⟨⟨e0, e1, e2, e3, e4⟩, hez⟩ := n5 (gg.blk HRX.out)
        have f0 := frozen_of_row _ (w.heap.size + 1) 0 _ _ (gg.blk HRX.out)
        have f1 := frozen_of_row _ (w.heap.size + 1) 1 _ _ (gg.blk HRX.out)
        have f2 := frozen_of_row _ (w.heap.size + 1) 2 _ _ (gg.blk HRX.out)
        have f3 := frozen_of_row _ (w.heap.size + 1) 3 _ _ (gg.blk HRX.out)
        have f4 := frozen_of_row _ (w.heap.size + 1) 4 _ _ (gg.blk HRX.out)
        go_wp2_with fail
        refine bodyPost_ret (v := .tuple #[.agg #[.int .i64 0, .int .i64 0, .int .i64 0, .slice none 0 0, .slice none 0 0], .int .i64 7]) ?_ rfl ?_
        · rw [results_cell_tmp rfl]
          go_simp
        · refine ret_badC HE.out ?_
          repeat' (first | with_reducible exact gV.trans gg | with_reducible refine Grow.set ?_ (by first | (simp; done) | (simp; omega)) _)
      | false =>
        have HHT := Lib.hid (show hasT t (noteOf s id).tags = false by rw [← HXN.out]; exact hh)
        have HHX := Lib.hid hh
        rw [hh] at cC1
        clear hh
        go_wp2_with fail
        refine cC1.mono ?_
        rintro e w3 ⟨rfl, rfl⟩
        clear cC1
        by_cases hl : 4 ≤ (x.tags.length : Int)
        · have HL := Lib.hid (show 4 ≤ ((noteOf s id).tags.length : Int) by rw [← HXN.out]; exact hl)
          clear cO
          have HE := Lib.hid (show tagR s id t = bad 3 from res_bad (by unfold tagE; rw [if_neg (by rw [(noteE_zero.1 HN0.out).1]; simp), if_neg (by have := (noteE_zero.1 HN0.out).2; omega), if_neg (by rw [HN.out]; simp), if_neg (by rw [HHT.out]; simp), if_pos HL.out]) (by decide) _ _)
          obtain ⟨⟨e0, e1, e2, e3, e4⟩, hez⟩ := n5 (gg.blk HRX.out)
          have f0 := frozen_of_row _ (w.heap.size + 1) 0 _ _ (gg.blk HRX.out)
          have f1 := frozen_of_row _ (w.heap.size + 1) 1 _ _ (gg.blk HRX.out)
          have f2 := frozen_of_row _ (w.heap.size + 1) 2 _ _ (gg.blk HRX.out)
          have f3 := frozen_of_row _ (w.heap.size + 1) 3 _ _ (gg.blk HRX.out)
          have f4 := frozen_of_row _ (w.heap.size + 1) 4 _ _ (gg.blk HRX.out)
          go_wp2_with fail
          refine bodyPost_ret (v := .tuple #[.agg #[.int .i64 0, .int .i64 0, .int .i64 0, .slice none 0 0, .slice none 0 0], .int .i64 3]) ?_ rfl ?_
          · rw [results_cell_tmp rfl]
            go_simp
          · refine ret_badC HE.out ?_
            repeat' (first | with_reducible exact gV.trans gg | with_reducible refine Grow.set ?_ (by first | (simp; done) | (simp; omega)) _)
        · have hez : tagE s id t = 0 := tagE_zero.2 ⟨(noteE_zero.1 HN0.out).1, (noteE_zero.1 HN0.out).2, HN.out, HHT.out, by rw [← HXN.out]; omega⟩
          have HMY := Lib.hid (mayS_iff.1 (noteE_zero.1 HN0.out).1)
          have HE := Lib.hid (show tagR s id t = ⟨{ s with notes := updN id (fun n => { n with tags := insT t n.tags }) s.notes }, 0, 0⟩ from resOf_ok hez _ _)
          obtain ⟨is, his, hsz0, hsz1, hsz2⟩ := info_parts info_text
          clear hez
          have cO1 := cO _ (gV.trans gg)
          go_wp2_with fail
          refine cO1.mono ?_
          rintro e w3 ⟨bv', nv', Y, rfl, ho, hmap, g3⟩
          have hs : StB w w.heap.size (w.heap.size + 1) s.nb s.nn s.ns bv' nv' s.books Y (((((w3.setCell ⟨w.heap.size, 0, none⟩ (.int .i64 s.nb)).setCell ⟨w.heap.size, 1, none⟩ (.int .i64 s.nn)).setCell ⟨w.heap.size, 2, none⟩ (.int .i64 s.ns)).setCell ⟨w.heap.size, 3, none⟩ bv').setCell ⟨w.heap.size, 4, none⟩ nv') := StB.start (s := s) (D := w.heap.size + 1) gV HBX.out HRX.out gg g3 ho ⟨Nat.le_refl _, by omega, by omega⟩
          obtain ⟨ba, bc, ebv, -⟩ := ho.books.slice
          obtain ⟨na, nc, env, -⟩ := ho.notes.slice
          have hYl : Y.length = s.notes.length := by rw [← hmap, List.length_map]
          rw [hYl] at env
          have HMAP := Lib.hid hmap
          have HYL := Lib.hid hYl
          subst ebv env
          obtain ⟨⟨p0', p1', p2', p3', p4'⟩, hpz'⟩ := n5 ((gg.trans g3).blk HBX.out)
          have HF3 := Lib.hid (frozen_of_row w3 w.heap.size 0 _ _ ((gg.trans g3).blk HBX.out))
          have ff : ∀ j, w3.frozen? ⟨w.heap.size, j, none⟩ = false := fun j => frozen_of_row w3 w.heap.size j _ _ ((gg.trans g3).blk HBX.out)
          have ff0 := ff 0
          have ff1 := ff 1
          have ff2 := ff 2
          have ff3 := ff 3
          have ff4 := ff 4
          have HOW3 := Lib.hid ho
          have HG3 := Lib.hid (gg.trans g3)
          have hw3 : w.heap.size < w3.heap.size := hpz'
          clear cO1 cO ho hmap g3 hYl p0 p1 p2 p3 p4 ff
          unfold shelfV
          go_upto_region 11 with (fail)
          generalize ((((w3.setCell ⟨w.heap.size, 0, none⟩ (.int .i64 s.nb)).setCell ⟨w.heap.size, 1, none⟩ (.int .i64 s.nn)).setCell ⟨w.heap.size, 2, none⟩ (.int .i64 s.ns)).setCell ⟨w.heap.size, 3, none⟩ (.slice ba s.books.length bc)).setCell ⟨w.heap.size, 4, none⟩ (.slice na s.notes.length nc) = W at *
          have HS := Lib.hid hs
          obtain ⟨⟨p0, p1, p2, p3, p4⟩, hpz⟩ := hs.five
          have hb3 := hs.boxF 3
          have hb4 := hs.boxF 4
          clear hs p0' p1' p2' p3' p4' ff0 ff1 ff2 ff3 ff4 hpz'
          obtain ⟨z, hz, hzn⟩ := nv_get HMAP.out HX.out
          have HZN := Lib.hid hzn
          have HY := Lib.hid hz
          obtain ⟨b, cc, ebb, hbz, -, -, hcl⟩ := HS.out.own.note hz
          rw [HYL.out] at ebb
          injection ebb with eb1 eb2 eb3
          subst eb1 eb3
          have hrt := HS.out.own.tags z (List.mem_of_getElem? hz)
          rw [hzn] at hrt
          obtain ⟨tb, tcc, ezt, -⟩ := hrt.slice
          rw [ezt] at hrt
          have HEZ := Lib.hid ezt
          have HRT := Lib.hid hrt
          obtain ⟨q3, qf3⟩ := hcl 3 _ rfl
          rw [ezt] at q3
          clear hcl hz hzn ezt hrt
          go_upto_region 13 with (at_builtin; refine app_R (base := w.heap.size) (by rfl) _ _ 38 (by rfl) 9 is _ 1 16 Tryd.underlying38 his hsz0 hsz1 hsz2 (by rfl) (by decide) (.slice tb x.tags.length tcc) x.tags.length (strC x.tags) (by rfl) W HRT.out HS.out.grow.size [.string t] rfl ?_ (by rfl) ?_ (by decide) ?_; (intro u hu; simp at hu; subst hu; rfl); omega; intro v' w4 ra; obtain ⟨va, vc, e3, -⟩ := ra.1.slice; subst e3; obtain ⟨k3, f3, z5, hs4⟩ := HS.out.tagApp HY.out (by rw [HEZ.out, HZN.out]; exact ra) (by rw [HYL.out]); rw [HEZ.out] at k3; have HS4 := Lib.hid hs4; clear hs4 ra)
          generalize w4.setCell ⟨b, i * 5 + 3, none⟩ (.slice va (x.tags.length + 1) vc) = W4 at *
          have hy4 : (Y.set i ⟨{ z.n with tags := z.n.tags ++ [t] }, .slice va (x.tags.length + 1) vc, z.sv⟩)[i]? = some ⟨{ z.n with tags := z.n.tags ++ [t] }, .slice va (x.tags.length + 1) vc, z.sv⟩ := List.getElem?_set_self (by rw [HYL.out]; omega)
          obtain ⟨b4, cc4, ebb4, hbz4, -, -, hcl4⟩ := HS4.out.own.note hy4
          rw [List.length_set, HYL.out] at ebb4
          injection ebb4 with eb1 eb2 eb3
          injection eb1 with eb1
          injection eb1 with eb1
          subst eb1
          obtain ⟨q3', qf3'⟩ := hcl4 3 _ rfl
          have hrt := HS4.out.own.tags _ (List.mem_of_getElem? hy4)
          have cS := sortTexts_any w.heap.size (.slice va (x.tags.length + 1) vc) (z.n.tags ++ [t]) W4 hrt (by rw [List.length_append, HZN.out]; simp; omega)
          have HY4 := Lib.hid hy4
          clear hcl4 hy4 hrt q3 qf3 k3 f3 z5 p0 p1 p2 p3 p4 hpz hb3 hb4 HS
          go_wp2_with fail
          refine cS.mono ?_
          rintro e w5 ⟨rfl, l', hp, hs, hr, hg⟩
          have HLT := Lib.hid (show l' = insT t x.tags by rw [← HZN.out]; exact tags_sorted hp hs (HMY.out.tinc _ (by rw [HZN.out]; exact List.mem_of_getElem? HX.out)) (by rw [HZN.out]; exact hasT_no.1 HHX.out))
          have hl' : l'.length = x.tags.length + 1 := by rw [HLT.out, insT_length]
          have hs5 := HS4.out.resort HY4.out (l := l') hr hg (by rw [List.length_set, HYL.out])
          rw [List.set_set] at hs5
          have HS5 := Lib.hid hs5
          have HMQ := Lib.hid (map_setN HMY.out.ninc HMAP.out HY.out (z := ⟨{ z.n with tags := l' }, .slice va (x.tags.length + 1) vc, z.sv⟩) (fun n => { n with tags := insT t n.tags }) (by show { z.n with tags := l' } = { z.n with tags := insT t z.n.tags }; rw [HLT.out, HZN.out]) (show z.n.id = id by rw [HZN.out]; exact HXID.out))
          clear cS hp hs hr hg hl' hs5 q3' qf3' HS4
          obtain ⟨⟨p0, p1, p2, p3, p4⟩, hpz⟩ := HS5.out.five
          obtain ⟨⟨e0, e1, e2, e3, e4⟩, hez⟩ := HS5.out.res5
          have f0 := HS5.out.resF 0
          have f1 := HS5.out.resF 1
          have f2 := HS5.out.resF 2
          have f3 := HS5.out.resF 3
          have f4 := HS5.out.resF 4
          have HOD := Lib.hid HS5.out.fin
          go_wp2_with fail
          refine bodyPost_ret (v := .tuple #[.agg #[.int .i64 s.nb, .int .i64 s.nn, .int .i64 s.ns, .slice ba s.books.length bc, .slice (some ⟨b, 0, none⟩) s.notes.length nc], .int .i64 0]) ?_ rfl ?_
          · rw [results_cell_tmp rfl]
            go_simp
          · refine ret_okC (D := w.heap.size + 1) (s := { s with notes := updN id (fun n => { n with tags := insT t n.tags }) s.notes }) HE.out ?_ HMQ.out
            repeat' (first | with_reducible exact HOD.out | with_reducible refine OwnD2.drew ?_ | with_reducible refine OwnD2.set ?_ (by omega) _ _)
end Go.Proofs.YtnajccljdjllgaaDoor
set_option linter.unusedVariables false
set_option linter.unusedSimpArgs false
namespace Go.Proofs.YtnajccljdjllgaaDoor
open Go.RowKit Go.Lib
set_option maxRecDepth 100000 in
set_option maxHeartbeats 4000000 in
theorem untag_any (s : Shelf) (bv nv : Value) (id : Int) (t : ByteArray) (w : World) (h : ShelfR w s bv nv) (hz : TameS s) (ht : t.size ≤ 1000000000) (hT : Tabs w) :
    Calls Tryd.prog 50 #[shelfV s bv nv, .int .i64 id, .string t] w (RetC (untagR s id t) w) := by
  have cF := fun W (g : Grow w W) => nfind_any s bv nv id W (h.grow g) hz (hT.below g)
  have cO := fun W (g : Grow w W) => own18_any s bv nv W (h.grow g) hz.1
  have cC := fun v (l : List ByteArray) W (hl : l.length ≤ 1000000) (hv : Texts W v l) => hasText_any v l t W hv hl
  have HZ := Lib.hid hz
  have HH := Lib.hid h
  obtain ⟨a1, c1, rfl⟩ := h.1.mk
  obtain ⟨a2, c2, rfl⟩ := h.2.mk
  have HXX := Lib.hid (three_boxes w (shB s (.slice a1 s.books.length c1) (.slice a2 s.notes.length c2)) (.cells #[.string t] 9) (shB ⟨0, 0, 0, [], []⟩ (.slice none 0 0) (.slice none 0 0)))
  clear h hz hT
  unfold shelfV at *
  go_enter Tryd.func50, Tryd.ntmps50
  go_upto_region 1 with (fail)
  generalize hV : ((w.alloc (.cells #[.int .i64 s.nb, .int .i64 s.nn, .int .i64 s.ns, .slice a1 s.books.length c1, .slice a2 s.notes.length c2] 28)).alloc (.cells #[.string t] 9)).alloc (.cells #[.int .i64 0, .int .i64 0, .int .i64 0, .slice none 0 0, .slice none 0 0] 28) = V
  have gV : Grow w V := by rw [← hV]; exact (((Grow.refl w).alloc _).alloc _).alloc _
  have HBX : Hid (V.heap[w.heap.size]? = some (shB s (.slice a1 s.books.length c1) (.slice a2 s.notes.length c2))) := by rw [← hV]; exact Lib.hid HXX.out.1
  have HB1 : Hid (V.heap[w.heap.size + 1]? = some (.cells #[.string t] 9)) := by rw [← hV]; exact Lib.hid HXX.out.2.1
  have HRX : Hid (V.heap[w.heap.size + 1 + 1]? = some (shB ⟨0, 0, 0, [], []⟩ (.slice none 0 0) (.slice none 0 0))) := by rw [← hV]; exact Lib.hid HXX.out.2.2
  obtain ⟨⟨p0, p1, p2, p3, p4⟩, hpz⟩ := n5 HBX.out
  clear hV
  have cF1 := cF V gV
  rcases noteE_cases s id with h0 | ⟨h0, h1⟩
  rotate_left
  · have HEE := Lib.hid (show untagE s id t = noteE s id from untagE_of h0 t)
    have HF := Lib.hid (show nfI s id = 0 by unfold nfI; rw [if_neg h0])
    have HN0 := Lib.hid h0
    rw [HF.out] at cF1
    generalize noteE s id = n at *
    clear cO
    go_wp2_with fail
    refine cF1.mono ?_
    rintro e w1 ⟨rfl, g1⟩
    clear cF1 p0 p1 p2 p3 p4 hpz h0
    have HE := Lib.hid (show untagR s id t = bad n from res_bad HEE.out HN0.out _ _)
    obtain ⟨⟨e0, e1, e2, e3, e4⟩, hez⟩ := n5 (g1.blk HRX.out)
    have f0 := frozen_of_row _ (w.heap.size + 1 + 1) 0 _ _ (g1.blk HRX.out)
    have f1 := frozen_of_row _ (w.heap.size + 1 + 1) 1 _ _ (g1.blk HRX.out)
    have f2 := frozen_of_row _ (w.heap.size + 1 + 1) 2 _ _ (g1.blk HRX.out)
    have f3 := frozen_of_row _ (w.heap.size + 1 + 1) 3 _ _ (g1.blk HRX.out)
    have f4 := frozen_of_row _ (w.heap.size + 1 + 1) 4 _ _ (g1.blk HRX.out)
    go_wp2_with fail
    refine bodyPost_ret (v := .tuple #[.agg #[.int .i64 0, .int .i64 0, .int .i64 0, .slice none 0 0, .slice none 0 0], .int .i64 n]) ?_ rfl ?_
    · rw [results_cell_tmp rfl]
      go_simp
    · refine ret_badC HE.out ?_
      repeat' (first | with_reducible exact gV.trans g1 | with_reducible refine Grow.set ?_ (by first | (simp; done) | (simp; omega)) _)
  · have HN0 := Lib.hid h0
    obtain ⟨i, hi1, hi2, hil, hx, hxid⟩ := note_here h0
    rw [h0, hi1] at cF1
    have HII := Lib.hid hi2
    obtain ⟨x, hxx⟩ : ∃ x, x = noteOf s id := ⟨_, rfl⟩
    rw [← hxx] at hx hxid
    have HXN := Lib.hid hxx
    have HX := Lib.hid hx
    have HXID := Lib.hid hxid
    have hil' : (i : Int) < s.notes.length := by omega
    obtain ⟨z1, z2, z3, z4⟩ := HZ.out.1.note hx
    clear h0 hi1 hi2 hxid hxx
    go_wp2_with fail
    refine cF1.mono ?_
    rintro e w1 ⟨rfl, g1⟩
    clear cF1 p0 p1 p2 p3 p4 hpz
    obtain ⟨⟨p0, p1, p2, p3, p4⟩, hpz⟩ := n5 (g1.blk HBX.out)
    obtain ⟨nb, off, tv, sv, ea, hnb, -, -, -, n3, n4, htv, hsv⟩ := Notes.at (Notes.grow HH.out.2 (gV.trans g1)) hx
    obtain ⟨ta, tc, etv⟩ := htv.mk
    obtain ⟨sa, sc, esv⟩ := hsv.mk
    subst ea etv esv
    have HTV := Lib.hid htv
    have HSV := Lib.hid hsv
    have HN3 := Lib.hid n3
    have HN4 := Lib.hid n4
    have HNB := Lib.hid hnb
    clear hx htv hsv
    have cC1 := fun y : Gr w1 => cC (.slice ta x.tags.length tc) x.tags y.W z2 (HTV.out.grow y.g)
    have ib1 : w1.cell? ⟨w.heap.size + 1, 0, none⟩ = some (.string t) := (cell_of_row w1 _ 0 _ _ _ (g1.blk HB1.out)).trans rfl
    have ibz : w.heap.size + 1 < w1.heap.size := (Array.getElem?_eq_some_iff.1 (g1.blk HB1.out)).1
    go_upto_region 4 with (fail)
    refine wp_region_gr (by kernel_rfl) (by kernel_rfl) ?_
    repeat (go_big_quiet_step (first | (go_at_call 87; exact Calls.gr_same ((cC1 _).mono fun _ _ h => ⟨h.1, h.2.symm⟩))))
    refine wpQuiet_nil ?_
    rintro _ ⟨y, rfl⟩
    have gy := g1.trans y.g
    generalize y.W = wy at *
    clear cC cC1 p0 p1 p2 p3 p4 hpz n3 n4 hnb ib1 ibz y
    obtain ⟨⟨p0, p1, p2, p3, p4⟩, hpz⟩ := n5 (gy.blk HBX.out)
    cases hh : hasT t x.tags with
    | false =>
      have HHT := Lib.hid (show hasT t (noteOf s id).tags = false by rw [← HXN.out]; exact hh)
      clear hh cO
      have HE := Lib.hid (show untagR s id t = bad 4 from res_bad (by unfold untagE; rw [if_neg (by rw [(noteE_zero.1 HN0.out).1]; simp), if_neg (by have := (noteE_zero.1 HN0.out).2; omega), if_pos HHT.out]) (by decide) _ _)
      obtain ⟨⟨e0, e1, e2, e3, e4⟩, hez⟩ := n5 (gy.blk HRX.out)
      have f0 := frozen_of_row _ (w.heap.size + 1 + 1) 0 _ _ (gy.blk HRX.out)
      have f1 := frozen_of_row _ (w.heap.size + 1 + 1) 1 _ _ (gy.blk HRX.out)
      have f2 := frozen_of_row _ (w.heap.size + 1 + 1) 2 _ _ (gy.blk HRX.out)
      have f3 := frozen_of_row _ (w.heap.size + 1 + 1) 3 _ _ (gy.blk HRX.out)
      have f4 := frozen_of_row _ (w.heap.size + 1 + 1) 4 _ _ (gy.blk HRX.out)
      go_wp2_with fail
      refine bodyPost_ret (v := .tuple #[.agg #[.int .i64 0, .int .i64 0, .int .i64 0, .slice none 0 0, .slice none 0 0], .int .i64 4]) ?_ rfl ?_
      · rw [results_cell_tmp rfl]
        go_simp
      · refine ret_badC HE.out ?_
        repeat' (first | with_reducible exact gV.trans gy | with_reducible refine Grow.set ?_ (by first | (simp; done) | (simp; omega)) _)
    | true =>
      have hez : untagE s id t = 0 := untagE_zero.2 ⟨(noteE_zero.1 HN0.out).1, (noteE_zero.1 HN0.out).2, by rw [← HXN.out]; exact hh⟩
      have HMY := Lib.hid (mayS_iff.1 (noteE_zero.1 HN0.out).1)
      have HE := Lib.hid (show untagR s id t = ⟨{ s with notes := updN id (fun n => { n with tags := n.tags.filter (fun x => !(x.toList == t.toList)) }) s.notes }, 0, 0⟩ from resOf_ok hez _ _)
      clear hez hh
      have cO1 := cO _ (gV.trans gy)
      go_wp2_with fail
      refine cO1.mono ?_
      rintro e w3 ⟨bv', nv', Y, rfl, ho, hmap, g3⟩
      have hs : StB w w.heap.size (w.heap.size + 1 + 1) s.nb s.nn s.ns bv' nv' s.books Y (((((w3.setCell ⟨w.heap.size, 0, none⟩ (.int .i64 s.nb)).setCell ⟨w.heap.size, 1, none⟩ (.int .i64 s.nn)).setCell ⟨w.heap.size, 2, none⟩ (.int .i64 s.ns)).setCell ⟨w.heap.size, 3, none⟩ bv').setCell ⟨w.heap.size, 4, none⟩ nv') := StB.start (s := s) (D := w.heap.size + 1 + 1) gV HBX.out HRX.out gy g3 ho ⟨Nat.le_refl _, by omega, by omega⟩
      have hI1 : (((((w3.setCell ⟨w.heap.size, 0, none⟩ (.int .i64 s.nb)).setCell ⟨w.heap.size, 1, none⟩ (.int .i64 s.nn)).setCell ⟨w.heap.size, 2, none⟩ (.int .i64 s.ns)).setCell ⟨w.heap.size, 3, none⟩ bv').setCell ⟨w.heap.size, 4, none⟩ nv').heap[w.heap.size + 1]? = some (.cells #[.string t] 9) := set5_other _ _ _ _ _ (by omega) ((gy.trans g3).blk HB1.out)
      obtain ⟨ba, bc, ebv, -⟩ := ho.books.slice
      obtain ⟨na, nc, env, -⟩ := ho.notes.slice
      have hYl : Y.length = s.notes.length := by rw [← hmap, List.length_map]
      rw [hYl] at env
      have HMAP := Lib.hid hmap
      have HYL := Lib.hid hYl
      subst ebv env
      obtain ⟨⟨p0', p1', p2', p3', p4'⟩, hpz'⟩ := n5 ((gy.trans g3).blk HBX.out)
      have HF3 := Lib.hid (frozen_of_row w3 w.heap.size 0 _ _ ((gy.trans g3).blk HBX.out))
      have ff : ∀ j, w3.frozen? ⟨w.heap.size, j, none⟩ = false := fun j => frozen_of_row w3 w.heap.size j _ _ ((gy.trans g3).blk HBX.out)
      have ff0 := ff 0
      have ff1 := ff 1
      have ff2 := ff 2
      have ff3 := ff 3
      have ff4 := ff 4
      have HOW3 := Lib.hid ho
      have HG3 := Lib.hid (gy.trans g3)
      have hw3 : w.heap.size < w3.heap.size := hpz'
      clear cO1 cO ho hmap g3 hYl p0 p1 p2 p3 p4 ff
      unfold shelfV
      go_upto_region 7 with (fail)
      generalize ((((w3.setCell ⟨w.heap.size, 0, none⟩ (.int .i64 s.nb)).setCell ⟨w.heap.size, 1, none⟩ (.int .i64 s.nn)).setCell ⟨w.heap.size, 2, none⟩ (.int .i64 s.ns)).setCell ⟨w.heap.size, 3, none⟩ (.slice ba s.books.length bc)).setCell ⟨w.heap.size, 4, none⟩ (.slice na s.notes.length nc) = W at *
      have HS := Lib.hid hs
      have HI1 := Lib.hid hI1
      clear hI1
      obtain ⟨⟨p0, p1, p2, p3, p4⟩, hpz⟩ := hs.five
      have hb3 := hs.boxF 3
      have hb4 := hs.boxF 4
      clear hs p0' p1' p2' p3' p4' ff0 ff1 ff2 ff3 ff4 hpz'
      obtain ⟨z, hz, hzn⟩ := nv_get HMAP.out HX.out
      have HZN := Lib.hid hzn
      have HY := Lib.hid hz
      obtain ⟨b, cc, ebb, hbz, -, -, hcl⟩ := HS.out.own.note hz
      rw [HYL.out] at ebb
      injection ebb with eb1 eb2 eb3
      subst eb1 eb3
      have hrt := HS.out.own.tags z (List.mem_of_getElem? hz)
      rw [hzn] at hrt
      obtain ⟨tb, tcc, ezt, -⟩ := hrt.slice
      rw [ezt] at hrt
      have HEZ := Lib.hid ezt
      have hne : some (w.heap.size + 1) ≠ blkOf (.slice tb x.tags.length tcc) := fun e => by
        have h1 := ((HOW3.out.tags z (List.mem_of_getElem? hz)).blk (g := w.heap.size + 1) (by rw [ezt]; exact e.symm)).1
        have h2 := (Array.getElem?_eq_some_iff.1 (gy.blk HB1.out)).1
        omega
      have cD := untagD hrt z2 HS.out.grow.size HI1.out hne
      obtain ⟨q3, qf3⟩ := hcl 3 _ rfl
      rw [ezt] at q3
      clear hcl hz hzn ezt hrt hne
      go_wp2_with fail
      refine cD.mono ?_
      rintro e w5 ⟨v5, rfl, hr, hg, hbk⟩
      obtain ⟨va, vc, e5, -⟩ := hr.slice
      subst e5
      obtain ⟨k3, f3, z5, hs4⟩ := HS.out.retag HY.out hr (by rw [HEZ.out]; exact hg) (fun q hq => .inl (by rw [HEZ.out, ← hbk]; exact hq)) (by rw [HYL.out])
      rw [HEZ.out] at k3
      have HS4 := Lib.hid hs4
      have HMQ := Lib.hid (map_setN HMY.out.ninc HMAP.out HY.out (z := ⟨{ z.n with tags := x.tags.filter (fun x => !(x.toList == t.toList)) }, .slice va (x.tags.filter (fun x => !(x.toList == t.toList))).length vc, z.sv⟩) (fun n => { n with tags := n.tags.filter (fun x => !(x.toList == t.toList)) }) (by simp only [HZN.out]) (show z.n.id = id by rw [HZN.out]; exact HXID.out))
      clear cD hr hg hbk hs4 p0 p1 p2 p3 p4 hpz hb3 hb4 q3 qf3
      go_upto_region 9 with (fail)
      generalize w5.setCell ⟨b, i * 5 + 3, none⟩ (.slice va (x.tags.filter (fun x => !(x.toList == t.toList))).length vc) = W4 at *
      clear k3 f3 z5 HS
      obtain ⟨⟨p0, p1, p2, p3, p4⟩, hpz⟩ := HS4.out.five
      obtain ⟨⟨e0, e1, e2, e3, e4⟩, hez⟩ := HS4.out.res5
      have f0 := HS4.out.resF 0
      have f1 := HS4.out.resF 1
      have f2 := HS4.out.resF 2
      have f3 := HS4.out.resF 3
      have f4 := HS4.out.resF 4
      have HOD := Lib.hid HS4.out.fin
      go_wp2_with fail
      refine bodyPost_ret (v := .tuple #[.agg #[.int .i64 s.nb, .int .i64 s.nn, .int .i64 s.ns, .slice ba s.books.length bc, .slice (some ⟨b, 0, none⟩) s.notes.length nc], .int .i64 0]) ?_ rfl ?_
      · rw [results_cell_tmp rfl]
        go_simp
      · refine ret_okC (D := w.heap.size + 1 + 1) (s := { s with notes := updN id (fun n => { n with tags := n.tags.filter (fun x => !(x.toList == t.toList)) }) s.notes }) HE.out ?_ HMQ.out
        repeat' (first | with_reducible exact HOD.out | with_reducible refine OwnD2.drew ?_ | with_reducible refine OwnD2.set ?_ (by omega) _ _)
end Go.Proofs.YtnajccljdjllgaaDoor
set_option linter.unusedVariables false
set_option linter.unusedSimpArgs false
namespace Go.Proofs.YtnajccljdjllgaaDoor
open Go.RowKit Go.Lib
set_option maxRecDepth 100000 in
set_option maxHeartbeats 4000000 in
theorem append_any (s : Shelf) (bv nv : Value) (id : Int) (w : World) (h : ShelfR w s bv nv) (hz : TameS s) (hT : Tabs w) :
    Calls Tryd.prog 44 #[shelfV s bv nv, .int .i64 id] w (RetM (appendR s id) w) := by
  have cF := fun W (g : Grow w W) => nfind_any s bv nv id W (h.grow g) hz (hT.below g)
  have cO := fun W (g : Grow w W) => own18_any s bv nv W (h.grow g) hz.1
  have HZ := Lib.hid hz
  have HH := Lib.hid h
  obtain ⟨a1, c1, rfl⟩ := h.1.mk
  obtain ⟨a2, c2, rfl⟩ := h.2.mk
  have HXX := Lib.hid (two_boxes2 w (shB s (.slice a1 s.books.length c1) (.slice a2 s.notes.length c2)) (shB ⟨0, 0, 0, [], []⟩ (.slice none 0 0) (.slice none 0 0)))
  clear h hz hT
  unfold shelfV at *
  go_enter Tryd.func44, Tryd.ntmps44
  go_upto_region 1 with (fail)
  generalize hV : (w.alloc (.cells #[.int .i64 s.nb, .int .i64 s.nn, .int .i64 s.ns, .slice a1 s.books.length c1, .slice a2 s.notes.length c2] 28)).alloc (.cells #[.int .i64 0, .int .i64 0, .int .i64 0, .slice none 0 0, .slice none 0 0] 28) = V
  have gV : Grow w V := by rw [← hV]; exact ((Grow.refl w).alloc _).alloc _
  have HBX : Hid (V.heap[w.heap.size]? = some (shB s (.slice a1 s.books.length c1) (.slice a2 s.notes.length c2))) := by rw [← hV]; exact Lib.hid HXX.out.1
  have HRX : Hid (V.heap[w.heap.size + 1]? = some (shB ⟨0, 0, 0, [], []⟩ (.slice none 0 0) (.slice none 0 0))) := by rw [← hV]; exact Lib.hid HXX.out.2
  obtain ⟨⟨p0, p1, p2, p3, p4⟩, hpz⟩ := n5 HBX.out
  clear hV
  have cF1 := cF V gV
  rcases noteE_cases s id with h0 | ⟨h0, h1⟩
  rotate_left
  · have HEE := Lib.hid (show appendE s id = noteE s id from appendE_of h0)
    have HF := Lib.hid (show nfI s id = 0 by unfold nfI; rw [if_neg h0])
    have HN0 := Lib.hid h0
    rw [HF.out] at cF1
    generalize noteE s id = n at *
    clear cO
    go_wp2_with fail
    refine cF1.mono ?_
    rintro e w1 ⟨rfl, g1⟩
    clear cF1 p0 p1 p2 p3 p4 hpz h0
    have HE := Lib.hid (show appendR s id = bad n from res_bad HEE.out HN0.out _ _)
    obtain ⟨⟨e0, e1, e2, e3, e4⟩, hez⟩ := n5 (g1.blk HRX.out)
    have f0 := frozen_of_row _ (w.heap.size + 1) 0 _ _ (g1.blk HRX.out)
    have f1 := frozen_of_row _ (w.heap.size + 1) 1 _ _ (g1.blk HRX.out)
    have f2 := frozen_of_row _ (w.heap.size + 1) 2 _ _ (g1.blk HRX.out)
    have f3 := frozen_of_row _ (w.heap.size + 1) 3 _ _ (g1.blk HRX.out)
    have f4 := frozen_of_row _ (w.heap.size + 1) 4 _ _ (g1.blk HRX.out)
    go_wp2_with fail
    refine bodyPost_ret (v := .tuple #[.agg #[.int .i64 0, .int .i64 0, .int .i64 0, .slice none 0 0, .slice none 0 0], .int .i64 0, .int .i64 n]) ?_ rfl ?_
    · rw [results_cell_tmp2 (P := Tryd.prog) rfl]
      go_simp
    · refine ret_badM HE.out ?_
      repeat' (first | with_reducible exact gV.trans g1 | with_reducible refine Grow.set ?_ (by first | (simp; done) | (simp; omega)) _)
  · have HN0 := Lib.hid h0
    obtain ⟨i, hi1, hi2, hil, hx, hxid⟩ := note_here h0
    rw [h0, hi1] at cF1
    have HII := Lib.hid hi2
    obtain ⟨x, hxx⟩ : ∃ x, x = noteOf s id := ⟨_, rfl⟩
    rw [← hxx] at hx hxid
    have HXN := Lib.hid hxx
    have HX := Lib.hid hx
    have HXID := Lib.hid hxid
    have hil' : (i : Int) < s.notes.length := by omega
    obtain ⟨z1, z2, z3, z4⟩ := HZ.out.1.note hx
    clear h0 hi1 hi2 hxid hxx
    go_wp2_with fail
    refine cF1.mono ?_
    rintro e w1 ⟨rfl, g1⟩
    clear cF1 p0 p1 p2 p3 p4 hpz
    obtain ⟨⟨p0, p1, p2, p3, p4⟩, hpz⟩ := n5 (g1.blk HBX.out)
    obtain ⟨nb, off, tv, sv, ea, hnb, -, -, -, n3, n4, htv, hsv⟩ := Notes.at (Notes.grow HH.out.2 (gV.trans g1)) hx
    obtain ⟨ta, tc, etv⟩ := htv.mk
    obtain ⟨sa, sc, esv⟩ := hsv.mk
    subst ea etv esv
    have HTV := Lib.hid htv
    have HSV := Lib.hid hsv
    have HN3 := Lib.hid n3
    have HN4 := Lib.hid n4
    have HNB := Lib.hid hnb
    clear hx htv hsv
    by_cases hl : 8 ≤ (x.sheets.length : Int)
    · have HL := Lib.hid (show 8 ≤ ((noteOf s id).sheets.length : Int) by rw [← HXN.out]; exact hl)
      clear cO
      have HE := Lib.hid (show appendR s id = bad 3 from res_bad (by unfold appendE; rw [if_neg (by rw [(noteE_zero.1 HN0.out).1]; simp), if_neg (by have := (noteE_zero.1 HN0.out).2; omega), if_pos (.inl HL.out)]) (by decide) _ _)
      obtain ⟨⟨e0, e1, e2, e3, e4⟩, hez⟩ := n5 (g1.blk HRX.out)
      have f0 := frozen_of_row _ (w.heap.size + 1) 0 _ _ (g1.blk HRX.out)
      have f1 := frozen_of_row _ (w.heap.size + 1) 1 _ _ (g1.blk HRX.out)
      have f2 := frozen_of_row _ (w.heap.size + 1) 2 _ _ (g1.blk HRX.out)
      have f3 := frozen_of_row _ (w.heap.size + 1) 3 _ _ (g1.blk HRX.out)
      have f4 := frozen_of_row _ (w.heap.size + 1) 4 _ _ (g1.blk HRX.out)
      go_wp2_with fail
      refine bodyPost_ret (v := .tuple #[.agg #[.int .i64 0, .int .i64 0, .int .i64 0, .slice none 0 0, .slice none 0 0], .int .i64 0, .int .i64 3]) ?_ rfl ?_
      · rw [results_cell_tmp2 (P := Tryd.prog) rfl]
        go_simp
      · refine ret_badM HE.out ?_
        repeat' (first | with_reducible exact gV.trans g1 | with_reducible refine Grow.set ?_ (by first | (simp; done) | (simp; omega)) _)
    · by_cases hk : 4095 < s.ns
      · have HL := Lib.hid hk
        clear cO
        have HE := Lib.hid (show appendR s id = bad 3 from res_bad (by unfold appendE; rw [if_neg (by rw [(noteE_zero.1 HN0.out).1]; simp), if_neg (by have := (noteE_zero.1 HN0.out).2; omega), if_pos (.inr HL.out)]) (by decide) _ _)
        obtain ⟨⟨e0, e1, e2, e3, e4⟩, hez⟩ := n5 (g1.blk HRX.out)
        have f0 := frozen_of_row _ (w.heap.size + 1) 0 _ _ (g1.blk HRX.out)
        have f1 := frozen_of_row _ (w.heap.size + 1) 1 _ _ (g1.blk HRX.out)
        have f2 := frozen_of_row _ (w.heap.size + 1) 2 _ _ (g1.blk HRX.out)
        have f3 := frozen_of_row _ (w.heap.size + 1) 3 _ _ (g1.blk HRX.out)
        have f4 := frozen_of_row _ (w.heap.size + 1) 4 _ _ (g1.blk HRX.out)
        go_wp2_with fail
        refine bodyPost_ret (v := .tuple #[.agg #[.int .i64 0, .int .i64 0, .int .i64 0, .slice none 0 0, .slice none 0 0], .int .i64 0, .int .i64 3]) ?_ rfl ?_
        · rw [results_cell_tmp2 (P := Tryd.prog) rfl]
          go_simp
        · refine ret_badM HE.out ?_
          repeat' (first | with_reducible exact gV.trans g1 | with_reducible refine Grow.set ?_ (by first | (simp; done) | (simp; omega)) _)
      · have hez : appendE s id = 0 := appendE_zero.2 ⟨(noteE_zero.1 HN0.out).1, (noteE_zero.1 HN0.out).2, by rw [← HXN.out]; omega, by omega⟩
        have HMY := Lib.hid (mayS_iff.1 (noteE_zero.1 HN0.out).1)
        have hns := HMY.out.ns
        have HE := Lib.hid (show appendR s id = ⟨{ s with ns := s.ns + 1, notes := updN id (fun n => { n with sheets := n.sheets ++ [s.ns] }) s.notes }, s.ns, 0⟩ from resOf_ok hez _ _)
        obtain ⟨ii, hii, hiz0, hiz1, hiz2⟩ := info_parts info_int
        clear hez
        have cO1 := cO _ (gV.trans g1)
        go_wp2_with fail
        refine cO1.mono ?_
        rintro e w3 ⟨bv', nv', Y, rfl, ho, hmap, g3⟩
        have hs : StB w w.heap.size (w.heap.size + 1) s.nb s.nn s.ns bv' nv' s.books Y (((((w3.setCell ⟨w.heap.size, 0, none⟩ (.int .i64 s.nb)).setCell ⟨w.heap.size, 1, none⟩ (.int .i64 s.nn)).setCell ⟨w.heap.size, 2, none⟩ (.int .i64 s.ns)).setCell ⟨w.heap.size, 3, none⟩ bv').setCell ⟨w.heap.size, 4, none⟩ nv') := StB.start (s := s) (D := w.heap.size + 1) gV HBX.out HRX.out g1 g3 ho ⟨Nat.le_refl _, by omega, by omega⟩
        obtain ⟨ba, bc, ebv, -⟩ := ho.books.slice
        obtain ⟨na, nc, env, -⟩ := ho.notes.slice
        have hYl : Y.length = s.notes.length := by rw [← hmap, List.length_map]
        rw [hYl] at env
        have HMAP := Lib.hid hmap
        have HYL := Lib.hid hYl
        subst ebv env
        obtain ⟨⟨p0', p1', p2', p3', p4'⟩, hpz'⟩ := n5 ((g1.trans g3).blk HBX.out)
        have HF3 := Lib.hid (frozen_of_row w3 w.heap.size 0 _ _ ((g1.trans g3).blk HBX.out))
        have ff : ∀ j, w3.frozen? ⟨w.heap.size, j, none⟩ = false := fun j => frozen_of_row w3 w.heap.size j _ _ ((g1.trans g3).blk HBX.out)
        have ff0 := ff 0
        have ff1 := ff 1
        have ff2 := ff 2
        have ff3 := ff 3
        have ff4 := ff 4
        have HOW3 := Lib.hid ho
        have HG3 := Lib.hid (g1.trans g3)
        have hw3 : w.heap.size < w3.heap.size := hpz'
        clear cO1 cO ho hmap g3 hYl p0 p1 p2 p3 p4 ff
        unfold shelfV
        go_upto_region 7 with (fail)
        generalize ((((w3.setCell ⟨w.heap.size, 0, none⟩ (.int .i64 s.nb)).setCell ⟨w.heap.size, 1, none⟩ (.int .i64 s.nn)).setCell ⟨w.heap.size, 2, none⟩ (.int .i64 s.ns)).setCell ⟨w.heap.size, 3, none⟩ (.slice ba s.books.length bc)).setCell ⟨w.heap.size, 4, none⟩ (.slice na s.notes.length nc) = W at *
        have HS := Lib.hid hs
        obtain ⟨⟨p0, p1, p2, p3, p4⟩, hpz⟩ := hs.five
        have hb3 := hs.boxF 3
        have hb4 := hs.boxF 4
        clear hs p0' p1' p2' p3' p4' ff0 ff1 ff2 ff3 ff4 hpz'
        obtain ⟨z, hz, hzn⟩ := nv_get HMAP.out HX.out
        have HZN := Lib.hid hzn
        have HY := Lib.hid hz
        obtain ⟨b, cc, ebb, hbz, -, -, hcl⟩ := HS.out.own.note hz
        rw [HYL.out] at ebb
        injection ebb with eb1 eb2 eb3
        subst eb1 eb3
        have hrt := HS.out.own.sheets z (List.mem_of_getElem? hz)
        rw [hzn] at hrt
        obtain ⟨tb, tcc, ezt, -⟩ := hrt.slice
        rw [ezt] at hrt
        have HEZ := Lib.hid ezt
        have HRT := Lib.hid (hrt.grow (Grow.refl W).drew)
        obtain ⟨q3, qf3⟩ := hcl 4 _ rfl
        rw [ezt] at q3
        have hyl8 : x.sheets.length ≤ 8 := by omega
        clear hcl hz hzn ezt hrt
        go_upto_region 8 with (fail)
        go_region_law (refine step_R (base := w.heap.size) (by rfl) _ _ 39 (by rfl) 3 ii _ 1 8 Tryd.underlying39 hii hiz0 hiz1 hiz2 (by rfl) (by decide) (.slice tb x.sheets.length tcc) x.sheets.length (intC x.sheets) (by rfl) W.drew HRT.out HS.out.grow.drew.size [.int .i64 s.ns] rfl ?_ (by rfl) ?_ (by decide) ?_; (intro u hu; simp at hu; subst hu; rfl); omega; intro v' w4 ra; obtain ⟨va, vc, e3, -⟩ := ra.1.slice; subst e3; obtain ⟨k3, f3, z5, hs4⟩ := (HS.out.more (Grow.refl W).drew).sheetApp HY.out (by rw [HEZ.out, HZN.out]; exact ra) (by rw [HYL.out]); rw [HEZ.out] at k3; have HS4 := Lib.hid hs4; clear hs4 ra)
        all_goals
          generalize w4.setCell ⟨b, i * 5 + 4, none⟩ (.slice va (x.sheets.length + 1) vc) = W4 at *
          have HMQ := Lib.hid (map_setN HMY.out.ninc HMAP.out HY.out (z := ⟨{ z.n with sheets := z.n.sheets ++ [s.ns] }, z.tv, .slice va (x.sheets.length + 1) vc⟩) (fun n => { n with sheets := n.sheets ++ [s.ns] }) rfl (show z.n.id = id by rw [HZN.out]; exact HXID.out))
          clear k3 f3 z5 q3 qf3 p0 p1 p2 p3 p4 hpz hb3 hb4 HS
          obtain ⟨⟨p0, p1, p2, p3, p4⟩, hpz⟩ := HS4.out.five
          have hb2 := HS4.out.boxF 2
          have HS5 := Lib.hid (HS4.out.num2 (s.ns + 1))
          go_upto_region 10 with (fail)
          generalize W4.setCell ⟨w.heap.size, 2, none⟩ (.int .i64 (s.ns + 1)) = W5 at *
          clear p0 p1 p2 p3 p4 hpz hb2 HS4
          obtain ⟨⟨p0, p1, p2, p3, p4⟩, hpz⟩ := HS5.out.five
          obtain ⟨⟨e0, e1, e2, e3, e4⟩, hez⟩ := HS5.out.res5
          have f0 := HS5.out.resF 0
          have f1 := HS5.out.resF 1
          have f2 := HS5.out.resF 2
          have f3 := HS5.out.resF 3
          have f4 := HS5.out.resF 4
          have HOD := Lib.hid HS5.out.fin
          go_region
          go_wp2_with fail
          refine bodyPost_ret (v := .tuple #[.agg #[.int .i64 s.nb, .int .i64 s.nn, .int .i64 (s.ns + 1), .slice ba s.books.length bc, .slice (some ⟨b, 0, none⟩) s.notes.length nc], .int .i64 (s.ns), .int .i64 0]) ?_ rfl ?_
          · rw [results_cell_tmp2 (P := Tryd.prog) rfl]
            go_simp
          · refine ret_okM (D := w.heap.size + 1) (s := { s with ns := s.ns + 1, notes := updN id (fun n => { n with sheets := n.sheets ++ [s.ns] }) s.notes }) HE.out ?_ HMQ.out
            repeat' (first | with_reducible exact HOD.out | with_reducible refine OwnD2.drew ?_ | with_reducible refine OwnD2.set ?_ (by omega) _ _)
end Go.Proofs.YtnajccljdjllgaaDoor
set_option linter.unusedVariables false
set_option linter.unusedSimpArgs false
namespace Go.Proofs.YtnajccljdjllgaaDoor
open Go.RowKit Go.Lib
set_option maxRecDepth 100000 in
set_option maxHeartbeats 4000000 in
theorem replace_any (s : Shelf) (bv nv : Value) (id k : Int) (w : World) (h : ShelfR w s bv nv) (hz : TameS s) (hT : Tabs w) :
    Calls Tryd.prog 53 #[shelfV s bv nv, .int .i64 id, .int .i64 k] w (RetM (replaceR s id k) w) := by
  have cF := fun W (g : Grow w W) => nsheet_any s bv nv id k W (h.grow g) hz (hT.below g)
  have cO := fun W (g : Grow w W) => own18_any s bv nv W (h.grow g) hz.1
  have HZ := Lib.hid hz
  have HH := Lib.hid h
  obtain ⟨a1, c1, rfl⟩ := h.1.mk
  obtain ⟨a2, c2, rfl⟩ := h.2.mk
  have HXX := Lib.hid (two_boxes2 w (shB s (.slice a1 s.books.length c1) (.slice a2 s.notes.length c2)) (shB ⟨0, 0, 0, [], []⟩ (.slice none 0 0) (.slice none 0 0)))
  clear h hz hT
  unfold shelfV at *
  go_enter Tryd.func53, Tryd.ntmps53
  go_upto_region 1 with (fail)
  generalize hV : (w.alloc (.cells #[.int .i64 s.nb, .int .i64 s.nn, .int .i64 s.ns, .slice a1 s.books.length c1, .slice a2 s.notes.length c2] 28)).alloc (.cells #[.int .i64 0, .int .i64 0, .int .i64 0, .slice none 0 0, .slice none 0 0] 28) = V
  have gV : Grow w V := by rw [← hV]; exact ((Grow.refl w).alloc _).alloc _
  have HBX : Hid (V.heap[w.heap.size]? = some (shB s (.slice a1 s.books.length c1) (.slice a2 s.notes.length c2))) := by rw [← hV]; exact Lib.hid HXX.out.1
  have HRX : Hid (V.heap[w.heap.size + 1]? = some (shB ⟨0, 0, 0, [], []⟩ (.slice none 0 0) (.slice none 0 0))) := by rw [← hV]; exact Lib.hid HXX.out.2
  obtain ⟨⟨p0, p1, p2, p3, p4⟩, hpz⟩ := n5 HBX.out
  clear hV
  have cF1 := cF V gV
  by_cases h0 : sheetE s id k = 0
  rotate_left
  · have h1 : (sheetE s id k == 0) = false := beq_eq_false_iff_ne.2 h0
    have HF := Lib.hid (show shI s id k = 0 by unfold shI; rw [if_neg h0])
    have HN0 := Lib.hid h0
    have HRR := Lib.hid (show replaceR s id k = bad (sheetE s id k) from resOf_no h0 _ _)
    rw [HF.out] at cF1
    generalize sheetE s id k = n at *
    clear cO
    go_wp2_with fail
    refine cF1.mono ?_
    rintro e w1 ⟨rfl, g1⟩
    clear cF1 p0 p1 p2 p3 p4 hpz h0
    have HE := Lib.hid (show replaceR s id k = bad n from HRR.out)
    obtain ⟨⟨e0, e1, e2, e3, e4⟩, hez⟩ := n5 (g1.blk HRX.out)
    have f0 := frozen_of_row _ (w.heap.size + 1) 0 _ _ (g1.blk HRX.out)
    have f1 := frozen_of_row _ (w.heap.size + 1) 1 _ _ (g1.blk HRX.out)
    have f2 := frozen_of_row _ (w.heap.size + 1) 2 _ _ (g1.blk HRX.out)
    have f3 := frozen_of_row _ (w.heap.size + 1) 3 _ _ (g1.blk HRX.out)
    have f4 := frozen_of_row _ (w.heap.size + 1) 4 _ _ (g1.blk HRX.out)
    go_wp2_with fail
    refine bodyPost_ret (v := .tuple #[.agg #[.int .i64 0, .int .i64 0, .int .i64 0, .slice none 0 0, .slice none 0 0], .int .i64 0, .int .i64 n]) ?_ rfl ?_
    · rw [results_cell_tmp2 (P := Tryd.prog) rfl]
      go_simp
    · refine ret_badM HE.out ?_
      repeat' (first | with_reducible exact gV.trans g1 | with_reducible refine Grow.set ?_ (by first | (simp; done) | (simp; omega)) _)
  · have HN0 := Lib.hid h0
    obtain ⟨i, q, hi1, hi2, hkq, hil, hx, hxid, hq, -⟩ := sheet_here h0
    rw [h0, hi1] at cF1
    obtain ⟨x, hxx⟩ : ∃ x, x = noteOf s id := ⟨_, rfl⟩
    rw [← hxx] at hx hxid hq
    obtain ⟨u, hu⟩ : ∃ u, u = sheetN s id k := ⟨_, rfl⟩
    rw [← hu] at hq
    have hil' : (i : Int) < s.notes.length := by omega
    have hql : q < x.sheets.length := (List.getElem?_eq_some_iff.1 hq).1
    have hql' : (q : Int) < x.sheets.length := by omega
    have HE := Lib.hid (show replaceR s id k = ⟨s, u, 0⟩ by rw [replaceR, resOf_ok h0, hu])
    subst hkq
    clear h0 hi1 hi2 hxid hxx hu
    go_wp2_with fail
    refine cF1.mono ?_
    rintro e w1 ⟨rfl, g1⟩
    clear cF1 p0 p1 p2 p3 p4 hpz
    obtain ⟨⟨p0, p1, p2, p3, p4⟩, hpz⟩ := n5 (g1.blk HBX.out)
    obtain ⟨nb, off, tv, sv, ea, hnb0, -, -, -, n3, n4w, htv, hsv⟩ := Notes.at HH.out.2 hx
    obtain ⟨sa, sc, esv⟩ := hsv.mk
    subst ea esv
    obtain ⟨sb, so, es, hsb0, m0w⟩ := hsv.at hq
    subst es
    have n4 := ((gV.trans g1).cells nb (off + i * 5 + 4) hnb0).trans n4w
    have m0 := ((gV.trans g1).cells sb (so + q) hsb0).trans m0w
    have hnb := Nat.lt_of_lt_of_le hnb0 (gV.trans g1).size
    have hsb := Nat.lt_of_lt_of_le hsb0 (gV.trans g1).size
    have ne1 : ¬ sb = w.heap.size + 1 := by omega
    have ne2 : ¬ nb = w.heap.size + 1 := by omega
    have ne3 : ¬ w.heap.size + 1 = sb := by omega
    have ne4 : ¬ w.heap.size + 1 = nb := by omega
    clear hx htv hsv hq n3 n4w m0w
    have cO1 := cO _ (gV.trans g1.drew)
    go_upto_region 4 with (fail)
    go_region_law (go_simp; go_at_call 85; refine cO1.mono ?_; rintro e w3 ⟨bv', nv', Y, rfl, ho, hmap, g3⟩; obtain ⟨ba, bc, ebv, -⟩ := ho.books.slice; obtain ⟨na, nc, env, -⟩ := ho.notes.slice; subst ebv env; have HMAP := Lib.hid hmap; have gx := Grow.trans (Grow.refl w1).drew g3; have hbox := (g1.trans gx).blk HRX.out; have hboxB := (g1.trans gx).blk HBX.out; obtain ⟨⟨b0, b1, b2, b3, b4⟩, b5⟩ := n5 hboxB; have n4' := (gx.cells nb (off + i * 5 + 4) hnb).trans n4; have hnb' := Nat.lt_of_lt_of_le hnb gx.size; have m0' := (gx.cells sb (so + q) hsb).trans m0; have hsb' := Nat.lt_of_lt_of_le hsb gx.size; have HOD := Lib.hid (show OwnD2 w.heap.size (.slice ba s.books.length bc) (.slice na Y.length nc) s.books Y w (w.heap.size + 1) w3 from ⟨(gV.trans g1).trans gx, ho.base_mono (gV.trans g1).size, _, hbox⟩); obtain ⟨⟨e0, e1, e2, e3, e4⟩, hez⟩ := n5 hbox; have f0 := frozen_of_row _ (w.heap.size + 1) 0 _ _ hbox; have f1 := frozen_of_row _ (w.heap.size + 1) 1 _ _ hbox; have f2 := frozen_of_row _ (w.heap.size + 1) 2 _ _ hbox; have f3 := frozen_of_row _ (w.heap.size + 1) 3 _ _ hbox; have f4 := frozen_of_row _ (w.heap.size + 1) 4 _ _ hbox; clear ho hmap g3 hbox hboxB gx; unfold shelfV)
    all_goals
      go_wp2_with fail
      refine bodyPost_ret (v := .tuple #[.agg #[.int .i64 s.nb, .int .i64 s.nn, .int .i64 s.ns, .slice ba s.books.length bc, .slice na Y.length nc], .int .i64 u, .int .i64 0]) ?_ rfl ?_
      · rw [results_cell_tmp2 (P := Tryd.prog) rfl]
        go_simp
      · refine ret_okM (D := w.heap.size + 1) (s := s) HE.out ?_ HMAP.out
        repeat' (first | with_reducible exact HOD.out | with_reducible refine OwnD2.drew ?_ | with_reducible refine OwnD2.set ?_ (by omega) _ _)
end Go.Proofs.YtnajccljdjllgaaDoor
set_option linter.unusedVariables false
set_option linter.unusedSimpArgs false
namespace Go.Proofs.YtnajccljdjllgaaDoor
open Go.RowKit Go.Lib
set_option maxRecDepth 100000 in
set_option maxHeartbeats 4000000 in
theorem remove_any (s : Shelf) (bv nv : Value) (id k : Int) (w : World) (h : ShelfR w s bv nv) (hz : TameS s) (hT : Tabs w) :
    Calls Tryd.prog 46 #[shelfV s bv nv, .int .i64 id, .int .i64 k] w (RetM (removeR s id k) w) := by
  have cF := fun W (g : Grow w W) => nsheet_any s bv nv id k W (h.grow g) hz (hT.below g)
  have cO := fun W (g : Grow w W) => own18_any s bv nv W (h.grow g) hz.1
  have HZ := Lib.hid hz
  have HH := Lib.hid h
  obtain ⟨a1, c1, rfl⟩ := h.1.mk
  obtain ⟨a2, c2, rfl⟩ := h.2.mk
  have HXX := Lib.hid (two_boxes2 w (shB s (.slice a1 s.books.length c1) (.slice a2 s.notes.length c2)) (shB ⟨0, 0, 0, [], []⟩ (.slice none 0 0) (.slice none 0 0)))
  clear h hz hT
  unfold shelfV at *
  go_enter Tryd.func46, Tryd.ntmps46
  go_upto_region 1 with (fail)
  generalize hV : (w.alloc (.cells #[.int .i64 s.nb, .int .i64 s.nn, .int .i64 s.ns, .slice a1 s.books.length c1, .slice a2 s.notes.length c2] 28)).alloc (.cells #[.int .i64 0, .int .i64 0, .int .i64 0, .slice none 0 0, .slice none 0 0] 28) = V
  have gV : Grow w V := by rw [← hV]; exact ((Grow.refl w).alloc _).alloc _
  have HBX : Hid (V.heap[w.heap.size]? = some (shB s (.slice a1 s.books.length c1) (.slice a2 s.notes.length c2))) := by rw [← hV]; exact Lib.hid HXX.out.1
  have HRX : Hid (V.heap[w.heap.size + 1]? = some (shB ⟨0, 0, 0, [], []⟩ (.slice none 0 0) (.slice none 0 0))) := by rw [← hV]; exact Lib.hid HXX.out.2
  obtain ⟨⟨p0, p1, p2, p3, p4⟩, hpz⟩ := n5 HBX.out
  clear hV
  have cF1 := cF V gV
  by_cases h0 : sheetE s id k = 0
  rotate_left
  · have h1 : (sheetE s id k == 0) = false := beq_eq_false_iff_ne.2 h0
    have HEE := Lib.hid (show sheetE s id k = sheetE s id k from rfl)
    have HF := Lib.hid (show shI s id k = 0 by unfold shI; rw [if_neg h0])
    have HN0 := Lib.hid h0
    have HRR := Lib.hid (show removeR s id k = bad (sheetE s id k) from resOf_no h0 _ _)
    rw [HF.out] at cF1
    generalize sheetE s id k = n at *
    clear cO
    go_wp2_with fail
    refine cF1.mono ?_
    rintro e w1 ⟨rfl, g1⟩
    clear cF1 p0 p1 p2 p3 p4 hpz h0
    have HE := Lib.hid (show removeR s id k = bad n from HRR.out)
    obtain ⟨⟨e0, e1, e2, e3, e4⟩, hez⟩ := n5 (g1.blk HRX.out)
    have f0 := frozen_of_row _ (w.heap.size + 1) 0 _ _ (g1.blk HRX.out)
    have f1 := frozen_of_row _ (w.heap.size + 1) 1 _ _ (g1.blk HRX.out)
    have f2 := frozen_of_row _ (w.heap.size + 1) 2 _ _ (g1.blk HRX.out)
    have f3 := frozen_of_row _ (w.heap.size + 1) 3 _ _ (g1.blk HRX.out)
    have f4 := frozen_of_row _ (w.heap.size + 1) 4 _ _ (g1.blk HRX.out)
    go_wp2_with fail
    refine bodyPost_ret (v := .tuple #[.agg #[.int .i64 0, .int .i64 0, .int .i64 0, .slice none 0 0, .slice none 0 0], .int .i64 0, .int .i64 n]) ?_ rfl ?_
    · rw [results_cell_tmp2 (P := Tryd.prog) rfl]
      go_simp
    · refine ret_badM HE.out ?_
      repeat' (first | with_reducible exact gV.trans g1 | with_reducible refine Grow.set ?_ (by first | (simp; done) | (simp; omega)) _)
  · have HN0 := Lib.hid h0
    obtain ⟨i, q, hi1, hi2, hkq, hil, hx, hxid, hq, -⟩ := sheet_here h0
    rw [h0, hi1] at cF1
    obtain ⟨x, hxx⟩ : ∃ x, x = noteOf s id := ⟨_, rfl⟩
    rw [← hxx] at hx hxid hq
    obtain ⟨u, hu⟩ : ∃ u, u = sheetN s id k := ⟨_, rfl⟩
    rw [← hu] at hq
    have HX := Lib.hid hx
    have HXID := Lib.hid hxid
    have hil' : (i : Int) < s.notes.length := by omega
    obtain ⟨z1, z2, z3, z4⟩ := HZ.out.1.note hx
    have hql : q < x.sheets.length := (List.getElem?_eq_some_iff.1 hq).1
    have hql' : (q : Int) < x.sheets.length := by omega
    have HMY := Lib.hid (mayS_iff.1 (sheetE_zero.1 h0).1)
    have HE := Lib.hid (show removeR s id k = ⟨{ s with notes := updN id (fun n => { n with sheets := n.sheets.eraseIdx q }) s.notes }, u, 0⟩ by
      rw [removeR, resOf_ok h0, hu, show k.toNat = q by omega])
    subst hkq
    clear h0 hi1 hi2 hxid hxx hu
    go_wp2_with fail
    refine cF1.mono ?_
    rintro e w1 ⟨rfl, g1⟩
    clear cF1 p0 p1 p2 p3 p4 hpz
    obtain ⟨⟨p0, p1, p2, p3, p4⟩, hpz⟩ := n5 (g1.blk HBX.out)
    obtain ⟨nb, off, tv, sv, ea, hnb, -, -, -, n3, n4, htv, hsv⟩ := Notes.at (Notes.grow HH.out.2 (gV.trans g1)) hx
    obtain ⟨ta, tc, etv⟩ := htv.mk
    obtain ⟨sa, sc, esv⟩ := hsv.mk
    subst ea etv esv
    obtain ⟨sb, so, es, hsb, m0⟩ := hsv.at hq
    subst es
    clear hx htv hsv hq
    have cO1 := cO _ (gV.trans g1)
    go_wp2_with fail
    refine cO1.mono ?_
    rintro e w3 ⟨bv', nv', Y, rfl, ho, hmap, g3⟩
    have hs : StB w w.heap.size (w.heap.size + 1) s.nb s.nn s.ns bv' nv' s.books Y (((((w3.setCell ⟨w.heap.size, 0, none⟩ (.int .i64 s.nb)).setCell ⟨w.heap.size, 1, none⟩ (.int .i64 s.nn)).setCell ⟨w.heap.size, 2, none⟩ (.int .i64 s.ns)).setCell ⟨w.heap.size, 3, none⟩ bv').setCell ⟨w.heap.size, 4, none⟩ nv') := StB.start (s := s) (D := w.heap.size + 1) gV HBX.out HRX.out g1 g3 ho ⟨Nat.le_refl _, by omega, by omega⟩
    obtain ⟨ba, bc, ebv, -⟩ := ho.books.slice
    obtain ⟨na, nc, env, -⟩ := ho.notes.slice
    have hYl : Y.length = s.notes.length := by rw [← hmap, List.length_map]
    rw [hYl] at env
    have HMAP := Lib.hid hmap
    have HYL := Lib.hid hYl
    subst ebv env
    obtain ⟨⟨p0', p1', p2', p3', p4'⟩, hpz'⟩ := n5 ((g1.trans g3).blk HBX.out)
    have HF3 := Lib.hid (frozen_of_row w3 w.heap.size 0 _ _ ((g1.trans g3).blk HBX.out))
    have ff : ∀ j, w3.frozen? ⟨w.heap.size, j, none⟩ = false := fun j => frozen_of_row w3 w.heap.size j _ _ ((g1.trans g3).blk HBX.out)
    have ff0 := ff 0
    have ff1 := ff 1
    have ff2 := ff 2
    have ff3 := ff 3
    have ff4 := ff 4
    have HOW3 := Lib.hid ho
    have HG3 := Lib.hid (g1.trans g3)
    have hw3 : w.heap.size < w3.heap.size := hpz'
    clear cO1 cO ho hmap g3 hYl p0 p1 p2 p3 p4 ff
    unfold shelfV
    go_upto_region 6 with (fail)
    generalize ((((w3.setCell ⟨w.heap.size, 0, none⟩ (.int .i64 s.nb)).setCell ⟨w.heap.size, 1, none⟩ (.int .i64 s.nn)).setCell ⟨w.heap.size, 2, none⟩ (.int .i64 s.ns)).setCell ⟨w.heap.size, 3, none⟩ (.slice ba s.books.length bc)).setCell ⟨w.heap.size, 4, none⟩ (.slice na s.notes.length nc) = W at *
    have HS := Lib.hid hs
    obtain ⟨⟨p0, p1, p2, p3, p4⟩, hpz⟩ := hs.five
    have hb3 := hs.boxF 3
    have hb4 := hs.boxF 4
    clear hs p0' p1' p2' p3' p4' ff0 ff1 ff2 ff3 ff4 hpz'
    obtain ⟨z, hz, hzn⟩ := nv_get HMAP.out HX.out
    have HZN := Lib.hid hzn
    have HY := Lib.hid hz
    obtain ⟨b, cc, ebb, hbz, -, -, hcl⟩ := HS.out.own.note hz
    rw [HYL.out] at ebb
    injection ebb with eb1 eb2 eb3
    subst eb1 eb3
    have hrt := HS.out.own.sheets z (List.mem_of_getElem? hz)
    rw [hzn] at hrt
    obtain ⟨tb, tcc, ezt, -⟩ := hrt.slice
    rw [ezt] at hrt
    have HEZ := Lib.hid ezt
    have cD := delInt_any w.heap.size _ x.sheets q W hrt hql z3
    obtain ⟨q3, qf3⟩ := hcl 4 _ rfl
    rw [ezt] at q3
    clear hcl hz hzn ezt hrt
    go_wp2_with fail
    refine cD.mono ?_
    rintro e w5 ⟨v5, rfl, hr, hg, hbk⟩
    obtain ⟨va, vc, e5, -⟩ := hr.slice
    subst e5
    obtain ⟨k3, f3, z5, hs4⟩ := HS.out.resheet HY.out hr (by rw [HEZ.out]; exact hg) (fun q hq => .inl (by rw [HEZ.out, ← hbk]; exact hq)) (by rw [HYL.out])
    rw [HEZ.out] at k3
    obtain ⟨m, hm⟩ : ∃ m, m = (x.sheets.eraseIdx q).length := ⟨_, rfl⟩
    rw [← hm] at hs4
    have HS5 := Lib.hid hs4
    rw [← hm]
    have HMQ := Lib.hid (map_setN HMY.out.ninc HMAP.out HY.out (z := ⟨{ z.n with sheets := x.sheets.eraseIdx q }, z.tv, .slice va m vc⟩) (fun n => { n with sheets := n.sheets.eraseIdx q }) (by simp only [HZN.out]) (show z.n.id = id by rw [HZN.out]; exact HXID.out))
    clear cD hr hg hbk hs4 p0 p1 p2 p3 p4 hpz hb3 hb4 q3 qf3 hm
    go_upto_region 8 with (fail)
    generalize w5.setCell ⟨b, i * 5 + 4, none⟩ (.slice va m vc) = W4 at *
    clear k3 f3 z5 HS
    obtain ⟨⟨p0, p1, p2, p3, p4⟩, hpz⟩ := HS5.out.five
    obtain ⟨⟨e0, e1, e2, e3, e4⟩, hez⟩ := HS5.out.res5
    have f0 := HS5.out.resF 0
    have f1 := HS5.out.resF 1
    have f2 := HS5.out.resF 2
    have f3 := HS5.out.resF 3
    have f4 := HS5.out.resF 4
    have HOD := Lib.hid HS5.out.fin
    go_wp2_with fail
    refine bodyPost_ret (v := .tuple #[.agg #[.int .i64 s.nb, .int .i64 s.nn, .int .i64 s.ns, .slice ba s.books.length bc, .slice (some ⟨b, 0, none⟩) s.notes.length nc], .int .i64 (u), .int .i64 0]) ?_ rfl ?_
    · rw [results_cell_tmp2 (P := Tryd.prog) rfl]
      go_simp
    · refine ret_okM (D := w.heap.size + 1) (s := { s with notes := updN id (fun n => { n with sheets := n.sheets.eraseIdx q }) s.notes }) HE.out ?_ HMQ.out
      repeat' (first | with_reducible exact HOD.out | with_reducible refine OwnD2.drew ?_ | with_reducible refine OwnD2.set ?_ (by omega) _ _)
end Go.Proofs.YtnajccljdjllgaaDoor
