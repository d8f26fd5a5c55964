/- note.Untag. -/
import Derived.Test.YtieohecgoaakmaaDoorNBase
import Derived.Test.YtieohecgoaakmaaDoorGr
set_option linter.unusedVariables false
set_option linter.unusedSimpArgs false
namespace Go.Proofs.YtieohecgoaakmaaDoor
open Go.RowKit Go.Lib
set_option maxRecDepth 100000 in
set_option maxHeartbeats 4000000 in
theorem untag_any (s : Shelf) (bv nv : Value) (id : Int) (t : ByteArray) (w : World) (h : ShelfR w s bv nv) (hz : TameS s) (ht : t.size ≤ 1000000000) (hT : Tabs w) :
    Calls Tryd.prog 28 #[shelfV s bv nv, .int .i64 id, .string t] w (RetC (untagR s id t) w) := by
  have cF := fun W (g : Grow w W) => nfind_any s bv nv id W (h.grow g) hz (hT.below g)
  have cO := fun W (g : Grow w W) => own18_any s bv nv W (h.grow g) hz.1
  have cC := fun v (l : List ByteArray) W (hl : l.length ≤ 1000000) (hv : Texts W v l) => hasText_any v l t W hv hl
  have HZ := Lib.hid hz
  have HH := Lib.hid h
  obtain ⟨a1, c1, rfl⟩ := h.1.mk
  obtain ⟨a2, c2, rfl⟩ := h.2.mk
  have HXX := Lib.hid (three_boxes w (shB s (.slice a1 s.books.length c1) (.slice a2 s.notes.length c2)) (.cells #[.string t] 9) (shB ⟨0, 0, 0, [], []⟩ (.slice none 0 0) (.slice none 0 0)))
  clear h hz hT
  unfold shelfV at *
  go_enter Tryd.func28, Tryd.ntmps28
  go_upto_region 1 with (fail)
  generalize hV : ((w.alloc (.cells #[.int .i64 s.nb, .int .i64 s.nn, .int .i64 s.ns, .slice a1 s.books.length c1, .slice a2 s.notes.length c2] 25)).alloc (.cells #[.string t] 9)).alloc (.cells #[.int .i64 0, .int .i64 0, .int .i64 0, .slice none 0 0, .slice none 0 0] 25) = V
  have gV : Grow w V := by rw [← hV]; exact (((Grow.refl w).alloc _).alloc _).alloc _
  have HBX : Hid (V.heap[w.heap.size]? = some (shB s (.slice a1 s.books.length c1) (.slice a2 s.notes.length c2))) := by rw [← hV]; exact Lib.hid HXX.out.1
  have HB1 : Hid (V.heap[w.heap.size + 1]? = some (.cells #[.string t] 9)) := by rw [← hV]; exact Lib.hid HXX.out.2.1
  have HRX : Hid (V.heap[w.heap.size + 1 + 1]? = some (shB ⟨0, 0, 0, [], []⟩ (.slice none 0 0) (.slice none 0 0))) := by rw [← hV]; exact Lib.hid HXX.out.2.2
  obtain ⟨⟨p0, p1, p2, p3, p4⟩, hpz⟩ := n5 HBX.out
  clear hV
  have cF1 := cF V gV
  rcases noteE_cases s id with h0 | ⟨h0, h1⟩
  rotate_left
  · have HEE := Lib.hid (show untagE s id t = noteE s id from untagE_of h0 t)
    have HF := Lib.hid (show nfI s id = 0 by unfold nfI; rw [if_neg h0])
    have HN0 := Lib.hid h0
    rw [HF.out] at cF1
    generalize noteE s id = n at *
    clear cO
    go_wp2_with fail
    refine cF1.mono ?_
    rintro e w1 ⟨rfl, g1⟩
    clear cF1 p0 p1 p2 p3 p4 hpz h0
    have HE := Lib.hid (show untagR s id t = bad n from res_bad HEE.out HN0.out _ _)
    obtain ⟨⟨e0, e1, e2, e3, e4⟩, hez⟩ := n5 (g1.blk HRX.out)
    have f0 := frozen_of_row _ (w.heap.size + 1 + 1) 0 _ _ (g1.blk HRX.out)
    have f1 := frozen_of_row _ (w.heap.size + 1 + 1) 1 _ _ (g1.blk HRX.out)
    have f2 := frozen_of_row _ (w.heap.size + 1 + 1) 2 _ _ (g1.blk HRX.out)
    have f3 := frozen_of_row _ (w.heap.size + 1 + 1) 3 _ _ (g1.blk HRX.out)
    have f4 := frozen_of_row _ (w.heap.size + 1 + 1) 4 _ _ (g1.blk HRX.out)
    go_wp2_with fail
    refine bodyPost_ret (v := .tuple #[.agg #[.int .i64 0, .int .i64 0, .int .i64 0, .slice none 0 0, .slice none 0 0], .int .i64 n]) ?_ rfl ?_
    · rw [results_cell_tmp rfl]
      go_simp
    · refine ret_badC HE.out ?_
      repeat' (first | with_reducible exact gV.trans g1 | with_reducible refine Grow.set ?_ (by first | (simp; done) | (simp; omega)) _)
  · have HN0 := Lib.hid h0
    obtain ⟨i, hi1, hi2, hil, hx, hxid⟩ := note_here h0
    rw [h0, hi1] at cF1
    have HII := Lib.hid hi2
    obtain ⟨x, hxx⟩ : ∃ x, x = noteOf s id := ⟨_, rfl⟩
    rw [← hxx] at hx hxid
    have HXN := Lib.hid hxx
    have HX := Lib.hid hx
    have HXID := Lib.hid hxid
    have hil' : (i : Int) < s.notes.length := by omega
    obtain ⟨z1, z2, z3, z4⟩ := HZ.out.1.note hx
    clear h0 hi1 hi2 hxid hxx
    go_wp2_with fail
    refine cF1.mono ?_
    rintro e w1 ⟨rfl, g1⟩
    clear cF1 p0 p1 p2 p3 p4 hpz
    obtain ⟨⟨p0, p1, p2, p3, p4⟩, hpz⟩ := n5 (g1.blk HBX.out)
    obtain ⟨nb, off, tv, sv, ea, hnb, -, -, -, n3, n4, htv, hsv⟩ := Notes.at (Notes.grow HH.out.2 (gV.trans g1)) hx
    obtain ⟨ta, tc, etv⟩ := htv.mk
    obtain ⟨sa, sc, esv⟩ := hsv.mk
    subst ea etv esv
    have HTV := Lib.hid htv
    have HSV := Lib.hid hsv
    have HN3 := Lib.hid n3
    have HN4 := Lib.hid n4
    have HNB := Lib.hid hnb
    clear hx htv hsv
    have cC1 := fun y : Gr w1 => cC (.slice ta x.tags.length tc) x.tags y.W z2 (HTV.out.grow y.g)
    have ib1 : w1.cell? ⟨w.heap.size + 1, 0, none⟩ = some (.string t) := (cell_of_row w1 _ 0 _ _ _ (g1.blk HB1.out)).trans rfl
    have ibz : w.heap.size + 1 < w1.heap.size := (Array.getElem?_eq_some_iff.1 (g1.blk HB1.out)).1
    go_upto_region 4 with (fail)
    refine wp_region_gr (by kernel_rfl) (by kernel_rfl) ?_
    repeat (go_big_quiet_step (first | (go_at_call 55; exact Calls.gr_same ((cC1 _).mono fun _ _ h => ⟨h.1, h.2.symm⟩))))
    refine wpQuiet_nil ?_
    rintro _ ⟨y, rfl⟩
    have gy := g1.trans y.g
    generalize y.W = wy at *
    clear cC cC1 p0 p1 p2 p3 p4 hpz n3 n4 hnb ib1 ibz y
    obtain ⟨⟨p0, p1, p2, p3, p4⟩, hpz⟩ := n5 (gy.blk HBX.out)
    cases hh : hasT t x.tags with
    | false =>
      have HHT := Lib.hid (show hasT t (noteOf s id).tags = false by rw [← HXN.out]; exact hh)
      clear hh cO
      have HE := Lib.hid (show untagR s id t = bad 4 from res_bad (by unfold untagE; rw [if_neg (by rw [(noteE_zero.1 HN0.out).1]; simp), if_neg (by have := (noteE_zero.1 HN0.out).2; omega), if_pos HHT.out]) (by decide) _ _)
      obtain ⟨⟨e0, e1, e2, e3, e4⟩, hez⟩ := n5 (gy.blk HRX.out)
      have f0 := frozen_of_row _ (w.heap.size + 1 + 1) 0 _ _ (gy.blk HRX.out)
      have f1 := frozen_of_row _ (w.heap.size + 1 + 1) 1 _ _ (gy.blk HRX.out)
      have f2 := frozen_of_row _ (w.heap.size + 1 + 1) 2 _ _ (gy.blk HRX.out)
      have f3 := frozen_of_row _ (w.heap.size + 1 + 1) 3 _ _ (gy.blk HRX.out)
      have f4 := frozen_of_row _ (w.heap.size + 1 + 1) 4 _ _ (gy.blk HRX.out)
      go_wp2_with fail
      refine bodyPost_ret (v := .tuple #[.agg #[.int .i64 0, .int .i64 0, .int .i64 0, .slice none 0 0, .slice none 0 0], .int .i64 4]) ?_ rfl ?_
      · rw [results_cell_tmp rfl]
        go_simp
      · refine ret_badC HE.out ?_
        repeat' (first | with_reducible exact gV.trans gy | with_reducible refine Grow.set ?_ (by first | (simp; done) | (simp; omega)) _)
    | true =>
      have hez : untagE s id t = 0 := untagE_zero.2 ⟨(noteE_zero.1 HN0.out).1, (noteE_zero.1 HN0.out).2, by rw [← HXN.out]; exact hh⟩
      have HMY := Lib.hid (mayS_iff.1 (noteE_zero.1 HN0.out).1)
      have HE := Lib.hid (show untagR s id t = ⟨{ s with notes := updN id (fun n => { n with tags := n.tags.filter (fun x => !(x.toList == t.toList)) }) s.notes }, 0, 0⟩ from resOf_ok hez _ _)
      clear hez hh
      have cO1 := cO _ (gV.trans gy)
      go_wp2_with fail
      refine cO1.mono ?_
      rintro e w3 ⟨bv', nv', Y, rfl, ho, hmap, g3⟩
      have hs : StB w w.heap.size (w.heap.size + 1 + 1) s.nb s.nn s.ns bv' nv' s.books Y (((((w3.setCell ⟨w.heap.size, 0, none⟩ (.int .i64 s.nb)).setCell ⟨w.heap.size, 1, none⟩ (.int .i64 s.nn)).setCell ⟨w.heap.size, 2, none⟩ (.int .i64 s.ns)).setCell ⟨w.heap.size, 3, none⟩ bv').setCell ⟨w.heap.size, 4, none⟩ nv') := StB.start (s := s) (D := w.heap.size + 1 + 1) gV HBX.out HRX.out gy g3 ho ⟨Nat.le_refl _, by omega, by omega⟩
      have hI1 : (((((w3.setCell ⟨w.heap.size, 0, none⟩ (.int .i64 s.nb)).setCell ⟨w.heap.size, 1, none⟩ (.int .i64 s.nn)).setCell ⟨w.heap.size, 2, none⟩ (.int .i64 s.ns)).setCell ⟨w.heap.size, 3, none⟩ bv').setCell ⟨w.heap.size, 4, none⟩ nv').heap[w.heap.size + 1]? = some (.cells #[.string t] 9) := set5_other _ _ _ _ _ (by omega) ((gy.trans g3).blk HB1.out)
      obtain ⟨ba, bc, ebv, -⟩ := ho.books.slice
      obtain ⟨na, nc, env, -⟩ := ho.notes.slice
      have hYl : Y.length = s.notes.length := by rw [← hmap, List.length_map]
      rw [hYl] at env
      have HMAP := Lib.hid hmap
      have HYL := Lib.hid hYl
      subst ebv env
      obtain ⟨⟨p0', p1', p2', p3', p4'⟩, hpz'⟩ := n5 ((gy.trans g3).blk HBX.out)
      have HF3 := Lib.hid (frozen_of_row w3 w.heap.size 0 _ _ ((gy.trans g3).blk HBX.out))
      have ff : ∀ j, w3.frozen? ⟨w.heap.size, j, none⟩ = false := fun j => frozen_of_row w3 w.heap.size j _ _ ((gy.trans g3).blk HBX.out)
      have ff0 := ff 0
      have ff1 := ff 1
      have ff2 := ff 2
      have ff3 := ff 3
      have ff4 := ff 4
      have HOW3 := Lib.hid ho
      have HG3 := Lib.hid (gy.trans g3)
      have hw3 : w.heap.size < w3.heap.size := hpz'
      clear cO1 cO ho hmap g3 hYl p0 p1 p2 p3 p4 ff
      unfold shelfV
      go_upto_region 7 with (fail)
      generalize ((((w3.setCell ⟨w.heap.size, 0, none⟩ (.int .i64 s.nb)).setCell ⟨w.heap.size, 1, none⟩ (.int .i64 s.nn)).setCell ⟨w.heap.size, 2, none⟩ (.int .i64 s.ns)).setCell ⟨w.heap.size, 3, none⟩ (.slice ba s.books.length bc)).setCell ⟨w.heap.size, 4, none⟩ (.slice na s.notes.length nc) = W at *
      have HS := Lib.hid hs
      have HI1 := Lib.hid hI1
      clear hI1
      obtain ⟨⟨p0, p1, p2, p3, p4⟩, hpz⟩ := hs.five
      have hb3 := hs.boxF 3
      have hb4 := hs.boxF 4
      clear hs p0' p1' p2' p3' p4' ff0 ff1 ff2 ff3 ff4 hpz'
      obtain ⟨z, hz, hzn⟩ := nv_get HMAP.out HX.out
      have HZN := Lib.hid hzn
      have HY := Lib.hid hz
      obtain ⟨b, cc, ebb, hbz, -, -, hcl⟩ := HS.out.own.note hz
      rw [HYL.out] at ebb
      injection ebb with eb1 eb2 eb3
      subst eb1 eb3
      have hrt := HS.out.own.tags z (List.mem_of_getElem? hz)
      rw [hzn] at hrt
      obtain ⟨tb, tcc, ezt, -⟩ := hrt.slice
      rw [ezt] at hrt
      have HEZ := Lib.hid ezt
      have hne : some (w.heap.size + 1) ≠ blkOf (.slice tb x.tags.length tcc) := fun e => by
        have h1 := ((HOW3.out.tags z (List.mem_of_getElem? hz)).blk (g := w.heap.size + 1) (by rw [ezt]; exact e.symm)).1
        have h2 := (Array.getElem?_eq_some_iff.1 (gy.blk HB1.out)).1
        omega
      have cD := untagD hrt z2 HS.out.grow.size HI1.out hne
      obtain ⟨q3, qf3⟩ := hcl 3 _ rfl
      rw [ezt] at q3
      clear hcl hz hzn ezt hrt hne
      go_wp2_with fail
      refine cD.mono ?_
      rintro e w5 ⟨v5, rfl, hr, hg, hbk⟩
      obtain ⟨va, vc, e5, -⟩ := hr.slice
      subst e5
      obtain ⟨k3, f3, z5, hs4⟩ := HS.out.retag HY.out hr (by rw [HEZ.out]; exact hg) (fun q hq => .inl (by rw [HEZ.out, ← hbk]; exact hq)) (by rw [HYL.out])
      rw [HEZ.out] at k3
      have HS4 := Lib.hid hs4
      have HMQ := Lib.hid (map_setN HMY.out.ninc HMAP.out HY.out (z := ⟨{ z.n with tags := x.tags.filter (fun x => !(x.toList == t.toList)) }, .slice va (x.tags.filter (fun x => !(x.toList == t.toList))).length vc, z.sv⟩) (fun n => { n with tags := n.tags.filter (fun x => !(x.toList == t.toList)) }) (by simp only [HZN.out]) (show z.n.id = id by rw [HZN.out]; exact HXID.out))
      clear cD hr hg hbk hs4 p0 p1 p2 p3 p4 hpz hb3 hb4 q3 qf3
      go_upto_region 9 with (fail)
      generalize w5.setCell ⟨b, i * 5 + 3, none⟩ (.slice va (x.tags.filter (fun x => !(x.toList == t.toList))).length vc) = W4 at *
      clear k3 f3 z5 HS
      obtain ⟨⟨p0, p1, p2, p3, p4⟩, hpz⟩ := HS4.out.five
      obtain ⟨⟨e0, e1, e2, e3, e4⟩, hez⟩ := HS4.out.res5
      have f0 := HS4.out.resF 0
      have f1 := HS4.out.resF 1
      have f2 := HS4.out.resF 2
      have f3 := HS4.out.resF 3
      have f4 := HS4.out.resF 4
      have HOD := Lib.hid HS4.out.fin
      go_wp2_with fail
      refine bodyPost_ret (v := .tuple #[.agg #[.int .i64 s.nb, .int .i64 s.nn, .int .i64 s.ns, .slice ba s.books.length bc, .slice (some ⟨b, 0, none⟩) s.notes.length nc], .int .i64 0]) ?_ rfl ?_
      · rw [results_cell_tmp rfl]
        go_simp
      · refine ret_okC (D := w.heap.size + 1 + 1) (s := { s with notes := updN id (fun n => { n with tags := n.tags.filter (fun x => !(x.toList == t.toList)) }) s.notes }) HE.out ?_ HMQ.out
        repeat' (first | with_reducible exact HOD.out | with_reducible refine OwnD2.drew ?_ | with_reducible refine OwnD2.set ?_ (by omega) _ _)
end Go.Proofs.YtieohecgoaakmaaDoor
