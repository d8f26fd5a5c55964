/- shelf.Retitle. shelf.Move. shelf.Discard. The walk of jotterref3.rune1, at a byte that leads. The walk of jotterref3.rune1, whole. The walks of jotterref3.Runes, jotterref3.May, name.Runes. The walks of chapter 17's own answer: Book, tags. The walk of jotterref17.books. The walk of jotterref17.notes. A cell of a block that is kept; lengths of flattened lists. -/
import Derived.Test.YtnajccljdjllgaaGreatDoorJShelfTellsd
import Derived.Test.YtnajccljdjllgaaGreatDoorJShelfTellsc
import Derived.Test.YtnajccljdjllgaaGreatDoorJShelfTellsa
import Derived.Test.YtnajccljdjllgaaGreatDoorJShelfTellsb
set_option linter.unusedVariables false
set_option linter.unusedSimpArgs false
namespace Go.Proofs.YtnajccljdjllgaaGreatDoor
open Go.RowKit Go.Lib
set_option maxRecDepth 100000 in
set_option maxHeartbeats 4000000 in
theorem retitle_any (s : Shelf) (bv nv : Value) (id : Int) (t : ByteArray) (w : World) (h : ShelfR w s bv nv) (hz : TameS s) (ht : t.size ≤ 1000000000) (hT : Tabs w) :
    Calls Tryz.prog 35 #[shelfV s bv nv, .int .i64 id, .string t] w (RetC (retitleR s id t) w) := by
  have cM := fun W (g : Grow w W) => mayS_any s bv nv W (h.grow g) hz (hT.below g)
  have cN := fun W (g : Grow w W) => may_any t W ht (hT.below g)
  have cO := fun W (g : Grow w W) => own_any s bv nv W (h.grow g) hz.1
  have cK : ∀ W, Grow w W → Calls Tryz.prog 54 #[shelfV s bv nv, .int .i64 id] W fun e w' => e = .returned (.int .i64 (noteIx s id)) ∧ Grow W w' := fun W g => note_any s bv nv id W (h.grow g) (by have := hz.1.2.1; omega)
  have cT := fun q W (g : Grow w W) => titled_any s bv nv q t id W (h.grow g) (by have := hz.1.2.1; omega)
  have HH := Lib.hid h
  have hbl := hz.1.1
  have hnl := hz.1.2.1
  have hbd := idx_bd (fun x : Book => x.id == id) s.books
  have hnd := idx_bd (fun x : Note => x.id == id) s.notes
  rw [show idx (fun x : Book => x.id == id) s.books = bookIx s id from rfl] at hbd
  rw [show idx (fun x : Note => x.id == id) s.notes = noteIx s id from rfl] at hnd
  obtain ⟨a1, c1, rfl⟩ := h.1.mk
  obtain ⟨a2, c2, rfl⟩ := h.2.mk
  have HXX := Lib.hid (two_boxes2 w (shB s (.slice a1 s.books.length c1) (.slice a2 s.notes.length c2)) (shB ⟨0, 0, 0, [], []⟩ (.slice none 0 0) (.slice none 0 0)))
  clear h hz hT
  unfold shelfV at *
  go_enter Tryz.func35, Tryz.ntmps35
  go_upto_region 1 with (fail)
  generalize hV : (w.alloc (.cells #[.int .i64 s.nb, .int .i64 s.nn, .int .i64 s.ns, .slice a1 s.books.length c1, .slice a2 s.notes.length c2] 25)).alloc (.cells #[.int .i64 0, .int .i64 0, .int .i64 0, .slice none 0 0, .slice none 0 0] 25) = V
  have gV : Grow w V := by rw [← hV]; exact ((Grow.refl w).alloc _).alloc _
  have HBX : Hid (V.heap[w.heap.size]? = some (shB s (.slice a1 s.books.length c1) (.slice a2 s.notes.length c2))) := by rw [← hV]; exact Lib.hid HXX.out.1
  have HRX : Hid (V.heap[w.heap.size + 1]? = some (shB ⟨0, 0, 0, [], []⟩ (.slice none 0 0) (.slice none 0 0))) := by rw [← hV]; exact Lib.hid HXX.out.2
  obtain ⟨⟨p0, p1, p2, p3, p4⟩, hpz⟩ := n5 HBX.out
  clear hV
  have cM1 := cM V gV
  cases hm : mayS s with
  | false =>
    have HM := Lib.hid hm
    rw [hm] at cM1
    clear hm cO
    go_wp2_with fail
    refine cM1.mono ?_
    rintro e w1 ⟨rfl, g1⟩
    clear cM1 p0 p1 p2 p3 p4
    have HE := Lib.hid (show retitleR s id t = bad 2 from res_bad (by unfold retitleE; rw [if_pos HM.out]) (by decide) _ _)
    obtain ⟨⟨e0, e1, e2, e3, e4⟩, hez⟩ := n5 (g1.blk HRX.out)
    have f0 := frozen_of_row _ (w.heap.size + 1) 0 _ _ (g1.blk HRX.out)
    have f1 := frozen_of_row _ (w.heap.size + 1) 1 _ _ (g1.blk HRX.out)
    have f2 := frozen_of_row _ (w.heap.size + 1) 2 _ _ (g1.blk HRX.out)
    have f3 := frozen_of_row _ (w.heap.size + 1) 3 _ _ (g1.blk HRX.out)
    have f4 := frozen_of_row _ (w.heap.size + 1) 4 _ _ (g1.blk HRX.out)
    go_wp2_with fail
    refine bodyPost_ret (v := .tuple #[.agg #[.int .i64 0, .int .i64 0, .int .i64 0, .slice none 0 0, .slice none 0 0], .int .i64 2]) ?_ rfl ?_
    · rw [results_cell_tmp rfl]
      go_simp
    · refine ret_badC HE.out ?_
      repeat' (first | with_reducible exact gV.trans g1 | with_reducible refine Grow.set ?_ (by first | (simp; done) | (simp; omega)) _)
  | true =>
    have HM := Lib.hid hm
    rw [hm] at cM1
    clear hm
    go_wp2_with fail
    refine cM1.mono ?_
    rintro e w1 ⟨rfl, g1⟩
    clear cM1 p0 p1 p2 p3 p4
    obtain ⟨⟨p0, p1, p2, p3, p4⟩, hpz⟩ := n5 (g1.blk HBX.out)
    have cK1 := cK _ (gV.trans g1)
    by_cases hi : noteIx s id < 0
    · have HI := Lib.hid hi
      clear cO cT cN
      go_wp2_with fail
      refine cK1.mono ?_
      rintro e w2 ⟨rfl, g2⟩
      have gg := g1.trans g2
      clear cK1 g2 p0 p1 p2 p3 p4 hpz
      have HE := Lib.hid (show retitleR s id t = bad 4 from res_bad (by unfold retitleE; rw [if_neg (by rw [HM.out]; simp), if_pos HI.out]) (by decide) _ _)
      obtain ⟨⟨e0, e1, e2, e3, e4⟩, hez⟩ := n5 (gg.blk HRX.out)
      have f0 := frozen_of_row _ (w.heap.size + 1) 0 _ _ (gg.blk HRX.out)
      have f1 := frozen_of_row _ (w.heap.size + 1) 1 _ _ (gg.blk HRX.out)
      have f2 := frozen_of_row _ (w.heap.size + 1) 2 _ _ (gg.blk HRX.out)
      have f3 := frozen_of_row _ (w.heap.size + 1) 3 _ _ (gg.blk HRX.out)
      have f4 := frozen_of_row _ (w.heap.size + 1) 4 _ _ (gg.blk HRX.out)
      go_wp2_with fail
      refine bodyPost_ret (v := .tuple #[.agg #[.int .i64 0, .int .i64 0, .int .i64 0, .slice none 0 0, .slice none 0 0], .int .i64 4]) ?_ rfl ?_
      · rw [results_cell_tmp rfl]
        go_simp
      · refine ret_badC HE.out ?_
        repeat' (first | with_reducible exact gV.trans gg | with_reducible refine Grow.set ?_ (by first | (simp; done) | (simp; omega)) _)
    · have HI := Lib.hid hi
      obtain ⟨i, hii⟩ : ∃ i : Nat, noteIx s id = i := ⟨(noteIx s id).toNat, by omega⟩
      have HII := Lib.hid hii
      have HNO := Lib.hid (noteOf_get (s := s) (id := id) (by omega))
      rw [hii] at cK1 hi hnd
      have hil : (i : Int) < s.notes.length := by omega
      have hil2 : i < s.notes.length := by omega
      clear hii hnd
      go_wp2_with fail
      refine cK1.mono ?_
      rintro e w2 ⟨rfl, g2⟩
      have gg := g1.trans g2
      clear cK1 g2 p0 p1 p2 p3 p4 hpz
      obtain ⟨⟨p0, p1, p2, p3, p4⟩, hpz⟩ := n5 (gg.blk HBX.out)
      have cN1 := cN _ (gV.trans gg)
      cases hn : mayB t with
      | false =>
        have HN := Lib.hid hn
        rw [hn] at cN1
        clear hn cO
        go_wp2_with fail
        refine cN1.mono ?_
        rintro e wq ⟨rfl, g2⟩
        have gh := gg.trans g2
        clear cN1 p0 p1 p2 p3 p4
        have HE := Lib.hid (show retitleR s id t = bad 6 from res_bad (by unfold retitleE; rw [if_neg (by rw [HM.out]; simp), if_neg (by have := HI.out; omega), if_pos HN.out]) (by decide) _ _)
        obtain ⟨⟨e0, e1, e2, e3, e4⟩, hez⟩ := n5 (gh.blk HRX.out)
        have f0 := frozen_of_row _ (w.heap.size + 1) 0 _ _ (gh.blk HRX.out)
        have f1 := frozen_of_row _ (w.heap.size + 1) 1 _ _ (gh.blk HRX.out)
        have f2 := frozen_of_row _ (w.heap.size + 1) 2 _ _ (gh.blk HRX.out)
        have f3 := frozen_of_row _ (w.heap.size + 1) 3 _ _ (gh.blk HRX.out)
        have f4 := frozen_of_row _ (w.heap.size + 1) 4 _ _ (gh.blk HRX.out)
        go_wp2_with fail
        refine bodyPost_ret (v := .tuple #[.agg #[.int .i64 0, .int .i64 0, .int .i64 0, .slice none 0 0, .slice none 0 0], .int .i64 6]) ?_ rfl ?_
        · rw [results_cell_tmp rfl]
          go_simp
        · refine ret_badC HE.out ?_
          repeat' (first | with_reducible exact gV.trans gh | with_reducible refine Grow.set ?_ (by first | (simp; done) | (simp; omega)) _)
      | true =>
        have HN := Lib.hid hn
        rw [hn] at cN1
        clear hn
        go_wp2_with fail
        refine cN1.mono ?_
        rintro e wq ⟨rfl, g2⟩
        have gh := gg.trans g2
        clear cN1 g2 p0 p1 p2 p3 p4
        obtain ⟨⟨p0, p1, p2, p3, p4⟩, hpz⟩ := n5 (gh.blk HBX.out)
        obtain ⟨x, hx⟩ : ∃ x, x = noteOf s id := ⟨_, rfl⟩
        have hxi : s.notes[i]? = some x := by
          have h9 := HNO.out.1
          rw [HII.out, Int.toNat_natCast] at h9
          rw [hx]; exact h9
        obtain ⟨nb, off, tv, sv, ea, hnb, -, n1, -, -, -, -, -⟩ := Notes.at (Notes.grow HH.out.2 (gV.trans gh)) hxi
        have hxid : x.id = id := by rw [hx]; exact HNO.out.2
        have HXI := Lib.hid hxi
        have HXID := Lib.hid hxid
        have HX := Lib.hid hx
        have kT := fun y : Gr wq => cT x.book y.W ((gV.trans gh).trans y.g)
        clear hx hxi hxid cT
        subst ea
        go_upto_region 8 with (fail)
        refine wp_region_gr (by kernel_rfl) (by kernel_rfl) ?_
        repeat (go_big_quiet_step (first | (go_at_call 65; exact Calls.gr (kT _))))
        refine wpQuiet_nil ?_
        rintro _ ⟨y, rfl⟩
        have gy := gh.trans y.g
        generalize y.W = wy at *
        clear kT p0 p1 p2 p3 p4 hpz n1 hnb y
        obtain ⟨⟨p0, p1, p2, p3, p4⟩, hpz⟩ := n5 (gy.blk HBX.out)
        cases htt : s.notes.any (titleB x.book t id) with
        | true =>
          have HTT := Lib.hid (show s.notes.any (titleB (noteOf s id).book t id) = true by rw [← HX.out]; exact htt)
          clear cO htt
          have HE := Lib.hid (show retitleR s id t = bad 7 from res_bad (by unfold retitleE; rw [if_neg (by rw [HM.out]; simp), if_neg (by have := HI.out; omega), if_neg (by rw [HN.out]; simp), if_pos HTT.out]) (by decide) _ _)
          obtain ⟨⟨e0, e1, e2, e3, e4⟩, hez⟩ := n5 (gy.blk HRX.out)
          have f0 := frozen_of_row _ (w.heap.size + 1) 0 _ _ (gy.blk HRX.out)
          have f1 := frozen_of_row _ (w.heap.size + 1) 1 _ _ (gy.blk HRX.out)
          have f2 := frozen_of_row _ (w.heap.size + 1) 2 _ _ (gy.blk HRX.out)
          have f3 := frozen_of_row _ (w.heap.size + 1) 3 _ _ (gy.blk HRX.out)
          have f4 := frozen_of_row _ (w.heap.size + 1) 4 _ _ (gy.blk HRX.out)
          go_wp2_with fail
          refine bodyPost_ret (v := .tuple #[.agg #[.int .i64 0, .int .i64 0, .int .i64 0, .slice none 0 0, .slice none 0 0], .int .i64 7]) ?_ rfl ?_
          · rw [results_cell_tmp rfl]
            go_simp
          · refine ret_badC HE.out ?_
            repeat' (first | with_reducible exact gV.trans gy | with_reducible refine Grow.set ?_ (by first | (simp; done) | (simp; omega)) _)
        | false =>
          have hez : retitleE s id t = 0 := retitleE_zero.2 ⟨HM.out, by have := HI.out; omega, HN.out, by rw [← HX.out]; exact htt⟩
          have HMY := Lib.hid (mayS_iff.1 HM.out)
          have HE := Lib.hid (show retitleR s id t = ⟨{ s with notes := updN id (fun n => { n with name := t }) s.notes }, 0, 0⟩ from resOf_ok hez _ _)
          clear htt hez
          have cO1 := cO _ (gV.trans gy)
          go_wp2_with fail
          refine cO1.mono ?_
          rintro e w3 ⟨bv', nv', Y, rfl, ho, hmap, g3⟩
          have hs : StB w w.heap.size (w.heap.size + 1) s.nb s.nn s.ns bv' nv' s.books Y (((((w3.setCell ⟨w.heap.size, 0, none⟩ (.int .i64 s.nb)).setCell ⟨w.heap.size, 1, none⟩ (.int .i64 s.nn)).setCell ⟨w.heap.size, 2, none⟩ (.int .i64 s.ns)).setCell ⟨w.heap.size, 3, none⟩ bv').setCell ⟨w.heap.size, 4, none⟩ nv') := StB.start (s := s) (D := w.heap.size + 1) gV HBX.out HRX.out gy g3 ho ⟨Nat.le_refl _, by omega, by omega⟩
          obtain ⟨ba, bc, ebv, -⟩ := ho.books.slice
          obtain ⟨na, nc, env, -⟩ := ho.notes.slice
          have hYl : Y.length = s.notes.length := by rw [← hmap, List.length_map]
          rw [hYl] at env
          have HMAP := Lib.hid hmap
          have HYL := Lib.hid hYl
          subst ebv env
          obtain ⟨⟨p0', p1', p2', p3', p4'⟩, hpz'⟩ := n5 ((gy.trans g3).blk HBX.out)
          have HF3 := Lib.hid (frozen_of_row w3 w.heap.size 0 _ _ ((gy.trans g3).blk HBX.out))
          have ff : ∀ j, w3.frozen? ⟨w.heap.size, j, none⟩ = false := fun j => frozen_of_row w3 w.heap.size j _ _ ((gy.trans g3).blk HBX.out)
          have ff0 := ff 0
          have ff1 := ff 1
          have ff2 := ff 2
          have ff3 := ff 3
          have ff4 := ff 4
          have HOW3 := Lib.hid ho
          have HG3 := Lib.hid (gy.trans g3)
          have hw3 : w.heap.size < w3.heap.size := hpz'
          clear cO1 cO ho hmap g3 hYl p0 p1 p2 p3 p4 ff
          unfold shelfV
          go_upto_region 11 with (fail)
          generalize ((((w3.setCell ⟨w.heap.size, 0, none⟩ (.int .i64 s.nb)).setCell ⟨w.heap.size, 1, none⟩ (.int .i64 s.nn)).setCell ⟨w.heap.size, 2, none⟩ (.int .i64 s.ns)).setCell ⟨w.heap.size, 3, none⟩ (.slice ba s.books.length bc)).setCell ⟨w.heap.size, 4, none⟩ (.slice na s.notes.length nc) = W at *
          have HS := Lib.hid hs
          obtain ⟨⟨p0, p1, p2, p3, p4⟩, hpz⟩ := hs.five
          have hb3 := hs.boxF 3
          have hb4 := hs.boxF 4
          clear hs p0' p1' p2' p3' p4' ff0 ff1 ff2 ff3 ff4 hpz'
          obtain ⟨z, hz, hzn⟩ := nv_get HMAP.out HXI.out
          obtain ⟨b, cc, ebb, hbz, -, -, hcl⟩ := HS.out.own.note hz
          rw [HYL.out] at ebb
          injection ebb with eb1 eb2 eb3
          subst eb1 eb3
          have q1 := (hcl 2 _ rfl).1
          have qf := (hcl 2 _ rfl).2
          have HS2 := Lib.hid (HS.out.setN hz t (by rw [HYL.out]))
          have HMQ := Lib.hid (map_setN HMY.out.ninc HMAP.out hz (z := { z with n := { z.n with name := t } }) (fun n => { n with name := t }) rfl (show z.n.id = id by rw [hzn]; exact HXID.out))
          clear hcl hz hzn
          go_upto_region 12 with (fail)
          generalize W.setCell ⟨b, i * 5 + 2, none⟩ (.string t) = W2 at *
          clear p0 p1 p2 p3 p4 hpz hb3 hb4 HS q1 qf
          obtain ⟨⟨p0, p1, p2, p3, p4⟩, hpz⟩ := HS2.out.five
          obtain ⟨⟨e0, e1, e2, e3, e4⟩, hez⟩ := HS2.out.res5
          have f0 := HS2.out.resF 0
          have f1 := HS2.out.resF 1
          have f2 := HS2.out.resF 2
          have f3 := HS2.out.resF 3
          have f4 := HS2.out.resF 4
          have HOD := Lib.hid HS2.out.fin
          go_wp2_with fail
          refine bodyPost_ret (v := .tuple #[.agg #[.int .i64 s.nb, .int .i64 s.nn, .int .i64 s.ns, .slice ba s.books.length bc, .slice (some ⟨b, 0, none⟩) s.notes.length nc], .int .i64 0]) ?_ rfl ?_
          · rw [results_cell_tmp rfl]
            go_simp
          · refine ret_okC (D := w.heap.size + 1) (s := { s with notes := updN id (fun n => { n with name := t }) s.notes }) HE.out ?_ HMQ.out
            repeat' (first | with_reducible exact HOD.out | with_reducible refine OwnD2.drew ?_ | with_reducible refine OwnD2.set ?_ (by omega) _ _)
end Go.Proofs.YtnajccljdjllgaaGreatDoor
set_option linter.unusedVariables false
set_option linter.unusedSimpArgs false
namespace Go.Proofs.YtnajccljdjllgaaGreatDoor
open Go.RowKit Go.Lib
set_option maxRecDepth 100000 in
set_option maxHeartbeats 4000000 in
theorem move_any (s : Shelf) (bv nv : Value) (id q : Int) (w : World) (h : ShelfR w s bv nv) (hz : TameS s) (hT : Tabs w) :
    Calls Tryz.prog 37 #[shelfV s bv nv, .int .i64 id, .int .i64 q] w (RetC (moveR s id q) w) := by
  have cM := fun W (g : Grow w W) => mayS_any s bv nv W (h.grow g) hz (hT.below g)
  have cO := fun W (g : Grow w W) => own_any s bv nv W (h.grow g) hz.1
  have cK : ∀ W, Grow w W → Calls Tryz.prog 54 #[shelfV s bv nv, .int .i64 id] W fun e w' => e = .returned (.int .i64 (noteIx s id)) ∧ Grow W w' := fun W g => note_any s bv nv id W (h.grow g) (by have := hz.1.2.1; omega)
  have cB : ∀ W, Grow w W → Calls Tryz.prog 51 #[shelfV s bv nv, .int .i64 q] W fun e w' => e = .returned (.int .i64 (bookIx s q)) ∧ Grow W w' := fun W g => book_any s bv nv q W (h.grow g) (by have := hz.1.1; omega)
  have cT := fun t W (g : Grow w W) => titled_any s bv nv q t id W (h.grow g) (by have := hz.1.2.1; omega)
  have HH := Lib.hid h
  have hbl := hz.1.1
  have hnl := hz.1.2.1
  have hbd := idx_bd (fun x : Book => x.id == id) s.books
  have hnd := idx_bd (fun x : Note => x.id == id) s.notes
  rw [show idx (fun x : Book => x.id == id) s.books = bookIx s id from rfl] at hbd
  rw [show idx (fun x : Note => x.id == id) s.notes = noteIx s id from rfl] at hnd
  obtain ⟨a1, c1, rfl⟩ := h.1.mk
  obtain ⟨a2, c2, rfl⟩ := h.2.mk
  have HXX := Lib.hid (two_boxes2 w (shB s (.slice a1 s.books.length c1) (.slice a2 s.notes.length c2)) (shB ⟨0, 0, 0, [], []⟩ (.slice none 0 0) (.slice none 0 0)))
  clear h hz hT
  unfold shelfV at *
  go_enter Tryz.func37, Tryz.ntmps37
  go_upto_region 1 with (fail)
  generalize hV : (w.alloc (.cells #[.int .i64 s.nb, .int .i64 s.nn, .int .i64 s.ns, .slice a1 s.books.length c1, .slice a2 s.notes.length c2] 25)).alloc (.cells #[.int .i64 0, .int .i64 0, .int .i64 0, .slice none 0 0, .slice none 0 0] 25) = V
  have gV : Grow w V := by rw [← hV]; exact ((Grow.refl w).alloc _).alloc _
  have HBX : Hid (V.heap[w.heap.size]? = some (shB s (.slice a1 s.books.length c1) (.slice a2 s.notes.length c2))) := by rw [← hV]; exact Lib.hid HXX.out.1
  have HRX : Hid (V.heap[w.heap.size + 1]? = some (shB ⟨0, 0, 0, [], []⟩ (.slice none 0 0) (.slice none 0 0))) := by rw [← hV]; exact Lib.hid HXX.out.2
  obtain ⟨⟨p0, p1, p2, p3, p4⟩, hpz⟩ := n5 HBX.out
  clear hV
  have cM1 := cM V gV
  cases hm : mayS s with
  | false =>
    have HM := Lib.hid hm
    rw [hm] at cM1
    clear hm cO
    go_wp2_with fail
    refine cM1.mono ?_
    rintro e w1 ⟨rfl, g1⟩
    clear cM1 p0 p1 p2 p3 p4
    have HE := Lib.hid (show moveR s id q = bad 2 from res_bad (by unfold moveE; rw [if_pos HM.out]) (by decide) _ _)
    obtain ⟨⟨e0, e1, e2, e3, e4⟩, hez⟩ := n5 (g1.blk HRX.out)
    have f0 := frozen_of_row _ (w.heap.size + 1) 0 _ _ (g1.blk HRX.out)
    have f1 := frozen_of_row _ (w.heap.size + 1) 1 _ _ (g1.blk HRX.out)
    have f2 := frozen_of_row _ (w.heap.size + 1) 2 _ _ (g1.blk HRX.out)
    have f3 := frozen_of_row _ (w.heap.size + 1) 3 _ _ (g1.blk HRX.out)
    have f4 := frozen_of_row _ (w.heap.size + 1) 4 _ _ (g1.blk HRX.out)
    go_wp2_with fail
    refine bodyPost_ret (v := .tuple #[.agg #[.int .i64 0, .int .i64 0, .int .i64 0, .slice none 0 0, .slice none 0 0], .int .i64 2]) ?_ rfl ?_
    · rw [results_cell_tmp rfl]
      go_simp
    · refine ret_badC HE.out ?_
      repeat' (first | with_reducible exact gV.trans g1 | with_reducible refine Grow.set ?_ (by first | (simp; done) | (simp; omega)) _)
  | true =>
    have HM := Lib.hid hm
    rw [hm] at cM1
    clear hm
    go_wp2_with fail
    refine cM1.mono ?_
    rintro e w1 ⟨rfl, g1⟩
    clear cM1 p0 p1 p2 p3 p4
    obtain ⟨⟨p0, p1, p2, p3, p4⟩, hpz⟩ := n5 (g1.blk HBX.out)
    have cK1 := cK _ (gV.trans g1)
    by_cases hi : noteIx s id < 0
    · have HI := Lib.hid hi
      clear cO cT cB
      go_wp2_with fail
      refine cK1.mono ?_
      rintro e w2 ⟨rfl, g2⟩
      have gg := g1.trans g2
      clear cK1 g2 p0 p1 p2 p3 p4 hpz
      have HE := Lib.hid (show moveR s id q = bad 4 from res_bad (by unfold moveE; rw [if_neg (by rw [HM.out]; simp), if_pos (.inl (by have := HI.out; omega))]) (by decide) _ _)
      obtain ⟨⟨e0, e1, e2, e3, e4⟩, hez⟩ := n5 (gg.blk HRX.out)
      have f0 := frozen_of_row _ (w.heap.size + 1) 0 _ _ (gg.blk HRX.out)
      have f1 := frozen_of_row _ (w.heap.size + 1) 1 _ _ (gg.blk HRX.out)
      have f2 := frozen_of_row _ (w.heap.size + 1) 2 _ _ (gg.blk HRX.out)
      have f3 := frozen_of_row _ (w.heap.size + 1) 3 _ _ (gg.blk HRX.out)
      have f4 := frozen_of_row _ (w.heap.size + 1) 4 _ _ (gg.blk HRX.out)
      go_wp2_with fail
      refine bodyPost_ret (v := .tuple #[.agg #[.int .i64 0, .int .i64 0, .int .i64 0, .slice none 0 0, .slice none 0 0], .int .i64 4]) ?_ rfl ?_
      · rw [results_cell_tmp rfl]
        go_simp
      · refine ret_badC HE.out ?_
        repeat' (first | with_reducible exact gV.trans gg | with_reducible refine Grow.set ?_ (by first | (simp; done) | (simp; omega)) _)
    · have HI := Lib.hid hi
      obtain ⟨i, hii⟩ : ∃ i : Nat, noteIx s id = i := ⟨(noteIx s id).toNat, by omega⟩
      have HII := Lib.hid hii
      have HNO := Lib.hid (noteOf_get (s := s) (id := id) (by omega))
      rw [hii] at cK1 hi hnd
      have hil : (i : Int) < s.notes.length := by omega
      have hil2 : i < s.notes.length := by omega
      clear hii hnd
      go_wp2_with fail
      refine cK1.mono ?_
      rintro e w2 ⟨rfl, g2⟩
      have gg := g1.trans g2
      clear cK1 g2 p0 p1 p2 p3 p4 hpz
      obtain ⟨⟨p0, p1, p2, p3, p4⟩, hpz⟩ := n5 (gg.blk HBX.out)
      have cB1 := cB _ (gV.trans gg)
      by_cases hq : bookIx s q < 0
      · have HQ := Lib.hid hq
        clear cO cT
        go_wp2_with fail
        refine cB1.mono ?_
        rintro e w3 ⟨rfl, g3⟩
        have gh := gg.trans g3
        clear cB1 g3 p0 p1 p2 p3 p4 hpz
        have HE := Lib.hid (show moveR s id q = bad 4 from res_bad (by unfold moveE; rw [if_neg (by rw [HM.out]; simp), if_pos (.inr HQ.out)]) (by decide) _ _)
        obtain ⟨⟨e0, e1, e2, e3, e4⟩, hez⟩ := n5 (gh.blk HRX.out)
        have f0 := frozen_of_row _ (w.heap.size + 1) 0 _ _ (gh.blk HRX.out)
        have f1 := frozen_of_row _ (w.heap.size + 1) 1 _ _ (gh.blk HRX.out)
        have f2 := frozen_of_row _ (w.heap.size + 1) 2 _ _ (gh.blk HRX.out)
        have f3 := frozen_of_row _ (w.heap.size + 1) 3 _ _ (gh.blk HRX.out)
        have f4 := frozen_of_row _ (w.heap.size + 1) 4 _ _ (gh.blk HRX.out)
        go_wp2_with fail
        refine bodyPost_ret (v := .tuple #[.agg #[.int .i64 0, .int .i64 0, .int .i64 0, .slice none 0 0, .slice none 0 0], .int .i64 4]) ?_ rfl ?_
        · rw [results_cell_tmp rfl]
          go_simp
        · refine ret_badC HE.out ?_
          repeat' (first | with_reducible exact gV.trans gh | with_reducible refine Grow.set ?_ (by first | (simp; done) | (simp; omega)) _)
      · have HQ := Lib.hid hq
        go_wp2_with fail
        refine cB1.mono ?_
        rintro e wq ⟨rfl, g3⟩
        have gh := gg.trans g3
        clear cB1 g3 p0 p1 p2 p3 p4 hpz
        obtain ⟨⟨p0, p1, p2, p3, p4⟩, hpz⟩ := n5 (gh.blk HBX.out)
        obtain ⟨x, hx⟩ : ∃ x, x = noteOf s id := ⟨_, rfl⟩
        have hxi : s.notes[i]? = some x := by
          have h9 := HNO.out.1
          rw [HII.out, Int.toNat_natCast] at h9
          rw [hx]; exact h9
        obtain ⟨nb, off, tv, sv, ea, hnb, -, -, n2, -, -, -, -⟩ := Notes.at (Notes.grow HH.out.2 (gV.trans gh)) hxi
        have hxid : x.id = id := by rw [hx]; exact HNO.out.2
        have HXI := Lib.hid hxi
        have HXID := Lib.hid hxid
        have HX := Lib.hid hx
        have kT := fun y : Gr wq => cT x.name y.W ((gV.trans gh).trans y.g)
        clear hx hxi hxid cT
        subst ea
        go_upto_region 6 with (fail)
        refine wp_region_gr (by kernel_rfl) (by kernel_rfl) ?_
        repeat (go_big_quiet_step (first | (go_at_call 65; exact Calls.gr (kT _))))
        refine wpQuiet_nil ?_
        rintro _ ⟨y, rfl⟩
        have gy := gh.trans y.g
        generalize y.W = wy at *
        clear kT p0 p1 p2 p3 p4 hpz n2 hnb y
        obtain ⟨⟨p0, p1, p2, p3, p4⟩, hpz⟩ := n5 (gy.blk HBX.out)
        cases htt : s.notes.any (titleB q x.name id) with
        | true =>
          have HTT := Lib.hid (show s.notes.any (titleB q (noteOf s id).name id) = true by rw [← HX.out]; exact htt)
          clear cO htt
          have HE := Lib.hid (show moveR s id q = bad 7 from res_bad (by unfold moveE; rw [if_neg (by rw [HM.out]; simp), if_neg (by have := HI.out; have := HQ.out; omega), if_pos HTT.out]) (by decide) _ _)
          obtain ⟨⟨e0, e1, e2, e3, e4⟩, hez⟩ := n5 (gy.blk HRX.out)
          have f0 := frozen_of_row _ (w.heap.size + 1) 0 _ _ (gy.blk HRX.out)
          have f1 := frozen_of_row _ (w.heap.size + 1) 1 _ _ (gy.blk HRX.out)
          have f2 := frozen_of_row _ (w.heap.size + 1) 2 _ _ (gy.blk HRX.out)
          have f3 := frozen_of_row _ (w.heap.size + 1) 3 _ _ (gy.blk HRX.out)
          have f4 := frozen_of_row _ (w.heap.size + 1) 4 _ _ (gy.blk HRX.out)
          go_wp2_with fail
          refine bodyPost_ret (v := .tuple #[.agg #[.int .i64 0, .int .i64 0, .int .i64 0, .slice none 0 0, .slice none 0 0], .int .i64 7]) ?_ rfl ?_
          · rw [results_cell_tmp rfl]
            go_simp
          · refine ret_badC HE.out ?_
            repeat' (first | with_reducible exact gV.trans gy | with_reducible refine Grow.set ?_ (by first | (simp; done) | (simp; omega)) _)
        | false =>
          have hez : moveE s id q = 0 := moveE_zero.2 ⟨HM.out, by have := HI.out; omega, by have := HQ.out; omega, by rw [← HX.out]; exact htt⟩
          have HMY := Lib.hid (mayS_iff.1 HM.out)
          have HE := Lib.hid (show moveR s id q = ⟨{ s with notes := updN id (fun n => { n with book := q }) s.notes }, 0, 0⟩ from resOf_ok hez _ _)
          clear htt hez
          have cO1 := cO _ (gV.trans gy)
          go_wp2_with fail
          refine cO1.mono ?_
          rintro e w3 ⟨bv', nv', Y, rfl, ho, hmap, g3⟩
          have hs : StB w w.heap.size (w.heap.size + 1) s.nb s.nn s.ns bv' nv' s.books Y (((((w3.setCell ⟨w.heap.size, 0, none⟩ (.int .i64 s.nb)).setCell ⟨w.heap.size, 1, none⟩ (.int .i64 s.nn)).setCell ⟨w.heap.size, 2, none⟩ (.int .i64 s.ns)).setCell ⟨w.heap.size, 3, none⟩ bv').setCell ⟨w.heap.size, 4, none⟩ nv') := StB.start (s := s) (D := w.heap.size + 1) gV HBX.out HRX.out gy g3 ho ⟨Nat.le_refl _, by omega, by omega⟩
          obtain ⟨ba, bc, ebv, -⟩ := ho.books.slice
          obtain ⟨na, nc, env, -⟩ := ho.notes.slice
          have hYl : Y.length = s.notes.length := by rw [← hmap, List.length_map]
          rw [hYl] at env
          have HMAP := Lib.hid hmap
          have HYL := Lib.hid hYl
          subst ebv env
          obtain ⟨⟨p0', p1', p2', p3', p4'⟩, hpz'⟩ := n5 ((gy.trans g3).blk HBX.out)
          have HF3 := Lib.hid (frozen_of_row w3 w.heap.size 0 _ _ ((gy.trans g3).blk HBX.out))
          have ff : ∀ j, w3.frozen? ⟨w.heap.size, j, none⟩ = false := fun j => frozen_of_row w3 w.heap.size j _ _ ((gy.trans g3).blk HBX.out)
          have ff0 := ff 0
          have ff1 := ff 1
          have ff2 := ff 2
          have ff3 := ff 3
          have ff4 := ff 4
          have HOW3 := Lib.hid ho
          have HG3 := Lib.hid (gy.trans g3)
          have hw3 : w.heap.size < w3.heap.size := hpz'
          clear cO1 cO ho hmap g3 hYl p0 p1 p2 p3 p4 ff
          unfold shelfV
          go_upto_region 9 with (fail)
          generalize ((((w3.setCell ⟨w.heap.size, 0, none⟩ (.int .i64 s.nb)).setCell ⟨w.heap.size, 1, none⟩ (.int .i64 s.nn)).setCell ⟨w.heap.size, 2, none⟩ (.int .i64 s.ns)).setCell ⟨w.heap.size, 3, none⟩ (.slice ba s.books.length bc)).setCell ⟨w.heap.size, 4, none⟩ (.slice na s.notes.length nc) = W at *
          have HS := Lib.hid hs
          obtain ⟨⟨p0, p1, p2, p3, p4⟩, hpz⟩ := hs.five
          have hb3 := hs.boxF 3
          have hb4 := hs.boxF 4
          clear hs p0' p1' p2' p3' p4' ff0 ff1 ff2 ff3 ff4 hpz'
          obtain ⟨z, hz, hzn⟩ := nv_get HMAP.out HXI.out
          obtain ⟨b, cc, ebb, hbz, -, -, hcl⟩ := HS.out.own.note hz
          rw [HYL.out] at ebb
          injection ebb with eb1 eb2 eb3
          subst eb1 eb3
          have q1 := (hcl 1 _ rfl).1
          have qf := (hcl 1 _ rfl).2
          have HS2 := Lib.hid (HS.out.setQ hz q (by rw [HYL.out]))
          have HMQ := Lib.hid (map_setN HMY.out.ninc HMAP.out hz (z := { z with n := { z.n with book := q } }) (fun n => { n with book := q }) rfl (show z.n.id = id by rw [hzn]; exact HXID.out))
          clear hcl hz hzn
          go_upto_region 10 with (fail)
          generalize W.setCell ⟨b, i * 5 + 1, none⟩ (.int .i64 q) = W2 at *
          clear p0 p1 p2 p3 p4 hpz hb3 hb4 HS q1 qf
          obtain ⟨⟨p0, p1, p2, p3, p4⟩, hpz⟩ := HS2.out.five
          obtain ⟨⟨e0, e1, e2, e3, e4⟩, hez⟩ := HS2.out.res5
          have f0 := HS2.out.resF 0
          have f1 := HS2.out.resF 1
          have f2 := HS2.out.resF 2
          have f3 := HS2.out.resF 3
          have f4 := HS2.out.resF 4
          have HOD := Lib.hid HS2.out.fin
          go_wp2_with fail
          refine bodyPost_ret (v := .tuple #[.agg #[.int .i64 s.nb, .int .i64 s.nn, .int .i64 s.ns, .slice ba s.books.length bc, .slice (some ⟨b, 0, none⟩) s.notes.length nc], .int .i64 0]) ?_ rfl ?_
          · rw [results_cell_tmp rfl]
            go_simp
          · refine ret_okC (D := w.heap.size + 1) (s := { s with notes := updN id (fun n => { n with book := q }) s.notes }) HE.out ?_ HMQ.out
            repeat' (first | with_reducible exact HOD.out | with_reducible refine OwnD2.drew ?_ | with_reducible refine OwnD2.set ?_ (by omega) _ _)
end Go.Proofs.YtnajccljdjllgaaGreatDoor
set_option linter.unusedVariables false
set_option linter.unusedSimpArgs false
namespace Go.Proofs.YtnajccljdjllgaaGreatDoor
open Go.RowKit Go.Lib
set_option maxRecDepth 100000 in
set_option maxHeartbeats 4000000 in
theorem discard_any (s : Shelf) (bv nv : Value) (id : Int) (w : World) (h : ShelfR w s bv nv) (hz : TameS s) (hT : Tabs w) :
    Calls Tryz.prog 39 #[shelfV s bv nv, .int .i64 id] w (RetC (discardR s id) w) := by
  have cM := fun W (g : Grow w W) => mayS_any s bv nv W (h.grow g) hz (hT.below g)
  have cO := fun W (g : Grow w W) => own_any s bv nv W (h.grow g) hz.1
  have cK : ∀ W, Grow w W → Calls Tryz.prog 54 #[shelfV s bv nv, .int .i64 id] W fun e w' => e = .returned (.int .i64 (noteIx s id)) ∧ Grow W w' := fun W g => note_any s bv nv id W (h.grow g) (by have := hz.1.2.1; omega)
  have hbl := hz.1.1
  have hnl := hz.1.2.1
  have hbd := idx_bd (fun x : Book => x.id == id) s.books
  have hnd := idx_bd (fun x : Note => x.id == id) s.notes
  rw [show idx (fun x : Book => x.id == id) s.books = bookIx s id from rfl] at hbd
  rw [show idx (fun x : Note => x.id == id) s.notes = noteIx s id from rfl] at hnd
  obtain ⟨a1, c1, rfl⟩ := h.1.mk
  obtain ⟨a2, c2, rfl⟩ := h.2.mk
  have HXX := Lib.hid (three_boxes w (shB s (.slice a1 s.books.length c1) (.slice a2 s.notes.length c2)) (.cells #[.int .i64 id] 3) (shB ⟨0, 0, 0, [], []⟩ (.slice none 0 0) (.slice none 0 0)))
  clear h hz hT
  unfold shelfV at *
  go_enter Tryz.func39, Tryz.ntmps39
  go_upto_region 1 with (fail)
  generalize hV : ((w.alloc (.cells #[.int .i64 s.nb, .int .i64 s.nn, .int .i64 s.ns, .slice a1 s.books.length c1, .slice a2 s.notes.length c2] 25)).alloc (.cells #[.int .i64 id] 3)).alloc (.cells #[.int .i64 0, .int .i64 0, .int .i64 0, .slice none 0 0, .slice none 0 0] 25) = V
  have gV : Grow w V := by rw [← hV]; exact (((Grow.refl w).alloc _).alloc _).alloc _
  have HBX : Hid (V.heap[w.heap.size]? = some (shB s (.slice a1 s.books.length c1) (.slice a2 s.notes.length c2))) := by rw [← hV]; exact Lib.hid HXX.out.1
  have HB1 : Hid (V.heap[w.heap.size + 1]? = some (.cells #[.int .i64 id] 3)) := by rw [← hV]; exact Lib.hid HXX.out.2.1
  have HRX : Hid (V.heap[w.heap.size + 1 + 1]? = some (shB ⟨0, 0, 0, [], []⟩ (.slice none 0 0) (.slice none 0 0))) := by rw [← hV]; exact Lib.hid HXX.out.2.2
  obtain ⟨⟨p0, p1, p2, p3, p4⟩, hpz⟩ := n5 HBX.out
  clear hV
  have cM1 := cM V gV
  cases hm : mayS s with
  | false =>
    have HM := Lib.hid hm
    rw [hm] at cM1
    clear hm cO
    go_wp2_with fail
    refine cM1.mono ?_
    rintro e w1 ⟨rfl, g1⟩
    clear cM1 p0 p1 p2 p3 p4
    have HE := Lib.hid (show discardR s id = bad 2 from res_bad (by unfold noteE; rw [if_pos HM.out]) (by decide) _ _)
    obtain ⟨⟨e0, e1, e2, e3, e4⟩, hez⟩ := n5 (g1.blk HRX.out)
    have f0 := frozen_of_row _ (w.heap.size + 1 + 1) 0 _ _ (g1.blk HRX.out)
    have f1 := frozen_of_row _ (w.heap.size + 1 + 1) 1 _ _ (g1.blk HRX.out)
    have f2 := frozen_of_row _ (w.heap.size + 1 + 1) 2 _ _ (g1.blk HRX.out)
    have f3 := frozen_of_row _ (w.heap.size + 1 + 1) 3 _ _ (g1.blk HRX.out)
    have f4 := frozen_of_row _ (w.heap.size + 1 + 1) 4 _ _ (g1.blk HRX.out)
    go_wp2_with fail
    refine bodyPost_ret (v := .tuple #[.agg #[.int .i64 0, .int .i64 0, .int .i64 0, .slice none 0 0, .slice none 0 0], .int .i64 2]) ?_ rfl ?_
    · rw [results_cell_tmp rfl]
      go_simp
    · refine ret_badC HE.out ?_
      repeat' (first | with_reducible exact gV.trans g1 | with_reducible refine Grow.set ?_ (by first | (simp; done) | (simp; omega)) _)
  | true =>
    have HM := Lib.hid hm
    rw [hm] at cM1
    clear hm
    go_wp2_with fail
    refine cM1.mono ?_
    rintro e w1 ⟨rfl, g1⟩
    clear cM1 p0 p1 p2 p3 p4
    obtain ⟨⟨p0, p1, p2, p3, p4⟩, hpz⟩ := n5 (g1.blk HBX.out)
    have cB1 := cK _ (gV.trans g1)
    have ib1 : w1.cell? ⟨w.heap.size + 1, 0, none⟩ = some (.int .i64 id) := (cell_of_row w1 _ 0 _ _ _ (g1.blk HB1.out)).trans rfl
    have ibz : w.heap.size + 1 < w1.heap.size := (Array.getElem?_eq_some_iff.1 (g1.blk HB1.out)).1
    by_cases hi : noteIx s id < 0
    · have HI := Lib.hid hi
      clear cO
      go_wp2_with fail
      refine cB1.mono ?_
      rintro e w2 ⟨rfl, g2⟩
      have gg := g1.trans g2
      clear cB1 g2 p0 p1 p2 p3 p4 ib1 ibz hpz
      have HE := Lib.hid (show discardR s id = bad 4 from res_bad (by unfold noteE; rw [if_neg (by rw [HM.out]; simp), if_pos (by have := HI.out; omega)]) (by decide) _ _)
      obtain ⟨⟨e0, e1, e2, e3, e4⟩, hez⟩ := n5 (gg.blk HRX.out)
      have f0 := frozen_of_row _ (w.heap.size + 1 + 1) 0 _ _ (gg.blk HRX.out)
      have f1 := frozen_of_row _ (w.heap.size + 1 + 1) 1 _ _ (gg.blk HRX.out)
      have f2 := frozen_of_row _ (w.heap.size + 1 + 1) 2 _ _ (gg.blk HRX.out)
      have f3 := frozen_of_row _ (w.heap.size + 1 + 1) 3 _ _ (gg.blk HRX.out)
      have f4 := frozen_of_row _ (w.heap.size + 1 + 1) 4 _ _ (gg.blk HRX.out)
      go_wp2_with fail
      refine bodyPost_ret (v := .tuple #[.agg #[.int .i64 0, .int .i64 0, .int .i64 0, .slice none 0 0, .slice none 0 0], .int .i64 4]) ?_ rfl ?_
      · rw [results_cell_tmp rfl]
        go_simp
      · refine ret_badC HE.out ?_
        repeat' (first | with_reducible exact gV.trans gg | with_reducible refine Grow.set ?_ (by first | (simp; done) | (simp; omega)) _)
    · have HI := Lib.hid hi
      go_wp2_with fail
      refine cB1.mono ?_
      rintro e w2 ⟨rfl, g2⟩
      have gg := g1.trans g2
      clear cB1 g2 p0 p1 p2 p3 p4 ib1 ibz hpz
      obtain ⟨⟨p0, p1, p2, p3, p4⟩, hpz⟩ := n5 (gg.blk HBX.out)
      have HE := Lib.hid (show discardR s id = ⟨{ s with notes := s.notes.filter (fun n => !(n.id == id)) }, 0, 0⟩ from resOf_ok (noteE_zero.2 ⟨HM.out, by omega⟩) _ _)
      have cO1 := cO _ (gV.trans gg)
      go_wp2_with fail
      refine cO1.mono ?_
      rintro e w3 ⟨bv', nv', Y, rfl, ho, hmap, g3⟩
      have hs : StB w w.heap.size (w.heap.size + 1 + 1) s.nb s.nn s.ns bv' nv' s.books Y (((((w3.setCell ⟨w.heap.size, 0, none⟩ (.int .i64 s.nb)).setCell ⟨w.heap.size, 1, none⟩ (.int .i64 s.nn)).setCell ⟨w.heap.size, 2, none⟩ (.int .i64 s.ns)).setCell ⟨w.heap.size, 3, none⟩ bv').setCell ⟨w.heap.size, 4, none⟩ nv') := StB.start (s := s) (D := w.heap.size + 1 + 1) gV HBX.out HRX.out gg g3 ho ⟨Nat.le_refl _, by omega, by omega⟩
      have hI1 : (((((w3.setCell ⟨w.heap.size, 0, none⟩ (.int .i64 s.nb)).setCell ⟨w.heap.size, 1, none⟩ (.int .i64 s.nn)).setCell ⟨w.heap.size, 2, none⟩ (.int .i64 s.ns)).setCell ⟨w.heap.size, 3, none⟩ bv').setCell ⟨w.heap.size, 4, none⟩ nv').heap[w.heap.size + 1]? = some (.cells #[.int .i64 id] 3) := set5_other _ _ _ _ _ (by omega) ((gg.trans g3).blk HB1.out)
      obtain ⟨ba, bc, ebv, -⟩ := ho.books.slice
      obtain ⟨na, nc, env, -⟩ := ho.notes.slice
      have hYl : Y.length = s.notes.length := by rw [← hmap, List.length_map]
      rw [hYl] at env
      have HMAP := Lib.hid hmap
      have HYL := Lib.hid hYl
      subst ebv env
      obtain ⟨⟨p0', p1', p2', p3', p4'⟩, hpz'⟩ := n5 ((gg.trans g3).blk HBX.out)
      have HF3 := Lib.hid (frozen_of_row w3 w.heap.size 0 _ _ ((gg.trans g3).blk HBX.out))
      have ff : ∀ j, w3.frozen? ⟨w.heap.size, j, none⟩ = false := fun j => frozen_of_row w3 w.heap.size j _ _ ((gg.trans g3).blk HBX.out)
      have ff0 := ff 0
      have ff1 := ff 1
      have ff2 := ff 2
      have ff3 := ff 3
      have ff4 := ff 4
      have HOW3 := Lib.hid ho
      have HG3 := Lib.hid (gg.trans g3)
      have hw3 : w.heap.size < w3.heap.size := hpz'
      clear cO1 cO ho hmap g3 hYl p0 p1 p2 p3 p4 ff
      unfold shelfV
      go_upto_region 6 with (fail)
      generalize ((((w3.setCell ⟨w.heap.size, 0, none⟩ (.int .i64 s.nb)).setCell ⟨w.heap.size, 1, none⟩ (.int .i64 s.nn)).setCell ⟨w.heap.size, 2, none⟩ (.int .i64 s.ns)).setCell ⟨w.heap.size, 3, none⟩ (.slice ba s.books.length bc)).setCell ⟨w.heap.size, 4, none⟩ (.slice na s.notes.length nc) = W at *
      have HS := Lib.hid hs
      have HI1 := Lib.hid hI1
      clear hI1
      obtain ⟨⟨p0, p1, p2, p3, p4⟩, hpz⟩ := hs.five
      have hb3 := hs.boxF 3
      have hb4 := hs.boxF 4
      clear hs p0' p1' p2' p3' p4' ff0 ff1 ff2 ff3 ff4 hpz'
      have hIz : w.heap.size + 1 < W.heap.size := (Array.getElem?_eq_some_iff.1 HI1.out).1
      have cD := discN HS.out (by rw [HYL.out]; exact hnl) HI1.out
      go_wp2_with fail
      refine cD.mono ?_
      rintro e w7 ⟨v7, rfl, hr, hg, -⟩
      obtain ⟨ya, yc, e7, -⟩ := hr.slice
      subst e7
      have HMF := Lib.hid (map_filterN HMAP.out (fun n => !(n.id == id)))
      obtain ⟨k3, f3, z3, hs4⟩ := HS.out.subN (List.filter_sublist (p := fun y : NV => !(y.n.id == id))) hr hg
      have HS3 := Lib.hid hs4
      clear cD hr hg hs4 p0 p1 p2 p3 p4 hpz hb3 hb4 hIz
      go_upto_region 7 with (fail)
      generalize w7.setCell ⟨w.heap.size, 4, none⟩ (.slice ya (Y.filter fun y => !(y.n.id == id)).length yc) = W3 at *
      clear k3 f3 z3 HS
      obtain ⟨⟨p0, p1, p2, p3, p4⟩, hpz⟩ := HS3.out.five
      obtain ⟨⟨e0, e1, e2, e3, e4⟩, hez⟩ := HS3.out.res5
      have f0 := HS3.out.resF 0
      have f1 := HS3.out.resF 1
      have f2 := HS3.out.resF 2
      have f3 := HS3.out.resF 3
      have f4 := HS3.out.resF 4
      have HOD := Lib.hid HS3.out.fin
      go_wp2_with fail
      refine bodyPost_ret (v := .tuple #[.agg #[.int .i64 s.nb, .int .i64 s.nn, .int .i64 s.ns, .slice ba s.books.length bc, .slice ya (Y.filter fun y => !(y.n.id == id)).length yc], .int .i64 0]) ?_ rfl ?_
      · rw [results_cell_tmp rfl]
        go_simp
      · refine ret_okC (D := w.heap.size + 1 + 1) (s := { s with notes := s.notes.filter (fun n => !(n.id == id)) }) HE.out ?_ HMF.out
        repeat' (first | with_reducible exact HOD.out | with_reducible refine OwnD2.drew ?_ | with_reducible refine OwnD2.set ?_ (by omega) _ _)
end Go.Proofs.YtnajccljdjllgaaGreatDoor
set_option linter.unusedVariables false
set_option linter.unusedSimpArgs false
namespace Go.Proofs.YtnajccljdjllgaaGreatDoor
open Go.RowKit Go.Lib
theorem rune1_val (s : ByteArray) (i : Nat) (hi : i < s.size) (a b : Int) (n m : Nat) (h : ref1 (s.size - i) (byteAt s i) (byteAt s (i + 1)) (byteAt s (i + 2)) (byteAt s (i + 3)) = (n, m)) (ha : a = n) (hb : b = m) :
    Ending.returned (.tuple #[.int .i64 a, .int .i64 b]) = .returned (.tuple #[.int .i64 (rune s i).1, .int .i64 (rune s i).2]) := by
  rw [rune_ref s i hi]
  unfold byteAt at h
  rw [h, ha, hb]
/-- What rune1's loop has reckoned behind k bytes. -/
def Inv1 (b1 b2 b3 r0 : Int) (k : Nat) (r : Int) : Prop :=
  (k = 1 ∧ r = r0) ∨ (k = 2 ∧ 128 ≤ b1 ∧ b1 ≤ 191 ∧ r = r0 * 64 + b1 - 128) ∨ (k = 3 ∧ 128 ≤ b1 ∧ b1 ≤ 191 ∧ 128 ≤ b2 ∧ b2 ≤ 191 ∧ r = (r0 * 64 + b1 - 128) * 64 + b2 - 128) ∨
    (k = 4 ∧ 128 ≤ b1 ∧ b1 ≤ 191 ∧ 128 ≤ b2 ∧ b2 ≤ 191 ∧ 128 ≤ b3 ∧ b3 ≤ 191 ∧ r = ((r0 * 64 + b1 - 128) * 64 + b2 - 128) * 64 + b3 - 128)
theorem inv1_bd {b1 b2 b3 r0 : Int} {k : Nat} {r : Int} (h : Inv1 b1 b2 b3 r0 k r) (h0 : 0 ≤ r0) (h1 : r0 < 32) : 0 ≤ r ∧ r < 8388608 := by
  unfold Inv1 at h; omega
def byteK (b1 b2 b3 : Int) (k : Nat) : Int := if k = 1 then b1 else if k = 2 then b2 else b3
theorem byteK_at (s : ByteArray) (i k : Nat) (h1 : 1 ≤ k) (h2 : k ≤ 3) : (byteAt s (i + k) : Int) = byteK (byteAt s (i + 1)) (byteAt s (i + 2)) (byteAt s (i + 3)) k := by
  unfold byteK
  rcases (by omega : k = 1 ∨ k = 2 ∨ k = 3) with rfl | rfl | rfl <;> rfl
theorem inv1_pos {b1 b2 b3 r0 : Int} {k : Nat} {r : Int} (h : Inv1 b1 b2 b3 r0 k r) : 1 ≤ k ∧ k ≤ 4 := by unfold Inv1 at h; omega
theorem inv1_step {b1 b2 b3 r0 : Int} {k : Nat} {r x : Int} (h : Inv1 b1 b2 b3 r0 k r) (hk : k ≤ 3) (hx : x = byteK b1 b2 b3 k) (h1 : 128 ≤ x) (h2 : x ≤ 191) : Inv1 b1 b2 b3 r0 (k + 1) (r * 64 + x - 128) := by
  unfold Inv1 at h ⊢
  unfold byteK at hx
  rcases h with h | h | h | h
  · obtain ⟨rfl, rfl⟩ := h; simp at hx; subst hx; exact .inr (.inl ⟨rfl, h1, h2, rfl⟩)
  · obtain ⟨rfl, g1, g2, rfl⟩ := h; simp at hx; subst hx; exact .inr (.inr (.inl ⟨rfl, g1, g2, h1, h2, rfl⟩))
  · obtain ⟨rfl, g1, g2, g3, g4, rfl⟩ := h; simp at hx; subst hx; exact .inr (.inr (.inr ⟨rfl, g1, g2, g3, g4, h1, h2, rfl⟩))
  · omega
/-- c leads a rune of n bytes. -/
def Lead (c n : Nat) : Prop := (194 ≤ c ∧ c < 224 ∧ n = 2) ∨ (224 ≤ c ∧ c < 240 ∧ n = 3) ∨ (240 ≤ c ∧ c < 245 ∧ n = 4)
/-- No rune is whole where the k-th byte is no continuation. -/
theorem ref1_bad (m c b1 b2 b3 n : Nat) (k : Nat) (hn : Lead c n) (h1 : 1 ≤ k) (hk : k < n) (hx : byteK b1 b2 b3 k < 128 ∨ 191 < byteK b1 b2 b3 k) : ref1 m c b1 b2 b3 = (0, 0) := by
  unfold Lead at hn
  have hx' : (k = 1 ∧ ¬ b1 / 64 = 2) ∨ (k = 2 ∧ ¬ b2 / 64 = 2) ∨ (k = 3 ∧ ¬ b3 / 64 = 2) := by
    unfold byteK at hx
    rcases (by omega : k = 1 ∨ k = 2 ∨ k = 3) with rfl | rfl | rfl <;> simp at hx <;> omega
  unfold ref1
  repeat' split
  all_goals first | rfl | (exfalso; omega)
theorem ref1_short (m c b1 b2 b3 n : Nat) (hn : Lead c n) (hm : m < n) : ref1 m c b1 b2 b3 = (0, 0) := by
  unfold Lead at hn
  unfold ref1
  repeat' split
  all_goals first | rfl | (exfalso; omega)
/-- Behind the loop: all bytes are there. -/
theorem ref1_end (m c b1 b2 b3 n : Nat) (r0 low : Int) (r : Int) (hn : (194 ≤ c ∧ c < 224 ∧ n = 2 ∧ r0 = c - 192 ∧ low = 128) ∨ (224 ≤ c ∧ c < 240 ∧ n = 3 ∧ r0 = c - 224 ∧ low = 2048) ∨ (240 ≤ c ∧ c < 245 ∧ n = 4 ∧ r0 = c - 240 ∧ low = 65536)) (hm : n ≤ m) (hI : Inv1 b1 b2 b3 r0 n r) :
    ref1 m c b1 b2 b3 = if r < low ∨ 1114111 < r ∨ (55296 ≤ r ∧ r ≤ 57343) then (0, 0) else (r.toNat, n) := by
  unfold Inv1 at hI
  unfold ref1
  rcases hn with ⟨h1, h2, rfl, rfl, rfl⟩ | ⟨h1, h2, rfl, rfl, rfl⟩ | ⟨h1, h2, rfl, rfl, rfl⟩
  · rw [if_neg (by omega), if_pos (by omega), if_pos (by omega)]
    have e : r = ((c - 192) * 64 + b1 % 64 : Nat) := by omega
    rw [e]
    split
    · rw [if_neg (by omega)]; rfl
    · rw [if_pos (by omega)]
  · rw [if_neg (by omega), if_neg (by omega), if_pos (by omega), if_pos (by omega)]
    have e : r = ((c - 224) * 4096 + b1 % 64 * 64 + b2 % 64 : Nat) := by omega
    rw [e]
    split
    · rw [if_neg (by omega)]; rfl
    · rw [if_pos (by omega)]
  · rw [if_neg (by omega), if_neg (by omega), if_neg (by omega), if_pos (by omega), if_pos (by omega)]
    have e : r = ((c - 240) * 262144 + b1 % 64 * 4096 + b2 % 64 * 64 + b3 % 64 : Nat) := by omega
    rw [e]
    split
    · rw [if_neg (by omega)]; rfl
    · rw [if_pos (by omega)]
set_option maxRecDepth 100000 in
set_option maxHeartbeats 1000000 in
theorem rune1_2 (s : ByteArray) (i : Nat) (w : World) (hi : i < s.size) (hs : s.size ≤ 1000000000) (c1 : 194 ≤ (s[i].toNat : Int)) (c2 : (s[i].toNat : Int) < 224) :
    Calls Tryz.prog 91 #[.string s, .int .i64 i] w fun e w' => e = .returned (.tuple #[.int .i64 (rune s i).1, .int .i64 (rune s i).2]) ∧ w = w' := by
  have hi' : (i : Int) < (s.size : Int) := by omega
  have hc := s[i].toNat_lt
  have B0 := Lib.hid (byte_get s i hi)
  have HV := Lib.hid (fun a b n m h ha hb => rune1_val s i hi a b n m h ha hb)
  have hs1 : Lead (byteAt s i) 2 := by have := B0.out; unfold Lead; omega
  by_cases d1 : 2 ≤ (s.size : Int) - i
  · go_enter Tryz.func91, Tryz.ntmps91
    go_wp2
    go_loop [8, 10, 11] (fun r k x => ∃ (kk : Nat) (rv : Int), kk ≤ 2 ∧ k = .int .i64 kk ∧ r = .int .i64 rv ∧ Inv1 (byteAt s (i + 1)) (byteAt s (i + 2)) (byteAt s (i + 3)) (s[i].toNat - 192) kk rv) (fun _ k _ => 2 - (intOf k).toNat)
    case atStart => exact ⟨1, _, by omega, rfl, rfl, .inl ⟨rfl, rfl⟩⟩
    case round =>
      obtain ⟨kk, rv, hk, rfl, rfl, hI⟩ := hrel
      obtain ⟨hb1, hb2⟩ := inv1_bd hI (by omega) (by omega)
      obtain ⟨hk1, -⟩ := inv1_pos hI
      have HI := Lib.hid hI
      clear hI
      by_cases hlt : kk < 2
      · have hik : i + kk < s.size := by omega
        have hik' : (i : Int) + kk < s.size := by omega
        have hx := s[i + kk].toNat_lt
        have BK := Lib.hid ((congrArg (fun z : Nat => (z : Int)) (byte_get s (i + kk) hik)).trans (byteK_at s i kk hk1 (by omega)))
        by_cases x1 : (s[i + kk].toNat : Int) < 128
        · go_wp2
          go_ret2
          exact ⟨HV.out _ _ 0 0 (ref1_bad _ _ _ _ _ 2 kk hs1 hk1 hlt (.inl (by rw [← BK.out]; exact x1))) rfl rfl, rfl⟩
        by_cases x2 : (191 : Int) < s[i + kk].toNat
        · go_wp2
          go_ret2
          exact ⟨HV.out _ _ 0 0 (ref1_bad _ _ _ _ _ 2 kk hs1 hk1 hlt (.inr (by rw [← BK.out]; exact x2))) rfl rfl, rfl⟩
        go_wp2
        go_round
        case rel => exact ⟨kk + 1, _, by omega, by go_num, rfl, inv1_step HI.out (by omega) BK.out (by omega) (by omega)⟩
        case measure => simp [intOf]; omega
      · obtain rfl : kk = 2 := by omega
        have HE := Lib.hid (ref1_end (s.size - i) (byteAt s i) _ _ _ 2 _ 128 rv (by have := B0.out; omega) (by omega) HI.out)
        by_cases x1 : rv < 128
        · go_wp2
          go_ret2
          exact ⟨HV.out _ _ 0 0 (by rw [HE.out, if_pos (by omega)]) rfl rfl, rfl⟩
        by_cases x2 : 1114111 < rv
        · go_wp2
          go_ret2
          exact ⟨HV.out _ _ 0 0 (by rw [HE.out, if_pos (by omega)]) rfl rfl, rfl⟩
        by_cases x3 : 55296 ≤ rv
        · by_cases x4 : rv ≤ 57343
          · go_wp2
            go_ret2
            exact ⟨HV.out _ _ 0 0 (by rw [HE.out, if_pos (by omega)]) rfl rfl, rfl⟩
          · go_wp2
            go_ret2
            exact ⟨HV.out _ _ _ 2 (by rw [HE.out, if_neg (by omega)]) (by omega) rfl, rfl⟩
        · go_wp2
          go_ret2
          exact ⟨HV.out _ _ _ 2 (by rw [HE.out, if_neg (by omega)]) (by omega) rfl, rfl⟩
  · go_enter Tryz.func91, Tryz.ntmps91
    go_wp2
    go_ret2
    exact ⟨HV.out _ _ 0 0 (ref1_short _ _ _ _ _ 2 hs1 (by omega)) rfl rfl, rfl⟩
set_option maxRecDepth 100000 in
set_option maxHeartbeats 1000000 in
theorem rune1_3 (s : ByteArray) (i : Nat) (w : World) (hi : i < s.size) (hs : s.size ≤ 1000000000) (c1 : 224 ≤ (s[i].toNat : Int)) (c2 : (s[i].toNat : Int) < 240) :
    Calls Tryz.prog 91 #[.string s, .int .i64 i] w fun e w' => e = .returned (.tuple #[.int .i64 (rune s i).1, .int .i64 (rune s i).2]) ∧ w = w' := by
  have hi' : (i : Int) < (s.size : Int) := by omega
  have hc := s[i].toNat_lt
  have B0 := Lib.hid (byte_get s i hi)
  have HV := Lib.hid (fun a b n m h ha hb => rune1_val s i hi a b n m h ha hb)
  have hs1 : Lead (byteAt s i) 3 := by have := B0.out; unfold Lead; omega
  by_cases d1 : 3 ≤ (s.size : Int) - i
  · go_enter Tryz.func91, Tryz.ntmps91
    go_wp2
    go_loop [8, 10, 11] (fun r k x => ∃ (kk : Nat) (rv : Int), kk ≤ 3 ∧ k = .int .i64 kk ∧ r = .int .i64 rv ∧ Inv1 (byteAt s (i + 1)) (byteAt s (i + 2)) (byteAt s (i + 3)) (s[i].toNat - 224) kk rv) (fun _ k _ => 3 - (intOf k).toNat)
    case atStart => exact ⟨1, _, by omega, rfl, rfl, .inl ⟨rfl, rfl⟩⟩
    case round =>
      obtain ⟨kk, rv, hk, rfl, rfl, hI⟩ := hrel
      obtain ⟨hb1, hb2⟩ := inv1_bd hI (by omega) (by omega)
      obtain ⟨hk1, -⟩ := inv1_pos hI
      have HI := Lib.hid hI
      clear hI
      by_cases hlt : kk < 3
      · have hik : i + kk < s.size := by omega
        have hik' : (i : Int) + kk < s.size := by omega
        have hx := s[i + kk].toNat_lt
        have BK := Lib.hid ((congrArg (fun z : Nat => (z : Int)) (byte_get s (i + kk) hik)).trans (byteK_at s i kk hk1 (by omega)))
        by_cases x1 : (s[i + kk].toNat : Int) < 128
        · go_wp2
          go_ret2
          exact ⟨HV.out _ _ 0 0 (ref1_bad _ _ _ _ _ 3 kk hs1 hk1 hlt (.inl (by rw [← BK.out]; exact x1))) rfl rfl, rfl⟩
        by_cases x2 : (191 : Int) < s[i + kk].toNat
        · go_wp2
          go_ret2
          exact ⟨HV.out _ _ 0 0 (ref1_bad _ _ _ _ _ 3 kk hs1 hk1 hlt (.inr (by rw [← BK.out]; exact x2))) rfl rfl, rfl⟩
        go_wp2
        go_round
        case rel => exact ⟨kk + 1, _, by omega, by go_num, rfl, inv1_step HI.out (by omega) BK.out (by omega) (by omega)⟩
        case measure => simp [intOf]; omega
      · obtain rfl : kk = 3 := by omega
        have HE := Lib.hid (ref1_end (s.size - i) (byteAt s i) _ _ _ 3 _ 2048 rv (by have := B0.out; omega) (by omega) HI.out)
        by_cases x1 : rv < 2048
        · go_wp2
          go_ret2
          exact ⟨HV.out _ _ 0 0 (by rw [HE.out, if_pos (by omega)]) rfl rfl, rfl⟩
        by_cases x2 : 1114111 < rv
        · go_wp2
          go_ret2
          exact ⟨HV.out _ _ 0 0 (by rw [HE.out, if_pos (by omega)]) rfl rfl, rfl⟩
        by_cases x3 : 55296 ≤ rv
        · by_cases x4 : rv ≤ 57343
          · go_wp2
            go_ret2
            exact ⟨HV.out _ _ 0 0 (by rw [HE.out, if_pos (by omega)]) rfl rfl, rfl⟩
          · go_wp2
            go_ret2
            exact ⟨HV.out _ _ _ 3 (by rw [HE.out, if_neg (by omega)]) (by omega) rfl, rfl⟩
        · go_wp2
          go_ret2
          exact ⟨HV.out _ _ _ 3 (by rw [HE.out, if_neg (by omega)]) (by omega) rfl, rfl⟩
  · go_enter Tryz.func91, Tryz.ntmps91
    go_wp2
    go_ret2
    exact ⟨HV.out _ _ 0 0 (ref1_short _ _ _ _ _ 3 hs1 (by omega)) rfl rfl, rfl⟩
set_option maxRecDepth 100000 in
set_option maxHeartbeats 1000000 in
theorem rune1_4 (s : ByteArray) (i : Nat) (w : World) (hi : i < s.size) (hs : s.size ≤ 1000000000) (c1 : 240 ≤ (s[i].toNat : Int)) (c2 : (s[i].toNat : Int) < 245) :
    Calls Tryz.prog 91 #[.string s, .int .i64 i] w fun e w' => e = .returned (.tuple #[.int .i64 (rune s i).1, .int .i64 (rune s i).2]) ∧ w = w' := by
  have hi' : (i : Int) < (s.size : Int) := by omega
  have hc := s[i].toNat_lt
  have B0 := Lib.hid (byte_get s i hi)
  have HV := Lib.hid (fun a b n m h ha hb => rune1_val s i hi a b n m h ha hb)
  have hs1 : Lead (byteAt s i) 4 := by have := B0.out; unfold Lead; omega
  by_cases d1 : 4 ≤ (s.size : Int) - i
  · go_enter Tryz.func91, Tryz.ntmps91
    go_wp2
    go_loop [8, 10, 11] (fun r k x => ∃ (kk : Nat) (rv : Int), kk ≤ 4 ∧ k = .int .i64 kk ∧ r = .int .i64 rv ∧ Inv1 (byteAt s (i + 1)) (byteAt s (i + 2)) (byteAt s (i + 3)) (s[i].toNat - 240) kk rv) (fun _ k _ => 4 - (intOf k).toNat)
    case atStart => exact ⟨1, _, by omega, rfl, rfl, .inl ⟨rfl, rfl⟩⟩
    case round =>
      obtain ⟨kk, rv, hk, rfl, rfl, hI⟩ := hrel
      obtain ⟨hb1, hb2⟩ := inv1_bd hI (by omega) (by omega)
      obtain ⟨hk1, -⟩ := inv1_pos hI
      have HI := Lib.hid hI
      clear hI
      by_cases hlt : kk < 4
      · have hik : i + kk < s.size := by omega
        have hik' : (i : Int) + kk < s.size := by omega
        have hx := s[i + kk].toNat_lt
        have BK := Lib.hid ((congrArg (fun z : Nat => (z : Int)) (byte_get s (i + kk) hik)).trans (byteK_at s i kk hk1 (by omega)))
        by_cases x1 : (s[i + kk].toNat : Int) < 128
        · go_wp2
          go_ret2
          exact ⟨HV.out _ _ 0 0 (ref1_bad _ _ _ _ _ 4 kk hs1 hk1 hlt (.inl (by rw [← BK.out]; exact x1))) rfl rfl, rfl⟩
        by_cases x2 : (191 : Int) < s[i + kk].toNat
        · go_wp2
          go_ret2
          exact ⟨HV.out _ _ 0 0 (ref1_bad _ _ _ _ _ 4 kk hs1 hk1 hlt (.inr (by rw [← BK.out]; exact x2))) rfl rfl, rfl⟩
        go_wp2
        go_round
        case rel => exact ⟨kk + 1, _, by omega, by go_num, rfl, inv1_step HI.out (by omega) BK.out (by omega) (by omega)⟩
        case measure => simp [intOf]; omega
      · obtain rfl : kk = 4 := by omega
        have HE := Lib.hid (ref1_end (s.size - i) (byteAt s i) _ _ _ 4 _ 65536 rv (by have := B0.out; omega) (by omega) HI.out)
        by_cases x1 : rv < 65536
        · go_wp2
          go_ret2
          exact ⟨HV.out _ _ 0 0 (by rw [HE.out, if_pos (by omega)]) rfl rfl, rfl⟩
        by_cases x2 : 1114111 < rv
        · go_wp2
          go_ret2
          exact ⟨HV.out _ _ 0 0 (by rw [HE.out, if_pos (by omega)]) rfl rfl, rfl⟩
        by_cases x3 : 55296 ≤ rv
        · by_cases x4 : rv ≤ 57343
          · go_wp2
            go_ret2
            exact ⟨HV.out _ _ 0 0 (by rw [HE.out, if_pos (by omega)]) rfl rfl, rfl⟩
          · go_wp2
            go_ret2
            exact ⟨HV.out _ _ _ 4 (by rw [HE.out, if_neg (by omega)]) (by omega) rfl, rfl⟩
        · go_wp2
          go_ret2
          exact ⟨HV.out _ _ _ 4 (by rw [HE.out, if_neg (by omega)]) (by omega) rfl, rfl⟩
  · go_enter Tryz.func91, Tryz.ntmps91
    go_wp2
    go_ret2
    exact ⟨HV.out _ _ 0 0 (ref1_short _ _ _ _ _ 4 hs1 (by omega)) rfl rfl, rfl⟩
end Go.Proofs.YtnajccljdjllgaaGreatDoor
set_option linter.unusedVariables false
set_option linter.unusedSimpArgs false
namespace Go.Proofs.YtnajccljdjllgaaGreatDoor
open Go.RowKit Go.Lib
set_option maxRecDepth 100000 in
set_option maxHeartbeats 1000000 in
theorem rune1_any (s : ByteArray) (i : Nat) (w : World) (hi : i < s.size) (hs : s.size ≤ 1000000000) :
    Calls Tryz.prog 91 #[.string s, .int .i64 i] w fun e w' => e = .returned (.tuple #[.int .i64 (rune s i).1, .int .i64 (rune s i).2]) ∧ w = w' := by
  by_cases c1 : 194 ≤ (s[i].toNat : Int) ∧ (s[i].toNat : Int) < 224
  · exact rune1_2 s i w hi hs c1.1 c1.2
  by_cases c2 : 224 ≤ (s[i].toNat : Int) ∧ (s[i].toNat : Int) < 240
  · exact rune1_3 s i w hi hs c2.1 c2.2
  by_cases c3 : 240 ≤ (s[i].toNat : Int) ∧ (s[i].toNat : Int) < 245
  · exact rune1_4 s i w hi hs c3.1 c3.2
  have hi' : (i : Int) < (s.size : Int) := by omega
  have hc := s[i].toNat_lt
  have B0 := Lib.hid (byte_get s i hi)
  have HV := Lib.hid (fun a b n m h ha hb => rune1_val s i hi a b n m h ha hb)
  by_cases c0 : (s[i].toNat : Int) < 128
  · clear c1 c2 c3
    go_enter Tryz.func91, Tryz.ntmps91
    go_wp2
    go_ret2
    exact ⟨HV.out _ _ (byteAt s i) 1 (by have := B0.out; unfold ref1; rw [if_pos (by omega)]) (by rw [B0.out]) rfl, rfl⟩
  have hno : ref1 (s.size - i) (byteAt s i) (byteAt s (i + 1)) (byteAt s (i + 2)) (byteAt s (i + 3)) = (0, 0) := by
    have := B0.out
    unfold ref1
    rw [if_neg (by omega), if_neg (by omega), if_neg (by omega), if_neg (by omega)]
  have HN := Lib.hid hno
  clear hno
  by_cases d1 : (s[i].toNat : Int) < 194
  · clear c1 c2 c3
    go_enter Tryz.func91, Tryz.ntmps91
    go_wp2
    go_ret2
    exact ⟨HV.out _ _ 0 0 HN.out rfl rfl, rfl⟩
  · have d2 : 245 ≤ (s[i].toNat : Int) := by omega
    clear c1 c2 c3
    go_enter Tryz.func91, Tryz.ntmps91
    go_wp2
    go_ret2
    exact ⟨HV.out _ _ 0 0 HN.out rfl rfl, rfl⟩
end Go.Proofs.YtnajccljdjllgaaGreatDoor
set_option linter.unusedVariables false
set_option linter.unusedSimpArgs false
namespace Go.Proofs.YtnajccljdjllgaaGreatDoor
open Go.RowKit Go.Lib
theorem rune_lt (s : ByteArray) (i : Nat) : ((rune s i).1 : Int) ≤ 1114111 ∧ ((rune s i).2 : Int) ≤ 4 := by
  have := rune_bd s i; omega
theorem runesFrom_lt {s : ByteArray} {f i : Nat} (h : i < s.size) : runesFrom s (f + 1) i = 1 + runesFrom s f (i + (rune s i).2) := by rw [runesFrom, if_pos h]
theorem runesFrom_ge {s : ByteArray} {f i : Nat} (h : ¬ i < s.size) : runesFrom s f i = 0 := by cases f <;> simp [runesFrom, h]
/-- How many runes a text has, if all are whole. -/
def runesN (s : ByteArray) : Nat := if whole s = true then runesFrom s s.size 0 else 0
theorem runesN_no {s : ByteArray} (h : whole s = false) : runesN s = 0 := by simp [runesN, h]
theorem runesN_yes {s : ByteArray} (h : whole s = true) : runesN s = runesFrom s s.size 0 := by simp [runesN, h]
/-- What Runes' loop has reckoned at place i, by n runes, f more at most. -/
def RunesInv (s : ByteArray) (f i n : Nat) : Prop := wholeFrom s f i = whole s ∧ (whole s = true → n + runesFrom s f i = runesFrom s s.size 0) ∧ s.size ≤ i + f ∧ n ≤ i
theorem runesInv_bad {s : ByteArray} {f i n : Nat} (h : RunesInv s f i n) (hi : i < s.size) (hz : (rune s i).2 = 0) : whole s = false := by
  obtain ⟨h1, _, h3, _⟩ := h
  cases f with
  | zero => omega
  | succ f => unfold wholeFrom at h1; rw [if_pos hi, if_pos hz] at h1; exact h1.symm
theorem runesInv_step {s : ByteArray} {f i n : Nat} (h : RunesInv s f i n) (hi : i < s.size) (hz : (rune s i).2 ≠ 0) : ∃ g, f = g + 1 ∧ RunesInv s g (i + (rune s i).2) (n + 1) := by
  obtain ⟨h1, h2, h3, h4⟩ := h
  cases f with
  | zero => omega
  | succ f =>
    refine ⟨f, rfl, ?_, fun hw => ?_, by omega, by omega⟩
    · unfold wholeFrom at h1; rw [if_pos hi, if_neg hz] at h1; exact h1
    · have := h2 hw; rw [runesFrom_lt hi] at this; omega
theorem runesInv_end {s : ByteArray} {f i n : Nat} (h : RunesInv s f i n) (hi : ¬ i < s.size) : whole s = true ∧ n = runesN s := by
  obtain ⟨h1, h2, h3, _⟩ := h
  have hw : whole s = true := by
    cases f with
    | zero => exact h1.symm
    | succ f => unfold wholeFrom at h1; rw [if_neg hi] at h1; exact h1.symm
  refine ⟨hw, ?_⟩
  rw [runesN_yes hw, ← h2 hw, runesFrom_ge hi, Nat.add_zero]
theorem ret_ib {a b : Int} {c d : Bool} (h : a = b) (g : c = d) : Ending.returned (.tuple #[.int .i64 a, .bool c]) = .returned (.tuple #[.int .i64 b, .bool d]) := by rw [h, g]
def FineInv (s : ByteArray) (f i : Nat) : Prop := fineFrom s f i = fineFrom s s.size 0 ∧ s.size ≤ i + f
theorem fineInv_bad {s : ByteArray} {f i : Nat} (h : FineInv s f i) (hi : i < s.size) (hz : (rune s i).2 = 0 ∨ oddN (rune s i).1 = true) : fineFrom s s.size 0 = false := by
  obtain ⟨h1, h3⟩ := h
  cases f with
  | zero => omega
  | succ f => rw [fineFrom, if_pos hi, if_pos hz] at h1; exact h1.symm
theorem fineInv_step {s : ByteArray} {f i : Nat} (h : FineInv s f i) (hi : i < s.size) (hz : (rune s i).2 ≠ 0) (ho : ¬ oddN (rune s i).1 = true) : ∃ g, f = g + 1 ∧ FineInv s g (i + (rune s i).2) := by
  obtain ⟨h1, h3⟩ := h
  cases f with
  | zero => omega
  | succ f =>
    refine ⟨f, rfl, ?_, by omega⟩
    rw [fineFrom, if_pos hi, if_neg (by rintro (h | h); exact hz h; exact ho h)] at h1; exact h1
theorem fineInv_end {s : ByteArray} {f i : Nat} (h : FineInv s f i) (hi : ¬ i < s.size) : fineFrom s s.size 0 = true := by
  rw [← h.1]; cases f <;> simp [fineFrom, hi]
theorem odd_of {x : Nat} (h : x < 32 ∨ (127 ≤ x ∧ x < 160) ∨ x = 47) : oddN x = true := by unfold oddN; simp; omega
theorem odd_not {x : Nat} (h1 : ¬ x < 32) (h2 : ¬ (127 ≤ x ∧ x < 160)) (h3 : x ≠ 47) : ¬ oddN x = true := by unfold oddN; simp; omega
theorem may_bad {s : ByteArray} (h : s.size < 1 ∨ 20 < s.size ∨ byteAt s 0 = 32 ∨ byteAt s (s.size - 1) = 32 ∨ fineFrom s s.size 0 = false) : mayB s = false := by
  unfold mayB
  rw [Bool.eq_false_iff]
  simp
  intro a b c d
  rcases h with h | h | h | h | h
  · omega
  · omega
  · exact absurd h d
  · exact h
  · rw [h] at c; exact absurd c (by simp)
theorem may_good {s : ByteArray} (h0 : 1 ≤ s.size) (h1 : s.size ≤ 20) (h2 : byteAt s 0 ≠ 32) (h3 : byteAt s (s.size - 1) ≠ 32) (h4 : fineFrom s s.size 0 = true) : mayB s = true := by
  unfold mayB; simp [h0, h1, h2, h3, h4]
set_option maxRecDepth 100000 in
set_option maxHeartbeats 2000000 in
theorem ref_may (s : ByteArray) (w : World) (hs : s.size ≤ 1000000000) :
    Calls Tryz.prog 74 #[.string s] w fun e w' => e = .returned (.bool (mayB s)) ∧ w = w' := by
  by_cases c1 : (s.size : Int) < 1
  · have HB := Lib.hid (may_bad (s := s) (.inl (by omega)))
    go_enter Tryz.func74, Tryz.ntmps74
    go_wp2
    go_ret
    exact ⟨ret_bool HB.out.symm, rfl⟩
  by_cases c2 : (20 : Int) < s.size
  · have HB := Lib.hid (may_bad (s := s) (.inr (.inl (by omega))))
    go_enter Tryz.func74, Tryz.ntmps74
    go_wp2
    go_ret
    exact ⟨ret_bool HB.out.symm, rfl⟩
  have h0 : 0 < s.size := by omega
  have h0' : (0 : Int) < s.size := by omega
  have hl : s.size - 1 < s.size := by omega
  have B0 := Lib.hid (byte_get s 0 h0)
  have B1 := Lib.hid (byte_get s (s.size - 1) hl)
  by_cases c3 : (s[0].toNat : Int) = 32
  · have HB := Lib.hid (may_bad (s := s) (.inr (.inr (.inl (by rw [← B0.out]; omega)))))
    have c3' : ((s[0].toNat : Int) == 32) = true := by rw [beq_iff_eq]; exact c3
    go_enter Tryz.func74, Tryz.ntmps74
    go_wp2
    go_ret
    exact ⟨ret_bool HB.out.symm, rfl⟩
  have c3' : ((s[0].toNat : Int) == 32) = false := by rw [beq_eq_false_iff_ne]; exact c3
  by_cases c4 : (s[s.size - 1].toNat : Int) = 32
  · have HB := Lib.hid (may_bad (s := s) (.inr (.inr (.inr (.inl (by rw [← B1.out]; omega))))))
    have c4' : ((s[s.size - 1].toNat : Int) == 32) = true := by rw [beq_iff_eq]; exact c4
    go_enter Tryz.func74, Tryz.ntmps74
    go_wp2
    go_ret
    exact ⟨ret_bool HB.out.symm, rfl⟩
  have c4' : ((s[s.size - 1].toNat : Int) == 32) = false := by rw [beq_eq_false_iff_ne]; exact c4
  have HF := Lib.hid (fun h => may_bad (s := s) (.inr (.inr (.inr (.inr h)))))
  have HT := Lib.hid (fun h => may_good (s := s) (by omega) (by omega) (by rw [← B0.out]; omega) (by rw [← B1.out]; omega) h)
  go_enter Tryz.func74, Tryz.ntmps74
  go_wp2
  clear c3 c3' c4 c4'
  go_loopg [3, 4, 5] s.size (fun gk i3 r4 k5 wx => wx = w ∧ ∃ i : Nat, i3 = .int .i64 i ∧ FineInv s gk i ∧ i ≤ s.size + 4)
  case atStart => exact ⟨rfl, 0, rfl, ⟨rfl, by omega⟩, by omega⟩
  case round =>
    obtain ⟨rfl, i, rfl, hI, hi4⟩ := hrel
    have HI := Lib.hid hI
    clear hI
    by_cases hlt : i < s.size
    · have hlt' : (i : Int) < s.size := by omega
      obtain ⟨hr1, hr2⟩ := rune_lt s i
      have c1 := rune1_any s i
      by_cases hbad : (rune s i).2 = 0 ∨ oddN (rune s i).1 = true
      · have HW := Lib.hid (HF.out (fineInv_bad HI.out hlt hbad))
        have hb2 : (rune s i).2 = 0 ∨ ((rune s i).1 < 32 ∨ (127 ≤ (rune s i).1 ∧ (rune s i).1 < 160) ∨ (rune s i).1 = 47) := by
          rcases hbad with h | h
          · exact .inl h
          · unfold oddN at h; simp at h; omega
        clear hbad
        generalize (rune s i).1 = x at *
        generalize (rune s i).2 = y at *
        by_cases z1 : ((y : Int) == 0) = true
        · have hb2 : True := trivial
          go_wp2_with (go_at_call 91; refine (c1 _ hlt (by omega)).mono ?_; rintro e w1 ⟨rfl, rfl⟩)
          go_ret
          exact ⟨ret_bool (by rw [HW.out]), rfl⟩
        have z1' : ((y : Int) == 0) = false := by simpa using z1
        by_cases z2 : (x : Int) < 32
        · have hb2 : True := trivial
          go_wp2_with (go_at_call 91; refine (c1 _ hlt (by omega)).mono ?_; rintro e w1 ⟨rfl, rfl⟩)
          go_ret
          exact ⟨ret_bool (by rw [HW.out]), rfl⟩
        by_cases z3 : 127 ≤ (x : Int)
        · by_cases z4 : (x : Int) < 160
          · have hb2 : True := trivial
            go_wp2_with (go_at_call 91; refine (c1 _ hlt (by omega)).mono ?_; rintro e w1 ⟨rfl, rfl⟩)
            go_ret
            exact ⟨ret_bool (by rw [HW.out]), rfl⟩
          · have z5 : ((x : Int) == 47) = true := by rw [beq_iff_eq]; have : y ≠ 0 := by (intro h; subst h; simp at z1)
                                                     omega
            have hb2 : True := trivial
            go_wp2_with (go_at_call 91; refine (c1 _ hlt (by omega)).mono ?_; rintro e w1 ⟨rfl, rfl⟩)
            go_ret
            exact ⟨ret_bool (by rw [HW.out]), rfl⟩
        · have z5 : ((x : Int) == 47) = true := by rw [beq_iff_eq]; have : y ≠ 0 := by (intro h; subst h; simp at z1)
                                                   omega
          have hb2 : True := trivial
          go_wp2_with (go_at_call 91; refine (c1 _ hlt (by omega)).mono ?_; rintro e w1 ⟨rfl, rfl⟩)
          go_ret
          exact ⟨ret_bool (by rw [HW.out]), rfl⟩
      · have hz : (rune s i).2 ≠ 0 := fun h => hbad (.inl h)
        have ho : ¬ oddN (rune s i).1 = true := fun h => hbad (.inr h)
        clear hbad
        obtain ⟨g, rfl, hI2⟩ := fineInv_step HI.out hlt hz ho
        have HI2 := Lib.hid hI2
        clear hI2 HI
        generalize (rune s i).1 = x at *
        generalize (rune s i).2 = y at *
        have hb2 : ¬ x < 32 ∧ ¬ (127 ≤ x ∧ x < 160) ∧ x ≠ 47 := by unfold oddN at ho; simp at ho; omega
        clear ho
        have z1 : ((y : Int) == 0) = false := by rw [beq_eq_false_iff_ne]; omega
        have z2 : ¬ (x : Int) < 32 := by omega
        have z5 : ((x : Int) == 47) = false := by rw [beq_eq_false_iff_ne]; omega
        by_cases z3 : 127 ≤ (x : Int)
        · have z4 : ¬ (x : Int) < 160 := by omega
          have hb2 : True := trivial
          go_wp2_with (go_at_call 91; refine (c1 _ hlt (by omega)).mono ?_; rintro e w1 ⟨rfl, rfl⟩)
          go_roundg g
          case measure => omega
          case rel => exact ⟨rfl, i + y, by go_num, HI2.out, by omega⟩
        · have hb2 : True := trivial
          go_wp2_with (go_at_call 91; refine (c1 _ hlt (by omega)).mono ?_; rintro e w1 ⟨rfl, rfl⟩)
          go_roundg g
          case measure => omega
          case rel => exact ⟨rfl, i + y, by go_num, HI2.out, by omega⟩
    · have hlt' : ¬ (i : Int) < s.size := by omega
      have HW := Lib.hid (HT.out (fineInv_end HI.out hlt))
      go_wp2
      go_ret
      exact ⟨ret_bool HW.out.symm, rfl⟩
end Go.Proofs.YtnajccljdjllgaaGreatDoor
set_option linter.unusedVariables false
set_option linter.unusedSimpArgs false
namespace Go.Proofs.YtnajccljdjllgaaGreatDoor
open Go.RowKit Go.Lib
set_option maxRecDepth 100000 in
set_option maxHeartbeats 1000000 in
theorem refBook_any (s : Shelf) (bv nv : Value) (n : Int) (w : World) (h : ShelfR w s bv nv) (hz : s.books.length ≤ 1000000) :
    Calls Tryz.prog 52 #[shelfV s bv nv, .int .i64 n] w fun e w' => e = .returned (.int .i64 (idx (fun b => b.id == n) s.books)) ∧ Grow w w' := by
  obtain ⟨a1, c1, rfl⟩ := h.1.mk
  obtain ⟨a2, c2, rfl⟩ := h.2.mk
  have HH := Lib.hid h
  clear h
  unfold shelfV
  go_enter Tryz.func52, Tryz.ntmps52
  go_upto_region 1 with (fail)
  generalize hV : w.alloc (.cells #[.int .i64 s.nb, .int .i64 s.nn, .int .i64 s.ns, .slice a1 s.books.length c1, .slice a2 s.notes.length c2] 25) = V
  have gV : Grow w V := by rw [← hV]; exact (Grow.refl w).alloc _
  have q3 : V.cell? ⟨w.heap.size, 3, none⟩ = some (.slice a1 s.books.length c1) := by rw [← hV]; simp [go_sem]
  clear hV
  go_wp2_with fail
  go_loop [5] (fun v5 => ∃ j : Nat, v5 = .int .i64 j ∧ j ≤ s.books.length ∧ ∀ (k : Nat) x, k < j → s.books[k]? = some x → (x.id == n) = false) (fun v5 => s.books.length - (intOf v5).toNat)
  case atStart => exact ⟨0, rfl, by omega, fun k x h => absurd h (by omega)⟩
  case round =>
    obtain ⟨j, rfl, hj, hall⟩ := hrel
    have HA := Lib.hid hall
    clear hall
    by_cases hlt : j < s.books.length
    · have hlt' : (j : Int) < s.books.length := by omega
      obtain ⟨x, hx, -⟩ := lt_get hlt
      obtain ⟨bb, off, rfl, hbb, p0, p1⟩ := (HH.out.1.grow gV).at hx
      have HX := Lib.hid hx
      clear hx
      cases hp : (x.id == n)
      · have HP := Lib.hid hp
        go_wp2_with fail
        go_round
        case rel => exact ⟨j + 1, by go_num, by omega, fun k y hk hy => by
          rcases (by omega : k < j ∨ k = j) with h3 | rfl
          · exact HA.out k y h3 hy
          · rw [HX.out] at hy; injection hy with hy; rw [← hy]; exact HP.out⟩
        case measure => simp [intOf]; omega
      · have HR := Lib.hid (idx_some (p := fun b : Book => b.id == n) HX.out hp HA.out)
        go_wp2_with fail
        go_ret
        exact ⟨ret_int HR.out.symm, gV⟩
    · have HR := Lib.hid (idx_none (p := fun b : Book => b.id == n) (l := s.books) (fun k x hx => HA.out k x (by have := (List.getElem?_eq_some_iff.1 hx).1; omega) hx))
      have hlt' : ¬ (j : Int) < s.books.length := by omega
      go_wp2_with fail
      go_ret
      exact ⟨ret_int HR.out.symm, gV⟩
theorem bytesLeq : ∀ (x z : List UInt8), (Op.bytesLess x z || (x == z)) = !Op.bytesLess z x
  | [], [] => rfl
  | [], _ :: _ => rfl
  | _ :: _, [] => rfl
  | a :: x, b :: z => by
    have ih := bytesLeq x z
    unfold Op.bytesLess
    rcases Nat.lt_trichotomy a.toNat b.toNat with h | h | h
    · have h1 : a < b := h
      have h2 : ¬ b < a := by show ¬ b.toNat < a.toNat; omega
      have h3 : (b == a) = false := by rw [beq_eq_false_iff_ne]; rintro rfl; exact absurd h (Nat.lt_irrefl _)
      simp [h1, h2, h3]
    · obtain rfl : a = b := UInt8.toNat_inj.1 h
      have h2 : ¬ a < a := by show ¬ a.toNat < a.toNat; omega
      simp [h2, ih]
    · have h1 : b < a := h
      have h2 : ¬ a < b := by show ¬ a.toNat < b.toNat; omega
      have h3 : (a == b) = false := by rw [beq_eq_false_iff_ne]; rintro rfl; exact absurd h (Nat.lt_irrefl _)
      simp [h1, h2, h3]
theorem leqS (x z : ByteArray) {b : Bool} (h : ltS z x = b) (W : World) : (binOp .leq 9 (.string x) (.string z)).run Tryz.prog W = .ok (.bool (!b)) W := by
  have e : (Op.bytesLess x.toList z.toList || (x.toList == z.toList)) = !b := by rw [bytesLeq, ← h]; rfl
  simp [binOp, Op.stringOp, e, Sem.run_pure]
set_option maxRecDepth 100000 in
set_option maxHeartbeats 2000000 in
theorem refTags_any (v : Value) (l : List ByteArray) (w : World) (h : Texts w v l) (hz : l.length ≤ 1000000) (hs : ∀ t ∈ l, t.size ≤ 1000000) :
    Calls Tryz.prog 75 #[v] w fun e w' => e = .returned (.bool (tagsB l)) ∧ Grow w w' := by
  obtain ⟨a, c, rfl⟩ := h.mk
  go_enter Tryz.func75, Tryz.ntmps75
  go_wp2_with fail
  by_cases h4 : l.length ≤ 4
  · have h4' : (l.length : Int) ≤ 4 := by omega
    go_loopw [3] (fun v3 wx => Grow w wx ∧ ∃ i : Nat, v3 = .int .i64 i ∧ i ≤ l.length ∧ ∀ (j : Nat), j < i → tagOk l j = true) (fun v3 _ => l.length - (intOf v3).toNat)
    case atStart => exact ⟨Grow.refl _, 0, rfl, by omega, fun j h => absurd h (by omega)⟩
    case round =>
      obtain ⟨hg, i, rfl, hi, hall⟩ := hrel
      have HA := Lib.hid hall
      clear hall
      by_cases hlt : i < l.length
      · have hlt' : (i : Int) < l.length := by omega
        obtain ⟨x, hx, -⟩ := lt_get hlt
        have HG := h.grow hg
        obtain ⟨b, off, rfl, hb, hc⟩ := HG.at hx
        have cM := fun W => ref_may x W (by have := hs x (List.mem_of_getElem? hx); omega)
        have HX := Lib.hid (getD_of (d := ⟨#[]⟩) hx)
        have ho : ((i : Int) ≤ 0 ∧ i = 0) ∨ ((0 : Int) < i ∧ ∃ z : ByteArray, l.getD (i - 1) ⟨#[]⟩ = z ∧ wr.cell? ⟨b, off + (i - 1), none⟩ = some (.string z)) := by
          rcases Nat.eq_zero_or_pos i with h0 | h0
          · exact .inl ⟨by omega, h0⟩
          · obtain ⟨z, hzz, -⟩ := lt_get (l := l) (i := i - 1) (by omega)
            obtain ⟨b', off', e', hb', k0⟩ := HG.at hzz
            injection e' with e'
            injection e' with e1 e2
            subst e1 e2
            exact .inr ⟨by omega, z, getD_of hzz, k0⟩
        clear hx h HG
        cases hm : mayB x
        · rw [hm] at cM
          have HR := Lib.hid (show tagsB l = false by
            have : tagOk l i = false := by unfold tagOk; rw [HX.out, hm]; rfl
            unfold tagsB; rw [allTo_no hlt this]; rfl)
          clear hm ho
          go_upto_region 4 with (fail)
          refine wp_region_gr (by kernel_rfl) (by kernel_rfl) ?_
          repeat (go_big_quiet_step (first | (go_at_call 74; exact Calls.gr_same (cM _))))
          refine wpQuiet_nil ?_
          rintro _ ⟨y, rfl⟩
          go_wp2_with fail
          go_ret
          exact ⟨ret_bool HR.out.symm, hg.trans y.g⟩
        · rw [hm] at cM
          rcases ho with ⟨h0, h00⟩ | ⟨h0, z, hzz, k0⟩
          · have hd : decide (0 < i) = false := decide_eq_false (by omega)
            have hd' : decide ((0 : Int) < i) = false := decide_eq_false (by omega)
            have HO := Lib.hid (show tagOk l i = true by unfold tagOk; rw [HX.out, hm, h00]; rfl)
            clear hm h00 h0
            go_upto_region 4 with (fail)
            refine wp_region_gr (by kernel_rfl) (by kernel_rfl) ?_
            repeat (go_big_quiet_step (first | (go_at_call 74; exact Calls.gr_same (cM _))))
            refine wpQuiet_nil ?_
            rintro _ ⟨y, rfl⟩
            go_wp2_with fail
            go_roundw
            case rel => exact ⟨hg.trans y.g, i + 1, by go_num, by omega, fun j hj => by
              rcases (by omega : j < i ∨ j = i) with h3 | rfl
              · exact HA.out j h3
              · exact HO.out⟩
            case measure => simp [intOf]; omega
          · have hd : decide (0 < i) = true := decide_eq_true (by omega)
            have hd' : decide ((0 : Int) < i) = true := decide_eq_true h0
            have hi0 : IntKind.i64.wrap ((i : Int) - 1) = (i : Int) - 1 := IntWalk.i64_in _ (by omega)
            have hi1 : (0 : Int) ≤ (i : Int) - 1 := by omega
            have hi2 : (i : Int) - 1 < l.length := by omega
            have hi3 : ((i : Int) - 1).toNat = i - 1 := by omega
            cases hl : ltS z x
            · have HR := Lib.hid (show tagsB l = false by
                have : tagOk l i = false := by
                  unfold tagOk; rw [HX.out, hzz, hm, hl, show (i == 0) = false by rw [beq_eq_false_iff_ne]; omega]; rfl
                unfold tagsB; rw [allTo_no hlt this]; rfl)
              have hq := bytesLeq x.toList z.toList
              rw [show Op.bytesLess z.toList x.toList = false from hl, Bool.not_false] at hq
              clear hm hl hzz
              cases hl1 : Op.bytesLess x.toList z.toList
              · rw [hl1, Bool.false_or] at hq
                go_upto_region 4 with (fail)
                refine wp_region_gr (by kernel_rfl) (by kernel_rfl) ?_
                repeat (go_big_quiet_step (first | (go_at_call 74; exact Calls.gr_same (cM _))))
                refine wpQuiet_nil ?_
                rintro _ ⟨y, rfl⟩
                clear hi0 hi1 hi2 hi3 k0
                go_wp2_with fail
                go_ret
                exact ⟨ret_bool HR.out.symm, hg.trans y.g⟩
              · clear hq
                go_upto_region 4 with (fail)
                refine wp_region_gr (by kernel_rfl) (by kernel_rfl) ?_
                repeat (go_big_quiet_step (first | (go_at_call 74; exact Calls.gr_same (cM _))))
                refine wpQuiet_nil ?_
                rintro _ ⟨y, rfl⟩
                clear hi0 hi1 hi2 hi3 k0
                go_wp2_with fail
                go_ret
                exact ⟨ret_bool HR.out.symm, hg.trans y.g⟩
            · have HO := Lib.hid (show tagOk l i = true by unfold tagOk; rw [HX.out, hzz, hm, hl]; simp)
              have hq := bytesLeq x.toList z.toList
              rw [show Op.bytesLess z.toList x.toList = true from hl, Bool.not_true, Bool.or_eq_false_iff] at hq
              obtain ⟨hq1, hq2⟩ := hq
              clear hm hl hzz
              go_upto_region 4 with (fail)
              refine wp_region_gr (by kernel_rfl) (by kernel_rfl) ?_
              repeat (go_big_quiet_step (first | (go_at_call 74; exact Calls.gr_same (cM _))))
              refine wpQuiet_nil ?_
              rintro _ ⟨y, rfl⟩
              clear hi0 hi1 hi2 hi3 k0
              go_wp2_with fail
              go_roundw
              case rel => exact ⟨hg.trans y.g, i + 1, by go_num, by omega, fun j hj => by
                rcases (by omega : j < i ∨ j = i) with h3 | rfl
                · exact HA.out j h3
                · exact HO.out⟩
              case measure => simp [intOf]; omega
      · have HO := Lib.hid (show tagsB l = true by unfold tagsB; rw [allTo_yes (fun j hj => HA.out j (by omega)), decide_eq_true h4]; rfl)
        have hlt' : ¬ (i : Int) < l.length := by omega
        clear h
        go_wp2_with fail
        go_ret
        exact ⟨ret_bool (by rw [HO.out]), hg⟩
  · have h4' : ¬ (l.length : Int) ≤ 4 := by omega
    have HO := Lib.hid (show tagsB l = false by unfold tagsB; rw [decide_eq_false h4]; simp)
    clear h
    go_loop [3] (fun v3 => v3 = .int .i64 0) (fun _ => 0)
    case atStart => rfl
    case round =>
      subst hrel
      have h0 : (0 : Int) < l.length := by omega
      go_wp2_with fail
      go_ret
      exact ⟨ret_bool (by rw [HO.out]), Grow.refl _⟩
end Go.Proofs.YtnajccljdjllgaaGreatDoor
set_option linter.unusedVariables false
set_option linter.unusedSimpArgs false
namespace Go.Proofs.YtnajccljdjllgaaGreatDoor
open Go.RowKit Go.Lib
def bookHead (s : Shelf) (i : Nat) : Bool :=
  (decide (1 ≤ (bookAt s i).id) && decide ((bookAt s i).id ≤ s.nb - 1)) && (i == 0 || decide ((bookAt s (i - 1)).id < (bookAt s i).id)) && mayB (bookAt s i).name
theorem bookOk_head (s : Shelf) (i : Nat) : bookOk s i = (bookHead s i && decide (idx (fun b => b.name.toList == (bookAt s i).name.toList) (s.books.take i) < 0)) := rfl
theorem ridx_neg {α : Type} {p : α → Bool} : ∀ {l : List α}, idx p l < 0 → ∀ x ∈ l, p x = false
  | [], _, x, hx => by cases hx
  | y :: l, h, x, hx => by
    unfold idx at h
    split at h
    · omega
    · rename_i hp
      split at h
      · rename_i hq
        rcases List.mem_cons.1 hx with rfl | hx
        · simpa using hp
        · exact ridx_neg (l := l) (by omega) x hx
      · have := idx_bd p l; omega
def refBooksB (s : Shelf) : Bool := decide (s.books.length ≤ 6) && (decide (1 ≤ s.nb) && decide (s.nb ≤ 65536)) && allTo s.books.length (bookOk s)
set_option maxRecDepth 100000 in
set_option maxHeartbeats 4000000 in
theorem refBooks_any (s : Shelf) (bv nv : Value) (w : World) (h : ShelfR w s bv nv) (hz : TameS s) :
    Calls Tryz.prog 45 #[shelfV s bv nv] w fun e w' => e = .returned (.bool (refBooksB s)) ∧ Grow w w' := by
  obtain ⟨a1, c1, rfl⟩ := h.1.mk
  obtain ⟨a2, c2, rfl⟩ := h.2.mk
  have HH := Lib.hid h
  have HZ := Lib.hid hz
  have hlc1 : s.books.length ≤ c1 := h.1.len.2
  clear h hz
  unfold shelfV
  go_enter Tryz.func45, Tryz.ntmps45
  go_upto_region 1 with (fail)
  generalize hV : w.alloc (.cells #[.int .i64 s.nb, .int .i64 s.nn, .int .i64 s.ns, .slice a1 s.books.length c1, .slice a2 s.notes.length c2] 25) = V
  have gV : Grow w V := by rw [← hV]; exact (Grow.refl w).alloc _
  have hsz : w.heap.size < V.heap.size := by rw [← hV]; simp
  have Q : V.cell? ⟨w.heap.size, 0, none⟩ = some (.int .i64 s.nb) ∧ V.cell? ⟨w.heap.size, 3, none⟩ = some (.slice a1 s.books.length c1) := by rw [← hV]; simp [go_sem]
  obtain ⟨q0, q3⟩ := Q
  clear hV
  by_cases e1 : s.books.length ≤ 6
  case neg =>
    have e1' : (6 : Int) < s.books.length := by omega
    have HN := Lib.hid (show refBooksB s = false by unfold refBooksB; rw [decide_eq_false e1]; rfl)
    go_wp2_with fail
    go_ret
    exact ⟨ret_bool HN.out.symm, gV⟩
  have e1' : ¬ (6 : Int) < s.books.length := by omega
  by_cases e2 : 1 ≤ s.nb
  case neg =>
    have e2' : s.nb < 1 := by omega
    have HN := Lib.hid (show refBooksB s = false by unfold refBooksB; rw [decide_eq_false e2]; simp)
    go_wp2_with fail
    go_ret
    exact ⟨ret_bool HN.out.symm, gV⟩
  have e2' : ¬ s.nb < 1 := by omega
  by_cases e3 : s.nb ≤ 65536
  case neg =>
    have e3' : 65536 < s.nb := by omega
    have HN := Lib.hid (show refBooksB s = false by unfold refBooksB; rw [decide_eq_false e3]; simp)
    go_wp2_with fail
    go_ret
    exact ⟨ret_bool HN.out.symm, gV⟩
  have e3' : ¬ 65536 < s.nb := by omega
  have HP := Lib.hid (show refBooksB s = allTo s.books.length (bookOk s) by unfold refBooksB; rw [decide_eq_true e1, decide_eq_true e2, decide_eq_true e3]; rfl)
  go_wp2_with fail
  go_loopw [3] (fun v3 wx => Grow V wx ∧ ∃ j : Nat, v3 = .int .i64 j ∧ j ≤ s.books.length ∧ ∀ k, k < j → bookOk s k = true) (fun v3 _ => s.books.length - (intOf v3).toNat)
  case atStart => exact ⟨Grow.refl _, 0, rfl, by omega, fun k h => absurd h (by omega)⟩
  case round =>
    obtain ⟨hgr, j, rfl, hj, hall⟩ := hrel
    have HA := Lib.hid hall
    clear hall
    have gw := gV.trans hgr
    replace q0 := (hgr.cells _ _ hsz).trans q0
    replace q3 := (hgr.cells _ _ hsz).trans q3
    have hsr : w.heap.size < wr.heap.size := by have := hgr.size; omega
    by_cases hlt : j < s.books.length
    case neg =>
      have hlt' : ¬ (j : Int) < s.books.length := by omega
      have HR := Lib.hid (show refBooksB s = true by rw [HP.out]; exact allTo_yes (fun k hk => HA.out k (by omega)))
      go_wp2_with fail
      go_ret
      exact ⟨ret_bool HR.out.symm, gw⟩
    have hlt' : (j : Int) < s.books.length := by omega
    obtain ⟨x, hx, -⟩ := lt_get hlt
    have HR := HH.out.1.grow gw
    obtain ⟨bb, off, rfl, hbb, p0, p1⟩ := HR.at hx
    have ho : ((j : Int) ≤ 0 ∧ j = 0) ∨ ((0 : Int) < j ∧ ∃ z : Book, bookAt s (j - 1) = z ∧ wr.cell? ⟨bb, off + (j - 1) * 2, none⟩ = some (.int .i64 z.id)) := by
      rcases Nat.eq_zero_or_pos j with h0 | h0
      · exact .inl ⟨by omega, h0⟩
      · obtain ⟨z, hz, -⟩ := lt_get (l := s.books) (i := j - 1) (by omega)
        obtain ⟨b', off', e', hb', k0, -⟩ := HR.at hz
        injection e' with e'
        injection e' with e1 e2
        subst e1 e2
        exact .inr ⟨by omega, z, getD_of hz, k0⟩
    have hns := HZ.out.1.book hx
    have HX := Lib.hid (getD_of (d := (default : Book)) hx)
    clear hx HR
    go_upto_region 7 with (fail)
    generalize hU : wr.alloc (.cells #[.int .i64 x.id, .string x.name] 58) = U
    have gU : Grow wr U := by rw [← hU]; exact (Grow.refl wr).alloc _
    have hszU : wr.heap.size < U.heap.size := by rw [← hU]; simp
    have QU : U.cell? ⟨wr.heap.size, 0, none⟩ = some (.int .i64 x.id) ∧ U.cell? ⟨wr.heap.size, 1, none⟩ = some (.string x.name) := by rw [← hU]; simp [go_sem]
    obtain ⟨r0, r1⟩ := QU
    clear hU p0 p1
    have u0 := (gU.cells _ 0 hsr).trans q0
    have u3 := (gU.cells _ 3 hsr).trans q3
    have hbU : bb < U.heap.size := by omega
    have hsU : w.heap.size < U.heap.size := by omega
    replace ho : ((j : Int) ≤ 0 ∧ j = 0) ∨ ((0 : Int) < j ∧ ∃ z : Book, bookAt s (j - 1) = z ∧ U.cell? ⟨bb, off + (j - 1) * 2, none⟩ = some (.int .i64 z.id)) := by
      rcases ho with h0 | ⟨h0, z, h1, h2⟩
      · exact .inl h0
      · exact .inr ⟨h0, z, h1, (gU.cells _ _ hbb).trans h2⟩
    have cM := fun W => ref_may x.name W (by omega)
    have HD := Lib.hid (show bookHead s j = ((decide (1 ≤ x.id) && decide (x.id ≤ s.nb - 1)) && (j == 0 || decide ((bookAt s (j - 1)).id < x.id)) && mayB x.name) by unfold bookHead bookAt; rw [HX.out])
    clear q0 q3
    go_cut [63] (fun v63 wc => v63 = .bool (!bookHead s j) ∧ Grow U wc)
    case first =>
      have H' := HD.out
      clear HD HA HH HZ HP hgr gw HX gU hns
      by_cases f1 : 1 ≤ x.id
      case neg =>
        have HN := Lib.hid (show bookHead s j = false by rw [H', decide_eq_false f1]; rfl)
        have f1' : decide (x.id < 1) = true := decide_eq_true (by omega)
        clear H' f1 cM
        refine wp_region_gr (by kernel_rfl) (by kernel_rfl) ?_
        repeat (go_big_quiet_step (first | (go_at_call 74; exact Calls.gr_same (cM _))))
        refine wpQuiet_nil ?_
        rintro _ ⟨y, rfl⟩
        go_wp2_with fail
        go_meet
        exact ⟨by rw [HN.out]; rfl, y.g⟩
      have f1' : decide (x.id < 1) = false := decide_eq_false (by omega)
      by_cases f2 : x.id ≤ s.nb - 1
      case neg =>
        have HN := Lib.hid (show bookHead s j = false by rw [H', decide_eq_false f2]; simp)
        have f2' : decide (s.nb ≤ x.id) = true := decide_eq_true (by omega)
        clear H' f1 f2 cM
        refine wp_region_gr (by kernel_rfl) (by kernel_rfl) ?_
        repeat (go_big_quiet_step (first | (go_at_call 74; exact Calls.gr_same (cM _))))
        refine wpQuiet_nil ?_
        rintro _ ⟨y, rfl⟩
        go_wp2_with fail
        go_meet
        exact ⟨by rw [HN.out]; rfl, y.g⟩
      have f2' : decide (s.nb ≤ x.id) = false := decide_eq_false (by omega)
      rw [decide_eq_true f1, decide_eq_true f2] at H'
      clear f1 f2
      by_cases hord : (0 : Int) < j ∧ x.id ≤ (bookAt s (j - 1)).id
      · obtain ⟨i0, hord⟩ := hord
        rcases ho with ⟨h0, -⟩ | ⟨h0, z, hz, k0⟩
        · omega
        rw [hz] at hord H'
        have HN := Lib.hid (show bookHead s j = false by
          rw [H', decide_eq_false (show ¬ z.id < x.id by omega), show (j == 0) = false by rw [beq_eq_false_iff_ne]; omega]; rfl)
        clear H' hz cM
        have hd : decide (0 < j) = true := decide_eq_true (by omega)
        have hd' : decide ((0 : Int) < j) = true := decide_eq_true h0
        have hi0 : IntKind.i64.wrap ((j : Int) - 1) = (j : Int) - 1 := IntWalk.i64_in _ (by omega)
        have hi1 : (0 : Int) ≤ (j : Int) - 1 := by omega
        have hi2 : (j : Int) - 1 < s.books.length := by omega
        have hd8 : decide (x.id ≤ z.id) = true := decide_eq_true hord
        have hi3 : ((j : Int) - 1).toNat = j - 1 := by omega
        refine wp_region_gr (by kernel_rfl) (by kernel_rfl) ?_
        repeat (go_big_quiet_step (first | (go_at_call 74; exact Calls.gr_same (cM _))))
        refine wpQuiet_nil ?_
        rintro _ ⟨y, rfl⟩
        go_wp2_with fail
        go_meet
        exact ⟨by rw [HN.out]; rfl, y.g⟩
      have H2 : bookHead s j = mayB x.name := by
        rw [H', show (j == 0 || decide ((bookAt s (j - 1)).id < x.id)) = true by
          rw [Bool.or_eq_true, beq_iff_eq, decide_eq_true_eq]; omega]; simp
      clear H'
      have ho2 : ((j : Int) ≤ 0) ∨ ((0 : Int) < j ∧ ∃ z : Book, z.id < x.id ∧ U.cell? ⟨bb, off + (j - 1) * 2, none⟩ = some (.int .i64 z.id)) := by
        rcases ho with ⟨h0, -⟩ | ⟨h0, z, hz, k0⟩
        · exact .inl h0
        · exact .inr ⟨h0, z, by rw [← hz]; omega, k0⟩
      clear ho hord
      cases e3 : mayB x.name
      · have HN := Lib.hid (show bookHead s j = false by rw [H2, e3])
        rw [e3] at cM
        clear H2 e3
        rcases ho2 with h0 | ⟨h0, z, hzi, k0⟩
        · have hd : decide (0 < j) = false := decide_eq_false (by omega)
          have hd' : decide ((0 : Int) < j) = false := decide_eq_false (by omega)
          refine wp_region_gr (by kernel_rfl) (by kernel_rfl) ?_
          repeat (go_big_quiet_step (first | (go_at_call 74; exact Calls.gr_same (cM _))))
          refine wpQuiet_nil ?_
          rintro _ ⟨y, rfl⟩
          go_wp2_with fail
          go_meet
          exact ⟨by rw [HN.out]; rfl, y.g⟩
        · have hd : decide (0 < j) = true := decide_eq_true (by omega)
          have hd' : decide ((0 : Int) < j) = true := decide_eq_true h0
          have hi0 : IntKind.i64.wrap ((j : Int) - 1) = (j : Int) - 1 := IntWalk.i64_in _ (by omega)
          have hi1 : (0 : Int) ≤ (j : Int) - 1 := by omega
          have hi2 : (j : Int) - 1 < s.books.length := by omega
          have hd8 : decide (x.id ≤ z.id) = false := decide_eq_false (by omega)
          have hi3 : ((j : Int) - 1).toNat = j - 1 := by omega
          refine wp_region_gr (by kernel_rfl) (by kernel_rfl) ?_
          repeat (go_big_quiet_step (first | (go_at_call 74; exact Calls.gr_same (cM _))))
          refine wpQuiet_nil ?_
          rintro _ ⟨y, rfl⟩
          go_wp2_with fail
          go_meet
          exact ⟨by rw [HN.out]; rfl, y.g⟩
      · have HN := Lib.hid (show bookHead s j = true by rw [H2, e3])
        rw [e3] at cM
        clear H2 e3
        rcases ho2 with h0 | ⟨h0, z, hzi, k0⟩
        · have hd : decide (0 < j) = false := decide_eq_false (by omega)
          have hd' : decide ((0 : Int) < j) = false := decide_eq_false (by omega)
          refine wp_region_gr (by kernel_rfl) (by kernel_rfl) ?_
          repeat (go_big_quiet_step (first | (go_at_call 74; exact Calls.gr_same (cM _))))
          refine wpQuiet_nil ?_
          rintro _ ⟨y, rfl⟩
          go_wp2_with fail
          go_meet
          exact ⟨by rw [HN.out]; rfl, y.g⟩
        · have hd : decide (0 < j) = true := decide_eq_true (by omega)
          have hd' : decide ((0 : Int) < j) = true := decide_eq_true h0
          have hi0 : IntKind.i64.wrap ((j : Int) - 1) = (j : Int) - 1 := IntWalk.i64_in _ (by omega)
          have hi1 : (0 : Int) ≤ (j : Int) - 1 := by omega
          have hi2 : (j : Int) - 1 < s.books.length := by omega
          have hd8 : decide (x.id ≤ z.id) = false := decide_eq_false (by omega)
          have hi3 : ((j : Int) - 1).toNat = j - 1 := by omega
          refine wp_region_gr (by kernel_rfl) (by kernel_rfl) ?_
          repeat (go_big_quiet_step (first | (go_at_call 74; exact Calls.gr_same (cM _))))
          refine wpQuiet_nil ?_
          rintro _ ⟨y, rfl⟩
          go_wp2_with fail
          go_meet
          exact ⟨by rw [HN.out]; rfl, y.g⟩
    case rest =>
      obtain ⟨rfl, gc⟩ := hcut
      have gcU := gU.trans gc
      have gwc := gw.trans gcU
      clear cM HD
      cases hh : bookHead s j
      · have HN := Lib.hid (show refBooksB s = false by
          rw [HP.out]; exact allTo_no hlt (by rw [bookOk_head, hh]; rfl))
        clear hh
        go_wp2_with fail
        go_ret
        exact ⟨ret_bool HN.out.symm, gwc⟩
      have HK := Lib.hid (show bookOk s j = decide (idx (fun b => b.name.toList == x.name.toList) (s.books.take j) < 0) by rw [bookOk_head, hh, show bookAt s j = x from HX.out]; rfl)
      clear hh
      replace u3 := (gc.cells _ _ hsU).trans u3
      replace r1 := (gc.cells _ _ hszU).trans r1
      have y1 : w.heap.size < wc.heap.size := by have := gc.size; omega
      have y2 : wr.heap.size < wc.heap.size := by have := gc.size; omega
      clear u0 r0 ho hbU
      generalize hwb : wr.heap.size = wb at *
      go_wp2_with fail
      go_loopw [5] (fun v5 wx => Grow wc wx ∧ ∃ k : Nat, v5 = .int .i64 k ∧ k ≤ j ∧ ∀ (m : Nat) z, m < k → s.books[m]? = some z → (z.name.toList == x.name.toList) = false) (fun v5 _ => j - (intOf v5).toNat)
      case atStart => exact ⟨Grow.refl _, 0, rfl, by omega, fun m z h => absurd h (by omega)⟩
      case round =>
        obtain ⟨hg2, k, rfl, hk, hall2⟩ := hrel
        have HB := Lib.hid hall2
        clear hall2
        have gw2 := gwc.trans hg2
        replace u3 := (hg2.cells _ _ y1).trans u3
        replace r1 := (hg2.cells _ _ y2).trans r1
        have y3 : w.heap.size < wr.heap.size := by have := hg2.size; omega
        have y4 : wb < wr.heap.size := by have := hg2.size; omega
        by_cases hkj : k < j
        case neg =>
          have hkj' : ¬ (k : Int) < j := by omega
          have HO := Lib.hid (show bookOk s j = true by
            rw [HK.out, idx_none (fun m z hm => ?_)]
            · rfl
            · rw [List.getElem?_take] at hm
              split at hm
              · exact HB.out m z (by omega) hm
              · cases hm)
          go_wp2_with fail
          go_roundw
          case rel => exact ⟨(hgr.trans gcU).trans hg2, j + 1, by go_num, by omega, fun m hm => by
            rcases (by omega : m < j ∨ m = j) with h3 | rfl
            · exact HA.out m h3
            · exact HO.out⟩
          case measure => simp [intOf]; omega
        have hkj' : (k : Int) < j := by omega
        have hks : (k : Int) < s.books.length := by omega
        obtain ⟨z, hz, -⟩ := lt_get (l := s.books) (i := k) (by omega)
        obtain ⟨b2, off2, e', hb2, k0, k1⟩ := (HH.out.1.grow gw2).at hz
        injection e' with e'
        injection e' with e1 e2
        subst e1 e2
        have HZ2 := Lib.hid hz
        clear hz
        cases hp : (z.name.toList == x.name.toList)
        · have HQ := Lib.hid hp
          go_upto_region 12 with (fail)
          refine wp_region_gr (by kernel_rfl) (by kernel_rfl) ?_
          repeat (go_big_quiet_step (fail))
          refine wpQuiet_nil ?_
          rintro _ ⟨y, rfl⟩
          go_wp2_with fail
          go_roundw
          case rel => exact ⟨hg2.trans y.g, k + 1, by go_num, by omega, fun m z' hm hz' => by
            rcases (by omega : m < k ∨ m = k) with h3 | rfl
            · exact HB.out m z' h3 hz'
            · rw [HZ2.out] at hz'; injection hz' with hz'; rw [← hz']; exact HQ.out⟩
          case measure => simp [intOf]; omega
        · have HN := Lib.hid (show refBooksB s = false by
            rw [HP.out]
            refine allTo_no hlt ?_
            rw [HK.out, decide_eq_false_iff_not]
            intro hneg
            have := ridx_neg hneg z (List.mem_of_getElem? (i := k) (by rw [List.getElem?_take, if_pos hkj]; exact HZ2.out))
            rw [hp] at this; cases this)
          go_upto_region 12 with (fail)
          refine wp_region_gr (by kernel_rfl) (by kernel_rfl) ?_
          repeat (go_big_quiet_step (fail))
          refine wpQuiet_nil ?_
          rintro _ ⟨y, rfl⟩
          go_wp2_with fail
          go_ret
          exact ⟨ret_bool HN.out.symm, gw2.trans y.g⟩
end Go.Proofs.YtnajccljdjllgaaGreatDoor
set_option linter.unusedVariables false
set_option linter.unusedSimpArgs false
namespace Go.Proofs.YtnajccljdjllgaaGreatDoor
open Go.RowKit Go.Lib
def refNotesB (s : Shelf) : Bool := decide (s.notes.length ≤ 12) && (decide (1 ≤ s.nn) && decide (s.nn ≤ 65536)) && allTo s.notes.length (noteOk s)
theorem lt_not_le {a : Nat} : decide ((8 : Int) < (a : Int)) = !decide (a ≤ 8) := by
  by_cases h : a ≤ 8
  · rw [decide_eq_true h, decide_eq_false (by omega)]; rfl
  · rw [decide_eq_false h, decide_eq_true (by omega)]; rfl
set_option maxRecDepth 100000 in
set_option maxHeartbeats 4000000 in
theorem refNotes_any (s : Shelf) (bv nv : Value) (w : World) (h : ShelfR w s bv nv) (hz : TameS s) :
    Calls Tryz.prog 46 #[shelfV s bv nv] w fun e w' => e = .returned (.bool (refNotesB s)) ∧ Grow w w' := by
  obtain ⟨a1, c1, rfl⟩ := h.1.mk
  obtain ⟨a2, c2, rfl⟩ := h.2.mk
  have HH := Lib.hid h
  have HZ := Lib.hid hz
  have hlc1 : s.notes.length ≤ c2 := h.2.len.2
  clear h hz
  unfold shelfV
  go_enter Tryz.func46, Tryz.ntmps46
  go_upto_region 1 with (fail)
  generalize hV : w.alloc (.cells #[.int .i64 s.nb, .int .i64 s.nn, .int .i64 s.ns, .slice a1 s.books.length c1, .slice a2 s.notes.length c2] 25) = V
  have gV : Grow w V := by rw [← hV]; exact (Grow.refl w).alloc _
  have hsz : w.heap.size < V.heap.size := by rw [← hV]; simp
  have Q : V.cell? ⟨w.heap.size, 0, none⟩ = some (.int .i64 s.nb) ∧ V.cell? ⟨w.heap.size, 1, none⟩ = some (.int .i64 s.nn) ∧ V.cell? ⟨w.heap.size, 2, none⟩ = some (.int .i64 s.ns) ∧ V.cell? ⟨w.heap.size, 3, none⟩ = some (.slice a1 s.books.length c1) ∧ V.cell? ⟨w.heap.size, 4, none⟩ = some (.slice a2 s.notes.length c2) := by rw [← hV]; simp [go_sem]
  obtain ⟨q0, q1, q2, q3, q4⟩ := Q
  clear hV
  by_cases e1 : s.notes.length ≤ 12
  case neg =>
    have e1' : (12 : Int) < s.notes.length := by omega
    have HN := Lib.hid (show refNotesB s = false by unfold refNotesB; rw [decide_eq_false e1]; rfl)
    go_wp2_with fail
    go_ret
    exact ⟨ret_bool HN.out.symm, gV⟩
  have e1' : ¬ (12 : Int) < s.notes.length := by omega
  by_cases e2 : 1 ≤ s.nn
  case neg =>
    have e2' : s.nn < 1 := by omega
    have HN := Lib.hid (show refNotesB s = false by unfold refNotesB; rw [decide_eq_false e2]; simp)
    go_wp2_with fail
    go_ret
    exact ⟨ret_bool HN.out.symm, gV⟩
  have e2' : ¬ s.nn < 1 := by omega
  by_cases e3 : s.nn ≤ 65536
  case neg =>
    have e3' : 65536 < s.nn := by omega
    have HN := Lib.hid (show refNotesB s = false by unfold refNotesB; rw [decide_eq_false e3]; simp)
    go_wp2_with fail
    go_ret
    exact ⟨ret_bool HN.out.symm, gV⟩
  have e3' : ¬ 65536 < s.nn := by omega
  have HP := Lib.hid (show refNotesB s = allTo s.notes.length (noteOk s) by unfold refNotesB; rw [decide_eq_true e1, decide_eq_true e2, decide_eq_true e3]; rfl)
  go_wp2_with fail
  go_loopw [3] (fun v3 wx => Grow V wx ∧ ∃ j : Nat, v3 = .int .i64 j ∧ j ≤ s.notes.length ∧ ∀ k, k < j → noteOk s k = true) (fun v3 _ => s.notes.length - (intOf v3).toNat)
  case atStart => exact ⟨Grow.refl _, 0, rfl, by omega, fun k h => absurd h (by omega)⟩
  case round =>
    obtain ⟨hgr, j, rfl, hj, hall⟩ := hrel
    have HA := Lib.hid hall
    clear hall
    have gw := gV.trans hgr
    replace q0 := (hgr.cells _ _ hsz).trans q0
    replace q1 := (hgr.cells _ _ hsz).trans q1
    replace q2 := (hgr.cells _ _ hsz).trans q2
    replace q3 := (hgr.cells _ _ hsz).trans q3
    replace q4 := (hgr.cells _ _ hsz).trans q4
    have hsr : w.heap.size < wr.heap.size := by have := hgr.size; omega
    by_cases hlt : j < s.notes.length
    case neg =>
      have hlt' : ¬ (j : Int) < s.notes.length := by omega
      have HR := Lib.hid (show refNotesB s = true by rw [HP.out]; exact allTo_yes (fun k hk => HA.out k (by omega)))
      go_wp2_with fail
      go_ret
      exact ⟨ret_bool HR.out.symm, gw⟩
    have hlt' : (j : Int) < s.notes.length := by omega
    obtain ⟨x, hx, -⟩ := lt_get hlt
    have HR := HH.out.2.grow gw
    obtain ⟨bb, off, tv, sv, rfl, hbb, p0, p1, p2, p3, p4, htv, hsv⟩ := HR.at hx
    obtain ⟨at_, ct, rfl⟩ := htv.mk
    obtain ⟨as_, cs, rfl⟩ := hsv.mk
    have ho : (0 : Int) < j → ∃ z : Note, noteAt s (j - 1) = z ∧ wr.cell? ⟨bb, off + (j - 1) * 5, none⟩ = some (.int .i64 z.id) := by
      intro h0
      obtain ⟨z, hz, -⟩ := lt_get (l := s.notes) (i := j - 1) (by omega)
      obtain ⟨b', off', _, _, e', hb', k0, -⟩ := HR.at hz
      injection e' with e'
      injection e' with e1 e2
      subst e1 e2
      exact ⟨z, getD_of hz, k0⟩
    obtain ⟨t1, t2, t3, t4, t5⟩ := HZ.out.note hx
    have HX := Lib.hid (getD_of (d := (default : Note)) hx)
    clear hx HR
    go_upto_region 7 with (fail)
    generalize hU : wr.alloc (.cells #[.int .i64 x.id, .int .i64 x.book, .string x.name, .slice at_ x.tags.length ct, .slice as_ x.sheets.length cs] 46) = U
    have gU : Grow wr U := by rw [← hU]; exact (Grow.refl wr).alloc _
    have hszU : wr.heap.size < U.heap.size := by rw [← hU]; simp
    have QU : U.cell? ⟨wr.heap.size, 0, none⟩ = some (.int .i64 x.id) ∧ U.cell? ⟨wr.heap.size, 1, none⟩ = some (.int .i64 x.book) ∧ U.cell? ⟨wr.heap.size, 2, none⟩ = some (.string x.name) ∧ U.cell? ⟨wr.heap.size, 3, none⟩ = some (.slice at_ x.tags.length ct) ∧ U.cell? ⟨wr.heap.size, 4, none⟩ = some (.slice as_ x.sheets.length cs) := by rw [← hU]; simp [go_sem]
    obtain ⟨r0, r1, r2, r3, r4⟩ := QU
    clear hU p0 p1 p2 p3 p4
    have u0 := (gU.cells _ 0 hsr).trans q0
    have u1 := (gU.cells _ 1 hsr).trans q1
    have u2 := (gU.cells _ 2 hsr).trans q2
    have u3 := (gU.cells _ 3 hsr).trans q3
    have u4 := (gU.cells _ 4 hsr).trans q4
    have hbU : bb < U.heap.size := by omega
    have hsU : w.heap.size < U.heap.size := by omega
    replace ho : (0 : Int) < j → ∃ z : Note, noteAt s (j - 1) = z ∧ U.cell? ⟨bb, off + (j - 1) * 5, none⟩ = some (.int .i64 z.id) := by
      intro h0
      obtain ⟨z, h1, h2⟩ := ho h0
      exact ⟨z, h1, (gU.cells _ _ hbb).trans h2⟩
    have cM := fun W => ref_may x.name W (by omega)
    have cB := fun y : Gr U => refBook_any s _ _ x.book y.W ((HH.out.grow (gw.trans gU)).grow y.g) HZ.out.1.1
    have cT := fun y : Gr U => refTags_any _ x.tags y.W (Texts.grow (Texts.grow htv gU) y.g) t2 t4
    unfold shelfV at cB
    have HD := Lib.hid (show noteHead s j = ((decide (1 ≤ x.id) && decide (x.id ≤ s.nn - 1)) && (j == 0 || decide ((noteAt s (j - 1)).id < x.id)) && mayB x.name && decide (0 ≤ idx (fun b => b.id == x.book) s.books) && tagsB x.tags && decide (x.sheets.length ≤ 8)) by unfold noteHead noteAt; rw [HX.out])
    clear q0 q1 q2 q3 q4
    go_cut [82] (fun v82 wc => v82 = .bool (!noteHead s j) ∧ Grow U wc)
    case first =>
      clear HA HH HZ HP hgr gw HX gU htv hsv t1 t2 t3 t4 t5
      refine wp_region_gr (by kernel_rfl) (by kernel_rfl) ?_
      repeat (go_big_quiet_step (first | (go_at_call 74; exact Calls.gr_same (cM _)) | (go_at_call 52; exact Calls.gr (cB _)) | (go_at_call 75; exact Calls.gr (cT _))))
      by_cases f1 : x.id < 1
      · rw [decide_eq_true f1]
        repeat (go_big_quiet_step (first | (go_at_call 74; exact Calls.gr_same (cM _)) | (go_at_call 52; exact Calls.gr (cB _)) | (go_at_call 75; exact Calls.gr (cT _))))
        refine wpQuiet_nil ?_
        rintro _ ⟨y, rfl⟩
        go_wp2_with fail
        go_meet
        exact ⟨by rw [HD.out, decide_eq_false (show ¬ 1 ≤ x.id by omega)]; simp, y.g⟩
      rw [decide_eq_false f1]
      repeat (go_big_quiet_step (first | (go_at_call 74; exact Calls.gr_same (cM _)) | (go_at_call 52; exact Calls.gr (cB _)) | (go_at_call 75; exact Calls.gr (cT _))))
      by_cases f2 : s.nn ≤ x.id
      · rw [decide_eq_true f2]
        repeat (go_big_quiet_step (first | (go_at_call 74; exact Calls.gr_same (cM _)) | (go_at_call 52; exact Calls.gr (cB _)) | (go_at_call 75; exact Calls.gr (cT _))))
        refine wpQuiet_nil ?_
        rintro _ ⟨y, rfl⟩
        go_wp2_with fail
        go_meet
        exact ⟨by rw [HD.out, decide_eq_false (show ¬ x.id ≤ s.nn - 1 by omega)]; simp, y.g⟩
      rw [decide_eq_false f2]
      repeat (go_big_quiet_step (first | (go_at_call 74; exact Calls.gr_same (cM _)) | (go_at_call 52; exact Calls.gr (cB _)) | (go_at_call 75; exact Calls.gr (cT _))))
      by_cases f3 : (0 : Int) < j
      · obtain ⟨z, hz, k0⟩ := ho f3
        have hi0 : IntKind.i64.wrap ((j : Int) - 1) = (j : Int) - 1 := IntWalk.i64_in _ (by omega)
        have hi1 : (0 : Int) ≤ (j : Int) - 1 := by omega
        have hi2 : (j : Int) - 1 < s.notes.length := by omega
        have hi3 : ((j : Int) - 1).toNat = j - 1 := by omega
        first | rw [decide_eq_true f3] | rw [decide_eq_true (show 0 < j by omega)]
        repeat (go_big_quiet_step (first | (go_at_call 74; exact Calls.gr_same (cM _)) | (go_at_call 52; exact Calls.gr (cB _)) | (go_at_call 75; exact Calls.gr (cT _))))
        by_cases f4 : x.id ≤ z.id
        · rw [decide_eq_true f4]
          repeat (go_big_quiet_step (first | (go_at_call 74; exact Calls.gr_same (cM _)) | (go_at_call 52; exact Calls.gr (cB _)) | (go_at_call 75; exact Calls.gr (cT _))))
          refine wpQuiet_nil ?_
          rintro _ ⟨y, rfl⟩
          go_wp2_with fail
          go_meet
          exact ⟨by rw [HD.out, hz, decide_eq_false (show ¬ z.id < x.id by omega), show (j == 0) = false by rw [beq_eq_false_iff_ne]; omega]; simp, y.g⟩
        rw [decide_eq_false f4]
        repeat (go_big_quiet_step (first | (go_at_call 74; exact Calls.gr_same (cM _)) | (go_at_call 52; exact Calls.gr (cB _)) | (go_at_call 75; exact Calls.gr (cT _))))
        cases e3 : mayB x.name
        · rw [Bool.not_false]
          repeat (go_big_quiet_step (first | (go_at_call 74; exact Calls.gr_same (cM _)) | (go_at_call 52; exact Calls.gr (cB _)) | (go_at_call 75; exact Calls.gr (cT _))))
          refine wpQuiet_nil ?_
          rintro _ ⟨y, rfl⟩
          go_wp2_with fail
          go_meet
          exact ⟨by rw [HD.out, decide_eq_true (show 1 ≤ x.id by omega), decide_eq_true (show x.id ≤ s.nn - 1 by omega), hz, decide_eq_true (show z.id < x.id by omega), Bool.or_true, e3]; simp, y.g⟩
        rw [Bool.not_true]
        repeat (go_big_quiet_step (first | (go_at_call 74; exact Calls.gr_same (cM _)) | (go_at_call 52; exact Calls.gr (cB _)) | (go_at_call 75; exact Calls.gr (cT _))))
        by_cases e4 : idx (fun b : Book => b.id == x.book) s.books < 0
        · rw [decide_eq_true e4]
          repeat (go_big_quiet_step (first | (go_at_call 74; exact Calls.gr_same (cM _)) | (go_at_call 52; exact Calls.gr (cB _)) | (go_at_call 75; exact Calls.gr (cT _))))
          refine wpQuiet_nil ?_
          rintro _ ⟨y, rfl⟩
          go_wp2_with fail
          go_meet
          exact ⟨by rw [HD.out, decide_eq_true (show 1 ≤ x.id by omega), decide_eq_true (show x.id ≤ s.nn - 1 by omega), hz, decide_eq_true (show z.id < x.id by omega), Bool.or_true, decide_eq_false (show ¬ 0 ≤ idx (fun b : Book => b.id == x.book) s.books by omega)]; simp, y.g⟩
        rw [decide_eq_false e4]
        repeat (go_big_quiet_step (first | (go_at_call 74; exact Calls.gr_same (cM _)) | (go_at_call 52; exact Calls.gr (cB _)) | (go_at_call 75; exact Calls.gr (cT _))))
        cases e5 : tagsB x.tags
        · rw [Bool.not_false]
          repeat (go_big_quiet_step (first | (go_at_call 74; exact Calls.gr_same (cM _)) | (go_at_call 52; exact Calls.gr (cB _)) | (go_at_call 75; exact Calls.gr (cT _))))
          refine wpQuiet_nil ?_
          rintro _ ⟨y, rfl⟩
          go_wp2_with fail
          go_meet
          exact ⟨by rw [HD.out, decide_eq_true (show 1 ≤ x.id by omega), decide_eq_true (show x.id ≤ s.nn - 1 by omega), hz, decide_eq_true (show z.id < x.id by omega), Bool.or_true, e5]; simp, y.g⟩
        rw [Bool.not_true]
        repeat (go_big_quiet_step (first | (go_at_call 74; exact Calls.gr_same (cM _)) | (go_at_call 52; exact Calls.gr (cB _)) | (go_at_call 75; exact Calls.gr (cT _))))
        refine wpQuiet_nil ?_
        rintro _ ⟨y, rfl⟩
        go_wp2_with fail
        go_meet
        exact ⟨by rw [HD.out, decide_eq_true (show 1 ≤ x.id by omega), decide_eq_true (show x.id ≤ s.nn - 1 by omega), hz, decide_eq_true (show z.id < x.id by omega), Bool.or_true, e3, e5, decide_eq_true (show 0 ≤ idx (fun b : Book => b.id == x.book) s.books by omega)]; simp; exact lt_not_le, y.g⟩
      first | rw [decide_eq_false f3] | rw [decide_eq_false (show ¬ 0 < j by omega)]
      repeat (go_big_quiet_step (first | (go_at_call 74; exact Calls.gr_same (cM _)) | (go_at_call 52; exact Calls.gr (cB _)) | (go_at_call 75; exact Calls.gr (cT _))))
      cases e3 : mayB x.name
      · rw [Bool.not_false]
        repeat (go_big_quiet_step (first | (go_at_call 74; exact Calls.gr_same (cM _)) | (go_at_call 52; exact Calls.gr (cB _)) | (go_at_call 75; exact Calls.gr (cT _))))
        refine wpQuiet_nil ?_
        rintro _ ⟨y, rfl⟩
        go_wp2_with fail
        go_meet
        exact ⟨by rw [HD.out, decide_eq_true (show 1 ≤ x.id by omega), decide_eq_true (show x.id ≤ s.nn - 1 by omega), show (j == 0) = true by rw [beq_iff_eq]; omega, Bool.true_or, e3]; simp, y.g⟩
      rw [Bool.not_true]
      repeat (go_big_quiet_step (first | (go_at_call 74; exact Calls.gr_same (cM _)) | (go_at_call 52; exact Calls.gr (cB _)) | (go_at_call 75; exact Calls.gr (cT _))))
      by_cases e4 : idx (fun b : Book => b.id == x.book) s.books < 0
      · rw [decide_eq_true e4]
        repeat (go_big_quiet_step (first | (go_at_call 74; exact Calls.gr_same (cM _)) | (go_at_call 52; exact Calls.gr (cB _)) | (go_at_call 75; exact Calls.gr (cT _))))
        refine wpQuiet_nil ?_
        rintro _ ⟨y, rfl⟩
        go_wp2_with fail
        go_meet
        exact ⟨by rw [HD.out, decide_eq_true (show 1 ≤ x.id by omega), decide_eq_true (show x.id ≤ s.nn - 1 by omega), show (j == 0) = true by rw [beq_iff_eq]; omega, Bool.true_or, decide_eq_false (show ¬ 0 ≤ idx (fun b : Book => b.id == x.book) s.books by omega)]; simp, y.g⟩
      rw [decide_eq_false e4]
      repeat (go_big_quiet_step (first | (go_at_call 74; exact Calls.gr_same (cM _)) | (go_at_call 52; exact Calls.gr (cB _)) | (go_at_call 75; exact Calls.gr (cT _))))
      cases e5 : tagsB x.tags
      · rw [Bool.not_false]
        repeat (go_big_quiet_step (first | (go_at_call 74; exact Calls.gr_same (cM _)) | (go_at_call 52; exact Calls.gr (cB _)) | (go_at_call 75; exact Calls.gr (cT _))))
        refine wpQuiet_nil ?_
        rintro _ ⟨y, rfl⟩
        go_wp2_with fail
        go_meet
        exact ⟨by rw [HD.out, decide_eq_true (show 1 ≤ x.id by omega), decide_eq_true (show x.id ≤ s.nn - 1 by omega), show (j == 0) = true by rw [beq_iff_eq]; omega, Bool.true_or, e5]; simp, y.g⟩
      rw [Bool.not_true]
      repeat (go_big_quiet_step (first | (go_at_call 74; exact Calls.gr_same (cM _)) | (go_at_call 52; exact Calls.gr (cB _)) | (go_at_call 75; exact Calls.gr (cT _))))
      refine wpQuiet_nil ?_
      rintro _ ⟨y, rfl⟩
      go_wp2_with fail
      go_meet
      exact ⟨by rw [HD.out, decide_eq_true (show 1 ≤ x.id by omega), decide_eq_true (show x.id ≤ s.nn - 1 by omega), show (j == 0) = true by rw [beq_iff_eq]; omega, Bool.true_or, e3, e5, decide_eq_true (show 0 ≤ idx (fun b : Book => b.id == x.book) s.books by omega)]; simp; exact lt_not_le, y.g⟩
    case rest =>
      obtain ⟨rfl, gc⟩ := hcut
      have gcU := gU.trans gc
      have gwc := gw.trans gcU
      clear cM cB cT HD
      cases hh : noteHead s j
      · have HN := Lib.hid (show refNotesB s = false by
          rw [HP.out]; exact allTo_no hlt (by unfold noteOk; rw [hh]; rfl))
        clear hh
        go_wp2_with fail
        go_ret
        exact ⟨ret_bool HN.out.symm, gwc⟩
      have HK := Lib.hid (show noteOk s j = allTo j fun k => !((noteAt s k).book == x.book && (noteAt s k).name.toList == x.name.toList) by unfold noteOk; rw [hh, Bool.true_and]; unfold noteNew; rw [show noteAt s j = x from HX.out])
      clear hh
      replace u4 := (gc.cells _ _ hsU).trans u4
      replace r1 := (gc.cells _ _ hszU).trans r1
      replace r2 := (gc.cells _ _ hszU).trans r2
      have y1 : w.heap.size < wc.heap.size := by have := gc.size; omega
      have y2 : wr.heap.size < wc.heap.size := by have := gc.size; omega
      clear u0 u1 u2 u3 r0 r3 r4 ho hbU htv hsv
      generalize hwb : wr.heap.size = wb at *
      go_wp2_with fail
      go_loopw [5] (fun v5 wx => Grow wc wx ∧ ∃ k : Nat, v5 = .int .i64 k ∧ k ≤ j ∧ ∀ m, m < k → (!((noteAt s m).book == x.book && (noteAt s m).name.toList == x.name.toList)) = true) (fun v5 _ => j - (intOf v5).toNat)
      case atStart => exact ⟨Grow.refl _, 0, rfl, by omega, fun m h => absurd h (by omega)⟩
      case round =>
        obtain ⟨hg2, k, rfl, hk, hall2⟩ := hrel
        have HB := Lib.hid hall2
        clear hall2
        have gw2 := gwc.trans hg2
        replace u4 := (hg2.cells _ _ y1).trans u4
        replace r1 := (hg2.cells _ _ y2).trans r1
        replace r2 := (hg2.cells _ _ y2).trans r2
        have y3 : w.heap.size < wr.heap.size := by have := hg2.size; omega
        have y4 : wb < wr.heap.size := by have := hg2.size; omega
        by_cases hkj : k < j
        case neg =>
          have hkj' : ¬ (k : Int) < j := by omega
          have HO := Lib.hid (show noteOk s j = true by
            rw [HK.out]; exact allTo_yes (fun m hm => HB.out m (by omega)))
          go_wp2_with fail
          go_roundw
          case rel => exact ⟨(hgr.trans gcU).trans hg2, j + 1, by go_num, by omega, fun m hm => by
            rcases (by omega : m < j ∨ m = j) with h3 | rfl
            · exact HA.out m h3
            · exact HO.out⟩
          case measure => simp [intOf]; omega
        have hkj' : (k : Int) < j := by omega
        have hks : (k : Int) < s.notes.length := by omega
        obtain ⟨z, hz, -⟩ := lt_get (l := s.notes) (i := k) (by omega)
        obtain ⟨b2, off2, _, _, e', hb2, k0, k1, k2, -⟩ := (HH.out.2.grow gw2).at hz
        injection e' with e'
        injection e' with e1 e2
        subst e1 e2
        have HZ2 := Lib.hid (getD_of (d := (default : Note)) hz)
        clear hz
        go_upto_region 12 with (fail)
        refine wp_region_gr (by kernel_rfl) (by kernel_rfl) ?_
        repeat (go_big_quiet_step (fail))
        cases hp : (z.name.toList == x.name.toList)
        · have HQ := Lib.hid (show (!((noteAt s k).book == x.book && (noteAt s k).name.toList == x.name.toList)) = true by rw [show noteAt s k = z from HZ2.out, hp]; simp)
          repeat (go_big_quiet_step (fail))
          refine wpQuiet_nil ?_
          rintro _ ⟨y, rfl⟩
          go_wp2_with fail
          go_roundw
          case rel => exact ⟨hg2.trans y.g, k + 1, by go_num, by omega, fun m hm => by
            rcases (by omega : m < k ∨ m = k) with h3 | rfl
            · exact HB.out m h3
            · exact HQ.out⟩
          case measure => simp [intOf]; omega
        repeat (go_big_quiet_step (fail))
        by_cases hq : z.book = x.book
        · have HN := Lib.hid (show refNotesB s = false by
            rw [HP.out]
            refine allTo_no hlt ?_
            rw [HK.out]
            exact allTo_no hkj (by rw [show noteAt s k = z from HZ2.out, hp, hq]; simp))
          refine wpQuiet_nil ?_
          rintro _ ⟨y, rfl⟩
          go_wp2_with fail
          go_ret
          exact ⟨ret_bool HN.out.symm, gw2.trans y.g⟩
        · have HQ := Lib.hid (show (!((noteAt s k).book == x.book && (noteAt s k).name.toList == x.name.toList)) = true by rw [show noteAt s k = z from HZ2.out, hp, show (z.book == x.book) = false by rw [beq_eq_false_iff_ne]; exact hq]; simp)
          refine wpQuiet_nil ?_
          rintro _ ⟨y, rfl⟩
          go_wp2_with fail
          go_roundw
          case rel => exact ⟨hg2.trans y.g, k + 1, by go_num, by omega, fun m hm => by
            rcases (by omega : m < k ∨ m = k) with h3 | rfl
            · exact HB.out m h3
            · exact HQ.out⟩
          case measure => simp [intOf]; omega
end Go.Proofs.YtnajccljdjllgaaGreatDoor
set_option linter.unusedVariables false
set_option linter.unusedSimpArgs false
namespace Go.Proofs.YtnajccljdjllgaaGreatDoor
open Go.RowKit Go.Lib
theorem Kept.cell {e : TypeId} {w w' : World} (h : Kept e w w') {b : Nat} {cs : Array Value} {t : TypeId} {m : Nat × Nat} (ht : t ≠ e) (hb : w.heap[b]? = some (.cells cs t m)) (o : Nat) (u : Value) (hu : cs[o]? = some u) : w'.cell? ⟨b, o, none⟩ = some u := by
  rw [cell_of_row w' b o cs t m (h b cs t m ht hb)]; simpa using hu
theorem flat_le {α β : Type} (f : α → List β) (c : Nat) : ∀ (l : List α), (∀ x ∈ l, (f x).length ≤ c) → (l.flatMap f).length ≤ l.length * c
  | [], _ => by simp
  | x :: l, h => by
    have h1 := h x (by simp)
    have h2 := flat_le f c l (fun y hy => h y (by simp [hy]))
    rw [List.flatMap_cons, List.length_append, List.length_cons, Nat.add_mul, Nat.one_mul]; omega
end Go.Proofs.YtnajccljdjllgaaGreatDoor
