/- shelf.Move. -/
import Derived.Test.YtieohecgoaakmaaDoorSt
import Derived.Test.YtieohecgoaakmaaDoorGr
set_option linter.unusedVariables false
set_option linter.unusedSimpArgs false
namespace Go.Proofs.YtieohecgoaakmaaDoor
open Go.RowKit Go.Lib
set_option maxRecDepth 100000 in
set_option maxHeartbeats 4000000 in
theorem move_any (s : Shelf) (bv nv : Value) (id q : Int) (w : World) (h : ShelfR w s bv nv) (hz : TameS s) (hT : Tabs w) :
    Calls Tryd.prog 20 #[shelfV s bv nv, .int .i64 id, .int .i64 q] w (RetC (moveR s id q) w) := by
  have cM := fun W (g : Grow w W) => mayS_any s bv nv W (h.grow g) hz (hT.below g)
  have cO := fun W (g : Grow w W) => own_any s bv nv W (h.grow g) hz.1
  have cK : ∀ W, Grow w W → Calls Tryd.prog 39 #[shelfV s bv nv, .int .i64 id] W fun e w' => e = .returned (.int .i64 (noteIx s id)) ∧ Grow W w' := fun W g => note_any s bv nv id W (h.grow g) (by have := hz.1.2.1; omega)
  have cB : ∀ W, Grow w W → Calls Tryd.prog 38 #[shelfV s bv nv, .int .i64 q] W fun e w' => e = .returned (.int .i64 (bookIx s q)) ∧ Grow W w' := fun W g => book_any s bv nv q W (h.grow g) (by have := hz.1.1; omega)
  have cT := fun t W (g : Grow w W) => titled_any s bv nv q t id W (h.grow g) (by have := hz.1.2.1; omega)
  have HH := Lib.hid h
  have hbl := hz.1.1
  have hnl := hz.1.2.1
  have hbd := idx_bd (fun x : Book => x.id == id) s.books
  have hnd := idx_bd (fun x : Note => x.id == id) s.notes
  rw [show idx (fun x : Book => x.id == id) s.books = bookIx s id from rfl] at hbd
  rw [show idx (fun x : Note => x.id == id) s.notes = noteIx s id from rfl] at hnd
  obtain ⟨a1, c1, rfl⟩ := h.1.mk
  obtain ⟨a2, c2, rfl⟩ := h.2.mk
  have HXX := Lib.hid (two_boxes2 w (shB s (.slice a1 s.books.length c1) (.slice a2 s.notes.length c2)) (shB ⟨0, 0, 0, [], []⟩ (.slice none 0 0) (.slice none 0 0)))
  clear h hz hT
  unfold shelfV at *
  go_enter Tryd.func20, Tryd.ntmps20
  go_upto_region 1 with (fail)
  generalize hV : (w.alloc (.cells #[.int .i64 s.nb, .int .i64 s.nn, .int .i64 s.ns, .slice a1 s.books.length c1, .slice a2 s.notes.length c2] 25)).alloc (.cells #[.int .i64 0, .int .i64 0, .int .i64 0, .slice none 0 0, .slice none 0 0] 25) = V
  have gV : Grow w V := by rw [← hV]; exact ((Grow.refl w).alloc _).alloc _
  have HBX : Hid (V.heap[w.heap.size]? = some (shB s (.slice a1 s.books.length c1) (.slice a2 s.notes.length c2))) := by rw [← hV]; exact Lib.hid HXX.out.1
  have HRX : Hid (V.heap[w.heap.size + 1]? = some (shB ⟨0, 0, 0, [], []⟩ (.slice none 0 0) (.slice none 0 0))) := by rw [← hV]; exact Lib.hid HXX.out.2
  obtain ⟨⟨p0, p1, p2, p3, p4⟩, hpz⟩ := n5 HBX.out
  clear hV
  have cM1 := cM V gV
  cases hm : mayS s with
  | false =>
    have HM := Lib.hid hm
    rw [hm] at cM1
    clear hm cO
    go_wp2_with fail
    refine cM1.mono ?_
    rintro e w1 ⟨rfl, g1⟩
    clear cM1 p0 p1 p2 p3 p4
    have HE := Lib.hid (show moveR s id q = bad 2 from res_bad (by unfold moveE; rw [if_pos HM.out]) (by decide) _ _)
    obtain ⟨⟨e0, e1, e2, e3, e4⟩, hez⟩ := n5 (g1.blk HRX.out)
    have f0 := frozen_of_row _ (w.heap.size + 1) 0 _ _ (g1.blk HRX.out)
    have f1 := frozen_of_row _ (w.heap.size + 1) 1 _ _ (g1.blk HRX.out)
    have f2 := frozen_of_row _ (w.heap.size + 1) 2 _ _ (g1.blk HRX.out)
    have f3 := frozen_of_row _ (w.heap.size + 1) 3 _ _ (g1.blk HRX.out)
    have f4 := frozen_of_row _ (w.heap.size + 1) 4 _ _ (g1.blk HRX.out)
    go_wp2_with fail
    refine bodyPost_ret (v := .tuple #[.agg #[.int .i64 0, .int .i64 0, .int .i64 0, .slice none 0 0, .slice none 0 0], .int .i64 2]) ?_ rfl ?_
    · rw [results_cell_tmp rfl]
      go_simp
    · refine ret_badC HE.out ?_
      repeat' (first | with_reducible exact gV.trans g1 | with_reducible refine Grow.set ?_ (by first | (simp; done) | (simp; omega)) _)
  | true =>
    have HM := Lib.hid hm
    rw [hm] at cM1
    clear hm
    go_wp2_with fail
    refine cM1.mono ?_
    rintro e w1 ⟨rfl, g1⟩
    clear cM1 p0 p1 p2 p3 p4
    obtain ⟨⟨p0, p1, p2, p3, p4⟩, hpz⟩ := n5 (g1.blk HBX.out)
    have cK1 := cK _ (gV.trans g1)
    by_cases hi : noteIx s id < 0
    · have HI := Lib.hid hi
      clear cO cT cB
      go_wp2_with fail
      refine cK1.mono ?_
      rintro e w2 ⟨rfl, g2⟩
      have gg := g1.trans g2
      clear cK1 g2 p0 p1 p2 p3 p4 hpz
      have HE := Lib.hid (show moveR s id q = bad 4 from res_bad (by unfold moveE; rw [if_neg (by rw [HM.out]; simp), if_pos (.inl (by have := HI.out; omega))]) (by decide) _ _)
      obtain ⟨⟨e0, e1, e2, e3, e4⟩, hez⟩ := n5 (gg.blk HRX.out)
      have f0 := frozen_of_row _ (w.heap.size + 1) 0 _ _ (gg.blk HRX.out)
      have f1 := frozen_of_row _ (w.heap.size + 1) 1 _ _ (gg.blk HRX.out)
      have f2 := frozen_of_row _ (w.heap.size + 1) 2 _ _ (gg.blk HRX.out)
      have f3 := frozen_of_row _ (w.heap.size + 1) 3 _ _ (gg.blk HRX.out)
      have f4 := frozen_of_row _ (w.heap.size + 1) 4 _ _ (gg.blk HRX.out)
      go_wp2_with fail
      refine bodyPost_ret (v := .tuple #[.agg #[.int .i64 0, .int .i64 0, .int .i64 0, .slice none 0 0, .slice none 0 0], .int .i64 4]) ?_ rfl ?_
      · rw [results_cell_tmp rfl]
        go_simp
      · refine ret_badC HE.out ?_
        repeat' (first | with_reducible exact gV.trans gg | with_reducible refine Grow.set ?_ (by first | (simp; done) | (simp; omega)) _)
    · have HI := Lib.hid hi
      obtain ⟨i, hii⟩ : ∃ i : Nat, noteIx s id = i := ⟨(noteIx s id).toNat, by omega⟩
      have HII := Lib.hid hii
      have HNO := Lib.hid (noteOf_get (s := s) (id := id) (by omega))
      rw [hii] at cK1 hi hnd
      have hil : (i : Int) < s.notes.length := by omega
      have hil2 : i < s.notes.length := by omega
      clear hii hnd
      go_wp2_with fail
      refine cK1.mono ?_
      rintro e w2 ⟨rfl, g2⟩
      have gg := g1.trans g2
      clear cK1 g2 p0 p1 p2 p3 p4 hpz
      obtain ⟨⟨p0, p1, p2, p3, p4⟩, hpz⟩ := n5 (gg.blk HBX.out)
      have cB1 := cB _ (gV.trans gg)
      by_cases hq : bookIx s q < 0
      · have HQ := Lib.hid hq
        clear cO cT
        go_wp2_with fail
        refine cB1.mono ?_
        rintro e w3 ⟨rfl, g3⟩
        have gh := gg.trans g3
        clear cB1 g3 p0 p1 p2 p3 p4 hpz
        have HE := Lib.hid (show moveR s id q = bad 4 from res_bad (by unfold moveE; rw [if_neg (by rw [HM.out]; simp), if_pos (.inr HQ.out)]) (by decide) _ _)
        obtain ⟨⟨e0, e1, e2, e3, e4⟩, hez⟩ := n5 (gh.blk HRX.out)
        have f0 := frozen_of_row _ (w.heap.size + 1) 0 _ _ (gh.blk HRX.out)
        have f1 := frozen_of_row _ (w.heap.size + 1) 1 _ _ (gh.blk HRX.out)
        have f2 := frozen_of_row _ (w.heap.size + 1) 2 _ _ (gh.blk HRX.out)
        have f3 := frozen_of_row _ (w.heap.size + 1) 3 _ _ (gh.blk HRX.out)
        have f4 := frozen_of_row _ (w.heap.size + 1) 4 _ _ (gh.blk HRX.out)
        go_wp2_with fail
        refine bodyPost_ret (v := .tuple #[.agg #[.int .i64 0, .int .i64 0, .int .i64 0, .slice none 0 0, .slice none 0 0], .int .i64 4]) ?_ rfl ?_
        · rw [results_cell_tmp rfl]
          go_simp
        · refine ret_badC HE.out ?_
          repeat' (first | with_reducible exact gV.trans gh | with_reducible refine Grow.set ?_ (by first | (simp; done) | (simp; omega)) _)
      · have HQ := Lib.hid hq
        go_wp2_with fail
        refine cB1.mono ?_
        rintro e wq ⟨rfl, g3⟩
        have gh := gg.trans g3
        clear cB1 g3 p0 p1 p2 p3 p4 hpz
        obtain ⟨⟨p0, p1, p2, p3, p4⟩, hpz⟩ := n5 (gh.blk HBX.out)
        obtain ⟨x, hx⟩ : ∃ x, x = noteOf s id := ⟨_, rfl⟩
        have hxi : s.notes[i]? = some x := by
          have h9 := HNO.out.1
          rw [HII.out, Int.toNat_natCast] at h9
          rw [hx]; exact h9
        obtain ⟨nb, off, tv, sv, ea, hnb, -, -, n2, -, -, -, -⟩ := Notes.at (Notes.grow HH.out.2 (gV.trans gh)) hxi
        have hxid : x.id = id := by rw [hx]; exact HNO.out.2
        have HXI := Lib.hid hxi
        have HXID := Lib.hid hxid
        have HX := Lib.hid hx
        have kT := fun y : Gr wq => cT x.name y.W ((gV.trans gh).trans y.g)
        clear hx hxi hxid cT
        subst ea
        go_upto_region 6 with (fail)
        refine wp_region_gr (by kernel_rfl) (by kernel_rfl) ?_
        repeat (go_big_quiet_step (first | (go_at_call 47; exact Calls.gr (kT _))))
        refine wpQuiet_nil ?_
        rintro _ ⟨y, rfl⟩
        have gy := gh.trans y.g
        generalize y.W = wy at *
        clear kT p0 p1 p2 p3 p4 hpz n2 hnb y
        obtain ⟨⟨p0, p1, p2, p3, p4⟩, hpz⟩ := n5 (gy.blk HBX.out)
        cases htt : s.notes.any (titleB q x.name id) with
        | true =>
          have HTT := Lib.hid (show s.notes.any (titleB q (noteOf s id).name id) = true by rw [← HX.out]; exact htt)
          clear cO htt
          have HE := Lib.hid (show moveR s id q = bad 7 from res_bad (by unfold moveE; rw [if_neg (by rw [HM.out]; simp), if_neg (by have := HI.out; have := HQ.out; omega), if_pos HTT.out]) (by decide) _ _)
          obtain ⟨⟨e0, e1, e2, e3, e4⟩, hez⟩ := n5 (gy.blk HRX.out)
          have f0 := frozen_of_row _ (w.heap.size + 1) 0 _ _ (gy.blk HRX.out)
          have f1 := frozen_of_row _ (w.heap.size + 1) 1 _ _ (gy.blk HRX.out)
          have f2 := frozen_of_row _ (w.heap.size + 1) 2 _ _ (gy.blk HRX.out)
          have f3 := frozen_of_row _ (w.heap.size + 1) 3 _ _ (gy.blk HRX.out)
          have f4 := frozen_of_row _ (w.heap.size + 1) 4 _ _ (gy.blk HRX.out)
          go_wp2_with fail
          refine bodyPost_ret (v := .tuple #[.agg #[.int .i64 0, .int .i64 0, .int .i64 0, .slice none 0 0, .slice none 0 0], .int .i64 7]) ?_ rfl ?_
          · rw [results_cell_tmp rfl]
            go_simp
          · refine ret_badC HE.out ?_
            repeat' (first | with_reducible exact gV.trans gy | with_reducible refine Grow.set ?_ (by first | (simp; done) | (simp; omega)) _)
        | false =>
          have hez : moveE s id q = 0 := moveE_zero.2 ⟨HM.out, by have := HI.out; omega, by have := HQ.out; omega, by rw [← HX.out]; exact htt⟩
          have HMY := Lib.hid (mayS_iff.1 HM.out)
          have HE := Lib.hid (show moveR s id q = ⟨{ s with notes := updN id (fun n => { n with book := q }) s.notes }, 0, 0⟩ from resOf_ok hez _ _)
          clear htt hez
          have cO1 := cO _ (gV.trans gy)
          go_wp2_with fail
          refine cO1.mono ?_
          rintro e w3 ⟨bv', nv', Y, rfl, ho, hmap, g3⟩
          have hs : StB w w.heap.size (w.heap.size + 1) s.nb s.nn s.ns bv' nv' s.books Y (((((w3.setCell ⟨w.heap.size, 0, none⟩ (.int .i64 s.nb)).setCell ⟨w.heap.size, 1, none⟩ (.int .i64 s.nn)).setCell ⟨w.heap.size, 2, none⟩ (.int .i64 s.ns)).setCell ⟨w.heap.size, 3, none⟩ bv').setCell ⟨w.heap.size, 4, none⟩ nv') := StB.start (s := s) (D := w.heap.size + 1) gV HBX.out HRX.out gy g3 ho ⟨Nat.le_refl _, by omega, by omega⟩
          obtain ⟨ba, bc, ebv, -⟩ := ho.books.slice
          obtain ⟨na, nc, env, -⟩ := ho.notes.slice
          have hYl : Y.length = s.notes.length := by rw [← hmap, List.length_map]
          rw [hYl] at env
          have HMAP := Lib.hid hmap
          have HYL := Lib.hid hYl
          subst ebv env
          obtain ⟨⟨p0', p1', p2', p3', p4'⟩, hpz'⟩ := n5 ((gy.trans g3).blk HBX.out)
          have HF3 := Lib.hid (frozen_of_row w3 w.heap.size 0 _ _ ((gy.trans g3).blk HBX.out))
          have ff : ∀ j, w3.frozen? ⟨w.heap.size, j, none⟩ = false := fun j => frozen_of_row w3 w.heap.size j _ _ ((gy.trans g3).blk HBX.out)
          have ff0 := ff 0
          have ff1 := ff 1
          have ff2 := ff 2
          have ff3 := ff 3
          have ff4 := ff 4
          have HOW3 := Lib.hid ho
          have HG3 := Lib.hid (gy.trans g3)
          have hw3 : w.heap.size < w3.heap.size := hpz'
          clear cO1 cO ho hmap g3 hYl p0 p1 p2 p3 p4 ff
          unfold shelfV
          go_upto_region 9 with (fail)
          generalize ((((w3.setCell ⟨w.heap.size, 0, none⟩ (.int .i64 s.nb)).setCell ⟨w.heap.size, 1, none⟩ (.int .i64 s.nn)).setCell ⟨w.heap.size, 2, none⟩ (.int .i64 s.ns)).setCell ⟨w.heap.size, 3, none⟩ (.slice ba s.books.length bc)).setCell ⟨w.heap.size, 4, none⟩ (.slice na s.notes.length nc) = W at *
          have HS := Lib.hid hs
          obtain ⟨⟨p0, p1, p2, p3, p4⟩, hpz⟩ := hs.five
          have hb3 := hs.boxF 3
          have hb4 := hs.boxF 4
          clear hs p0' p1' p2' p3' p4' ff0 ff1 ff2 ff3 ff4 hpz'
          obtain ⟨z, hz, hzn⟩ := nv_get HMAP.out HXI.out
          obtain ⟨b, cc, ebb, hbz, -, -, hcl⟩ := HS.out.own.note hz
          rw [HYL.out] at ebb
          injection ebb with eb1 eb2 eb3
          subst eb1 eb3
          have q1 := (hcl 1 _ rfl).1
          have qf := (hcl 1 _ rfl).2
          have HS2 := Lib.hid (HS.out.setQ hz q (by rw [HYL.out]))
          have HMQ := Lib.hid (map_setN HMY.out.ninc HMAP.out hz (z := { z with n := { z.n with book := q } }) (fun n => { n with book := q }) rfl (show z.n.id = id by rw [hzn]; exact HXID.out))
          clear hcl hz hzn
          go_upto_region 10 with (fail)
          generalize W.setCell ⟨b, i * 5 + 1, none⟩ (.int .i64 q) = W2 at *
          clear p0 p1 p2 p3 p4 hpz hb3 hb4 HS q1 qf
          obtain ⟨⟨p0, p1, p2, p3, p4⟩, hpz⟩ := HS2.out.five
          obtain ⟨⟨e0, e1, e2, e3, e4⟩, hez⟩ := HS2.out.res5
          have f0 := HS2.out.resF 0
          have f1 := HS2.out.resF 1
          have f2 := HS2.out.resF 2
          have f3 := HS2.out.resF 3
          have f4 := HS2.out.resF 4
          have HOD := Lib.hid HS2.out.fin
          go_wp2_with fail
          refine bodyPost_ret (v := .tuple #[.agg #[.int .i64 s.nb, .int .i64 s.nn, .int .i64 s.ns, .slice ba s.books.length bc, .slice (some ⟨b, 0, none⟩) s.notes.length nc], .int .i64 0]) ?_ rfl ?_
          · rw [results_cell_tmp rfl]
            go_simp
          · refine ret_okC (D := w.heap.size + 1) (s := { s with notes := updN id (fun n => { n with book := q }) s.notes }) HE.out ?_ HMQ.out
            repeat' (first | with_reducible exact HOD.out | with_reducible refine OwnD2.drew ?_ | with_reducible refine OwnD2.set ?_ (by omega) _ _)
end Go.Proofs.YtieohecgoaakmaaDoor
