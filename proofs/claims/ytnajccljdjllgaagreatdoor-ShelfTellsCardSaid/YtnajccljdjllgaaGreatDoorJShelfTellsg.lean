/- jotterref17.Drop. jotterref17.Add. jotterref17.Retitle. jotterref17.Move. jotterref17.Discard. -/
import Derived.Test.YtnajccljdjllgaaGreatDoorJShelfTellsf
import Derived.Test.YtnajccljdjllgaaGreatDoorJShelfTellsa
import Derived.Deep.RegionLaw
set_option linter.unusedVariables false
set_option linter.unusedSimpArgs false
namespace Go.Proofs.YtnajccljdjllgaaGreatDoor
open Go.RowKit Go.Lib
set_option maxRecDepth 100000 in
set_option maxHeartbeats 4000000 in
theorem refDrop_any (s : Shelf) (bv nv : Value) (id : Int) (w : World) (h : ShelfR w s bv nv) (hz : TameS s) (hT : Tabs w) :
    Calls Tryz.prog 32 #[shelfV s bv nv, .int .i64 id] w (RetC (dropR s id) w) := by
  have cM := fun W (g : Grow w W) => refMay_any s bv nv W (h.grow g) hz
  obtain ⟨ib, hib, ibz0, ibz1, ibz2⟩ := info_parts info_book
  obtain ⟨inn, hinn, innz0, innz1, innz2⟩ := info_parts info_note
  have cO := fun W (g : Grow w W) => copy_any s bv nv W (h.grow g) hz.1
  have cB : ∀ W, Grow w W → Calls Tryz.prog 52 #[shelfV s bv nv, .int .i64 id] W fun e w' => e = .returned (.int .i64 (bookIx s id)) ∧ Grow W w' := fun W g => refBook_any s bv nv id W (h.grow g) (by have := hz.1.1; omega)
  have hbl := hz.1.1
  have hnl := hz.1.2.1
  have hbd := idx_bd (fun x : Book => x.id == id) s.books
  have hnd := idx_bd (fun x : Note => x.id == id) s.notes
  rw [show idx (fun x : Book => x.id == id) s.books = bookIx s id from rfl] at hbd
  rw [show idx (fun x : Note => x.id == id) s.notes = noteIx s id from rfl] at hnd
  obtain ⟨a1, c1, rfl⟩ := h.1.mk
  obtain ⟨a2, c2, rfl⟩ := h.2.mk
  have HXX := Lib.hid (two_boxes2 w (shB s (.slice a1 s.books.length c1) (.slice a2 s.notes.length c2)) (shB ⟨0, 0, 0, [], []⟩ (.slice none 0 0) (.slice none 0 0)))
  clear h hz hT
  unfold shelfV at *
  go_enter Tryz.func32, Tryz.ntmps32
  go_upto_region 1 with (fail)
  generalize hV : (w.alloc (.cells #[.int .i64 s.nb, .int .i64 s.nn, .int .i64 s.ns, .slice a1 s.books.length c1, .slice a2 s.notes.length c2] 25)).alloc (.cells #[.int .i64 0, .int .i64 0, .int .i64 0, .slice none 0 0, .slice none 0 0] 25) = V
  have gV : Grow w V := by rw [← hV]; exact ((Grow.refl w).alloc _).alloc _
  have HBX : Hid (V.heap[w.heap.size]? = some (shB s (.slice a1 s.books.length c1) (.slice a2 s.notes.length c2))) := by rw [← hV]; exact Lib.hid HXX.out.1
  have HRX : Hid (V.heap[w.heap.size + 1]? = some (shB ⟨0, 0, 0, [], []⟩ (.slice none 0 0) (.slice none 0 0))) := by rw [← hV]; exact Lib.hid HXX.out.2
  obtain ⟨⟨p0, p1, p2, p3, p4⟩, hpz⟩ := n5 HBX.out
  clear hV
  have cM1 := cM V gV
  cases hm : mayS s with
  | false =>
    have HM := Lib.hid hm
    rw [hm] at cM1
    clear hm cO
    go_wp2_with fail
    refine cM1.mono ?_
    rintro e w1 ⟨rfl, g1⟩
    clear cM1 p0 p1 p2 p3 p4
    have HE := Lib.hid (show dropR s id = bad 2 from res_bad (by unfold dropE; rw [if_pos HM.out]) (by decide) _ _)
    obtain ⟨⟨e0, e1, e2, e3, e4⟩, hez⟩ := n5 (g1.blk HRX.out)
    have f0 := frozen_of_row _ (w.heap.size + 1) 0 _ _ (g1.blk HRX.out)
    have f1 := frozen_of_row _ (w.heap.size + 1) 1 _ _ (g1.blk HRX.out)
    have f2 := frozen_of_row _ (w.heap.size + 1) 2 _ _ (g1.blk HRX.out)
    have f3 := frozen_of_row _ (w.heap.size + 1) 3 _ _ (g1.blk HRX.out)
    have f4 := frozen_of_row _ (w.heap.size + 1) 4 _ _ (g1.blk HRX.out)
    go_wp2_with fail
    refine bodyPost_ret (v := .tuple #[.agg #[.int .i64 0, .int .i64 0, .int .i64 0, .slice none 0 0, .slice none 0 0], .int .i64 2]) ?_ rfl ?_
    · rw [results_cell_tmp rfl]
      go_simp
    · refine ret_badC HE.out ?_
      repeat' (first | with_reducible exact gV.trans g1 | with_reducible refine Grow.set ?_ (by first | (simp; done) | (simp; omega)) _)
  | true =>
    have HM := Lib.hid hm
    rw [hm] at cM1
    clear hm
    go_wp2_with fail
    refine cM1.mono ?_
    rintro e w1 ⟨rfl, g1⟩
    clear cM1 p0 p1 p2 p3 p4
    obtain ⟨⟨p0, p1, p2, p3, p4⟩, hpz⟩ := n5 (g1.blk HBX.out)
    have cB1 := cB _ (gV.trans g1)
    by_cases hi : bookIx s id < 0
    · have HI := Lib.hid hi
      clear cO
      go_wp2_with fail
      refine cB1.mono ?_
      rintro e w2 ⟨rfl, g2⟩
      have gg := g1.trans g2
      clear cB1 g2 p0 p1 p2 p3 p4 hpz
      have HE := Lib.hid (show dropR s id = bad 4 from res_bad (by unfold dropE; rw [if_neg (by rw [HM.out]; simp), if_pos HI.out]) (by decide) _ _)
      obtain ⟨⟨e0, e1, e2, e3, e4⟩, hez⟩ := n5 (gg.blk HRX.out)
      have f0 := frozen_of_row _ (w.heap.size + 1) 0 _ _ (gg.blk HRX.out)
      have f1 := frozen_of_row _ (w.heap.size + 1) 1 _ _ (gg.blk HRX.out)
      have f2 := frozen_of_row _ (w.heap.size + 1) 2 _ _ (gg.blk HRX.out)
      have f3 := frozen_of_row _ (w.heap.size + 1) 3 _ _ (gg.blk HRX.out)
      have f4 := frozen_of_row _ (w.heap.size + 1) 4 _ _ (gg.blk HRX.out)
      go_wp2_with fail
      refine bodyPost_ret (v := .tuple #[.agg #[.int .i64 0, .int .i64 0, .int .i64 0, .slice none 0 0, .slice none 0 0], .int .i64 4]) ?_ rfl ?_
      · rw [results_cell_tmp rfl]
        go_simp
      · refine ret_badC HE.out ?_
        repeat' (first | with_reducible exact gV.trans gg | with_reducible refine Grow.set ?_ (by first | (simp; done) | (simp; omega)) _)
    · have HI := Lib.hid hi
      obtain ⟨i, hii⟩ : ∃ i : Nat, bookIx s id = i := ⟨(bookIx s id).toNat, by omega⟩
      have HII := Lib.hid hii
      obtain ⟨x, hx, hxp⟩ := idx_get (p := fun x : Book => x.id == id) (l := s.books) (i := bookIx s id) rfl (by omega)
      rw [hii, Int.toNat_natCast] at hx
      have hxid : x.id = id := by simpa using hxp
      have HMY := Lib.hid (mayS_iff.1 HM.out)
      have HER := Lib.hid (show s.books.eraseIdx i = s.books.filter (fun n => !(n.id == id)) by rw [erase_books HMY.out hx, hxid])
      have hil2 : i < s.books.length := (List.getElem?_eq_some_iff.1 hx).1
      rw [hii] at cB1 hi hbd
      have hil : (i : Int) < s.books.length := by omega
      clear hii hbd hx hxp hxid
      go_wp2_with fail
      refine cB1.mono ?_
      rintro e w2 ⟨rfl, g2⟩
      have gg := g1.trans g2
      clear cB1 g2 p0 p1 p2 p3 p4 hpz
      obtain ⟨⟨p0, p1, p2, p3, p4⟩, hpz⟩ := n5 (gg.blk HBX.out)
      have HE := Lib.hid (show dropR s id = ⟨{ s with books := s.books.eraseIdx i, notes := s.notes.filter (fun n => !(n.book == id)) }, 0, 0⟩ by rw [HER.out]; exact resOf_ok (dropE_zero.2 ⟨HM.out, by have := HI.out; omega⟩) _ _)
      have cO1 := cO _ (gV.trans gg)
      go_wp2_with fail
      refine cO1.mono ?_
      rintro e w3 ⟨bv', nv', Y, rfl, ho, hmap, g3⟩
      have hs : StB w w.heap.size (w.heap.size + 1) s.nb s.nn s.ns bv' nv' s.books Y (((((w3.setCell ⟨w.heap.size, 0, none⟩ (.int .i64 s.nb)).setCell ⟨w.heap.size, 1, none⟩ (.int .i64 s.nn)).setCell ⟨w.heap.size, 2, none⟩ (.int .i64 s.ns)).setCell ⟨w.heap.size, 3, none⟩ bv').setCell ⟨w.heap.size, 4, none⟩ nv') := StB.start (s := s) (D := w.heap.size + 1) gV HBX.out HRX.out gg g3 ho ⟨Nat.le_refl _, by omega, by omega⟩
      obtain ⟨ba, bc, ebv, -⟩ := ho.books.slice
      obtain ⟨na, nc, env, -⟩ := ho.notes.slice
      have hYl : Y.length = s.notes.length := by rw [← hmap, List.length_map]
      rw [hYl] at env
      have HMAP := Lib.hid hmap
      have HYL := Lib.hid hYl
      subst ebv env
      obtain ⟨⟨p0', p1', p2', p3', p4'⟩, hpz'⟩ := n5 ((gg.trans g3).blk HBX.out)
      have HF3 := Lib.hid (frozen_of_row w3 w.heap.size 0 _ _ ((gg.trans g3).blk HBX.out))
      have ff : ∀ j, w3.frozen? ⟨w.heap.size, j, none⟩ = false := fun j => frozen_of_row w3 w.heap.size j _ _ ((gg.trans g3).blk HBX.out)
      have ff0 := ff 0
      have ff1 := ff 1
      have ff2 := ff 2
      have ff3 := ff 3
      have ff4 := ff 4
      have HOW3 := Lib.hid ho
      have HG3 := Lib.hid (gg.trans g3)
      have hw3 : w.heap.size < w3.heap.size := hpz'
      clear cO1 cO ho hmap g3 hYl p0 p1 p2 p3 p4 ff
      unfold shelfV
      go_upto_region 7 with (fail)
      generalize ((((w3.setCell ⟨w.heap.size, 0, none⟩ (.int .i64 s.nb)).setCell ⟨w.heap.size, 1, none⟩ (.int .i64 s.nn)).setCell ⟨w.heap.size, 2, none⟩ (.int .i64 s.ns)).setCell ⟨w.heap.size, 3, none⟩ (.slice ba s.books.length bc)).setCell ⟨w.heap.size, 4, none⟩ (.slice na s.notes.length nc) = W at *
      have HS := Lib.hid hs
      obtain ⟨⟨p0, p1, p2, p3, p4⟩, hpz⟩ := hs.five
      have hb3 := hs.boxF 3
      have hb4 := hs.boxF 4
      clear hs p0' p1' p2' p3' p4' ff0 ff1 ff2 ff3 ff4 hpz'
      obtain ⟨y, hy, -⟩ := lt_get (l := s.books) (i := i) hil2
      obtain ⟨b, cc, ebb, hbz, hcc, hbk0, -⟩ := HS.out.own.book hy
      injection ebb with eb1 eb2 eb3
      subst eb1 eb3
      clear hy
      have HROW := Lib.hid ((HS.out.own.books).grow (Grow.refl W).drew)
      have HBK := Lib.hid hbk0
      clear hbk0
      have hc0 : ¬ bc = 0 := by omega
      have hile : (i : Int) ≤ bc := by omega
      have hile2 : (i : Int) + 1 ≤ s.books.length := by omega
      have hile3 : 0 ≤ (i : Int) + 1 := by omega
      have hile4 : (i : Int) ≤ (i : Int) + 1 := by omega
      have hwr : IntKind.i64.wrap ((i : Int) + 1) = ((i + 1 : Nat) : Int) := by have := IntWalk.i64_in ((i : Int) + 1) (by omega); omega
      rcases Classical.em (bc = i + 1) with rfl | hci
      · go_region_law (refine step_erase (P := Tryz.prog) (i := i) (l := s.books) (base := w.heap.size) (b := b) (c := (i + 1)) bookC (fun _ => rfl) (by rfl) _ _ (by rfl) Tryz.underlying22 hib ibz0 ibz1 ibz2 (by rfl) (by decide) (n := s.books.length) W.drew HROW.out rfl (by omega) HS.out.grow.drew.size (fun x _ u hu => by simp at hu; rcases hu with rfl | rfl <;> rfl) (by omega) (by decide) (some ⟨b, 0, none⟩) 0 0 (by rfl) (by rfl) (by omega) (fun hlt => by first | (with_reducible rfl) | (exfalso; omega)) ?_; intro v' w4 ra; obtain ⟨hr, hg, hbk⟩ := ra; obtain ⟨va, vc, e3, -⟩ := hr.slice; subst e3; obtain ⟨k3, f3, z3, hs4⟩ := (HS.out.more (Grow.refl W).drew).toB hr (by rw [HBK.out]; exact hg); have HS3 := Lib.hid hs4; clear hs4 hr hg hbk)
        all_goals
          obtain ⟨m, hm⟩ : ∃ m, m = (s.books.eraseIdx i).length := ⟨_, rfl⟩
          rw [← hm] at HS3 ⊢
          have HML := Lib.hid hm
          clear p0 p1 p2 p3 p4 hpz hb3 hb4 hm HROW HBK
          go_upto_region 8 with (fail)
          generalize w4.setCell ⟨w.heap.size, 3, none⟩ (.slice va m vc) = W3 at *
          clear k3 f3 z3 HS
          obtain ⟨⟨p0, p1, p2, p3, p4⟩, hpz⟩ := HS3.out.five
          go_wp2_with fail
          go_loopw [7, 8] (fun v7 v8 wx => ∃ (k : Nat) (o : Option Addr) (n c : Nat) (L : List NV), v8 = .int .i64 k ∧ k ≤ s.notes.length ∧ v7 = .slice o n c ∧ L = (Y.take k).filter (fun y => !(y.n.book == id)) ∧ L.length = n ∧ n ≤ k ∧ RowO W3.heap.size 46 5 (.slice o n c) L.length (L.flatMap noteC) wx ∧ Grow W3 wx) (fun _ v8 _ => s.notes.length - (Go.RowKit.intOf v8).toNat)
          case atStart => exact ⟨0, none, 0, 0, [], rfl, by omega, rfl, by simp, rfl, by omega, RowO.nil, Grow.refl _⟩
          case round =>
            obtain ⟨k, q, n, c, L, rfl, hk, rfl, hL, hLl, hnk, hr, hg⟩ := hrel
            have HL := Lib.hid hL
            have HLL := Lib.hid hLl
            have HR := Lib.hid hr
            have HG := Lib.hid hg
            have hs4 := HS3.out.more hg
            clear hL hLl p0 p1 p2 p3 p4 hpz
            obtain ⟨⟨p0, p1, p2, p3, p4⟩, hpz⟩ := hs4.five
            by_cases hlt : k < s.notes.length
            · have hlt' : (k : Int) < s.notes.length := by omega
              obtain ⟨y, hy, -⟩ := lt_get (l := Y) (i := k) (by rw [HYL.out]; exact hlt)
              obtain ⟨nb, cc, enb, hnb, hcc, -, hcl⟩ := hs4.own.note hy
              rw [HYL.out] at enb
              injection enb with en1 en2 en3
              subst en1 en3
              have y0 : wr.cell? ⟨nb, k * 5, none⟩ = some (.int .i64 y.n.id) := (hcl 0 _ rfl).1
              have y1 := (hcl 1 _ rfl).1
              have y2 := (hcl 2 _ rfl).1
              have y3 := (hcl 3 _ rfl).1
              have y4 := (hcl 4 _ rfl).1
              have HY := Lib.hid hy
              have HON := Lib.hid (nv_one hs4.own y (List.mem_of_getElem? hy))
              obtain ⟨ya, yn, yc, za, zn, zc, eyt, eys⟩ := nv_sl hs4.own y (List.mem_of_getElem? hy)
              have HYC := Lib.hid (show noteC y = [.int .i64 y.n.id, .int .i64 y.n.book, .string y.n.name, .slice ya yn yc, .slice za zn zc] by rw [← eyt, ← eys])
              rw [HYC.out] at HON
              rw [eyt] at y3
              rw [eys] at y4
              clear hs4 hcl hy hr hg eyt eys
              cases hbk : (y.n.book == id) with
              | false =>
                have HBK := Lib.hid hbk
                have hbk' : (y.n.book != id) = true := by rw [bne, hbk]; rfl
                go_wp2_with (at_builtin; refine app_R (base := W3.heap.size) (by rfl) _ _ 23 (by rfl) 46 inn _ 5 80 Tryz.underlying23 hinn innz0 innz1 innz2 (by rfl) (by decide) (.slice q n c) n (L.flatMap noteC) (by rfl) wr (by have h9 := HR.out; rw [HLL.out] at h9; exact h9) HG.out.size [.int .i64 y.n.id, .int .i64 y.n.book, .string y.n.name, .slice ya yn yc, .slice za zn zc] rfl HON.out (by rfl) ?_ (by decide) ?_; omega; intro v' w4 ra; obtain ⟨va2, vc2, e3, -⟩ := ra.1.slice; subst e3; have HRA := Lib.hid ra; clear ra)
                have hgr : Grow W3 w4 := by
                  have hrr := HR.out
                  rw [HLL.out] at hrr
                  exact grown_grow HG.out hrr HRA.out.2.1
                have hadd : RowO W3.heap.size 46 5 (.slice va2 (n + 1) vc2) (L ++ [y]).length ((L ++ [y]).flatMap noteC) w4 := by
                  have h9 := HRA.out.1
                  rw [← HYC.out] at h9
                  rw [List.length_append, HLL.out, List.flatMap_append, List.flatMap_cons, List.flatMap_nil, List.append_nil]; exact h9
                have HADD := Lib.hid hadd
                have HGR := Lib.hid hgr
                clear hadd hgr HRA hbk
                go_wp2_with fail
                go_roundw
                case rel => exact ⟨k + 1, va2, n + 1, vc2, L ++ [y], by go_num, by omega, by go_num, by rw [HL.out, filter_next HY.out, if_pos (by rw [HBK.out]; rfl)], by rw [List.length_append, HLL.out]; rfl, by omega, HADD.out, HGR.out⟩
                case measure => simp [Go.RowKit.intOf]; omega
              | true =>
                have HBK := Lib.hid hbk
                have hbk' : (y.n.book != id) = false := by rw [bne, hbk]; rfl
                go_wp2_with fail
                go_roundw
                case rel => exact ⟨k + 1, q, n, c, L, by go_num, by omega, rfl, by rw [HL.out, filter_next HY.out, if_neg (by rw [HBK.out]; simp), List.append_nil], HLL.out, by omega, HR.out, HG.out⟩
                case measure => simp [Go.RowKit.intOf]; omega
            · have hlt' : ¬ (k : Int) < s.notes.length := by omega
              have hLa : L = Y.filter (fun y => !(y.n.book == id)) := by rw [HL.out, List.take_of_length_le (by rw [HYL.out]; omega)]
              have hr9 := HR.out
              rw [hLa] at hr9
              have hn9 : n = (Y.filter (fun y => !(y.n.book == id))).length := by rw [← HLL.out, hLa]
              obtain ⟨k3, f3, z3, hs5⟩ := HS3.out.subN (w' := wr) List.filter_sublist (hr9.base_mono HS3.out.grow.size) (grown_of_grow HG.out _)
              have HS5 := Lib.hid hs5
              have HMF := Lib.hid (map_filterN HMAP.out (fun n => !(n.book == id)))
              clear hr hg hs4 hs5 hr9 hn9 hLa
              go_upto_region 15 with (fail)
              generalize wr.setCell ⟨w.heap.size, 4, none⟩ (.slice q n c) = W5 at *
              clear k3 f3 z3 p0 p1 p2 p3 p4 hpz
              obtain ⟨⟨p0, p1, p2, p3, p4⟩, hpz⟩ := HS5.out.five
              obtain ⟨⟨e0, e1, e2, e3, e4⟩, hez⟩ := HS5.out.res5
              have f0 := HS5.out.resF 0
              have f1 := HS5.out.resF 1
              have f2 := HS5.out.resF 2
              have f3 := HS5.out.resF 3
              have f4 := HS5.out.resF 4
              have HOD := Lib.hid HS5.out.fin
              go_wp2_with fail
              refine bodyPost_ret (v := .tuple #[.agg #[.int .i64 s.nb, .int .i64 s.nn, .int .i64 s.ns, .slice va m vc, .slice q n c], .int .i64 0]) ?_ rfl ?_
              · rw [results_cell_tmp rfl]
                go_simp
              · refine ret_okC (D := w.heap.size + 1) (s := { s with books := s.books.eraseIdx i, notes := s.notes.filter (fun n => !(n.book == id)) }) HE.out ?_ HMF.out
                repeat' (first | with_reducible exact HOD.out | with_reducible refine OwnD2.drew ?_ | with_reducible refine OwnD2.set ?_ (by omega) _ _)
      · go_region_law (refine step_erase (P := Tryz.prog) (i := i) (l := s.books) (base := w.heap.size) (b := b) (c := bc) bookC (fun _ => rfl) (by rfl) _ _ (by rfl) Tryz.underlying22 hib ibz0 ibz1 ibz2 (by rfl) (by decide) (n := s.books.length) W.drew HROW.out rfl (by omega) HS.out.grow.drew.size (fun x _ u hu => by simp at hu; rcases hu with rfl | rfl <;> rfl) (by omega) (by decide) (some ⟨b, (i + 1) * 2, none⟩) (s.books.length - (i + 1)) (bc - (i + 1)) (by rfl) (by rfl) (by omega) (fun hlt => by first | (with_reducible rfl) | (exfalso; omega)) ?_; intro v' w4 ra; obtain ⟨hr, hg, hbk⟩ := ra; obtain ⟨va, vc, e3, -⟩ := hr.slice; subst e3; obtain ⟨k3, f3, z3, hs4⟩ := (HS.out.more (Grow.refl W).drew).toB hr (by rw [HBK.out]; exact hg); have HS3 := Lib.hid hs4; clear hs4 hr hg hbk)
        all_goals
          obtain ⟨m, hm⟩ : ∃ m, m = (s.books.eraseIdx i).length := ⟨_, rfl⟩
          rw [← hm] at HS3 ⊢
          have HML := Lib.hid hm
          clear p0 p1 p2 p3 p4 hpz hb3 hb4 hm HROW HBK
          go_upto_region 8 with (fail)
          generalize w4.setCell ⟨w.heap.size, 3, none⟩ (.slice va m vc) = W3 at *
          clear k3 f3 z3 HS
          obtain ⟨⟨p0, p1, p2, p3, p4⟩, hpz⟩ := HS3.out.five
          go_wp2_with fail
          go_loopw [7, 8] (fun v7 v8 wx => ∃ (k : Nat) (o : Option Addr) (n c : Nat) (L : List NV), v8 = .int .i64 k ∧ k ≤ s.notes.length ∧ v7 = .slice o n c ∧ L = (Y.take k).filter (fun y => !(y.n.book == id)) ∧ L.length = n ∧ n ≤ k ∧ RowO W3.heap.size 46 5 (.slice o n c) L.length (L.flatMap noteC) wx ∧ Grow W3 wx) (fun _ v8 _ => s.notes.length - (Go.RowKit.intOf v8).toNat)
          case atStart => exact ⟨0, none, 0, 0, [], rfl, by omega, rfl, by simp, rfl, by omega, RowO.nil, Grow.refl _⟩
          case round =>
            obtain ⟨k, q, n, c, L, rfl, hk, rfl, hL, hLl, hnk, hr, hg⟩ := hrel
            have HL := Lib.hid hL
            have HLL := Lib.hid hLl
            have HR := Lib.hid hr
            have HG := Lib.hid hg
            have hs4 := HS3.out.more hg
            clear hL hLl p0 p1 p2 p3 p4 hpz
            obtain ⟨⟨p0, p1, p2, p3, p4⟩, hpz⟩ := hs4.five
            by_cases hlt : k < s.notes.length
            · have hlt' : (k : Int) < s.notes.length := by omega
              obtain ⟨y, hy, -⟩ := lt_get (l := Y) (i := k) (by rw [HYL.out]; exact hlt)
              obtain ⟨nb, cc, enb, hnb, hcc, -, hcl⟩ := hs4.own.note hy
              rw [HYL.out] at enb
              injection enb with en1 en2 en3
              subst en1 en3
              have y0 : wr.cell? ⟨nb, k * 5, none⟩ = some (.int .i64 y.n.id) := (hcl 0 _ rfl).1
              have y1 := (hcl 1 _ rfl).1
              have y2 := (hcl 2 _ rfl).1
              have y3 := (hcl 3 _ rfl).1
              have y4 := (hcl 4 _ rfl).1
              have HY := Lib.hid hy
              have HON := Lib.hid (nv_one hs4.own y (List.mem_of_getElem? hy))
              obtain ⟨ya, yn, yc, za, zn, zc, eyt, eys⟩ := nv_sl hs4.own y (List.mem_of_getElem? hy)
              have HYC := Lib.hid (show noteC y = [.int .i64 y.n.id, .int .i64 y.n.book, .string y.n.name, .slice ya yn yc, .slice za zn zc] by rw [← eyt, ← eys])
              rw [HYC.out] at HON
              rw [eyt] at y3
              rw [eys] at y4
              clear hs4 hcl hy hr hg eyt eys
              cases hbk : (y.n.book == id) with
              | false =>
                have HBK := Lib.hid hbk
                have hbk' : (y.n.book != id) = true := by rw [bne, hbk]; rfl
                go_wp2_with (at_builtin; refine app_R (base := W3.heap.size) (by rfl) _ _ 23 (by rfl) 46 inn _ 5 80 Tryz.underlying23 hinn innz0 innz1 innz2 (by rfl) (by decide) (.slice q n c) n (L.flatMap noteC) (by rfl) wr (by have h9 := HR.out; rw [HLL.out] at h9; exact h9) HG.out.size [.int .i64 y.n.id, .int .i64 y.n.book, .string y.n.name, .slice ya yn yc, .slice za zn zc] rfl HON.out (by rfl) ?_ (by decide) ?_; omega; intro v' w4 ra; obtain ⟨va2, vc2, e3, -⟩ := ra.1.slice; subst e3; have HRA := Lib.hid ra; clear ra)
                have hgr : Grow W3 w4 := by
                  have hrr := HR.out
                  rw [HLL.out] at hrr
                  exact grown_grow HG.out hrr HRA.out.2.1
                have hadd : RowO W3.heap.size 46 5 (.slice va2 (n + 1) vc2) (L ++ [y]).length ((L ++ [y]).flatMap noteC) w4 := by
                  have h9 := HRA.out.1
                  rw [← HYC.out] at h9
                  rw [List.length_append, HLL.out, List.flatMap_append, List.flatMap_cons, List.flatMap_nil, List.append_nil]; exact h9
                have HADD := Lib.hid hadd
                have HGR := Lib.hid hgr
                clear hadd hgr HRA hbk
                go_wp2_with fail
                go_roundw
                case rel => exact ⟨k + 1, va2, n + 1, vc2, L ++ [y], by go_num, by omega, by go_num, by rw [HL.out, filter_next HY.out, if_pos (by rw [HBK.out]; rfl)], by rw [List.length_append, HLL.out]; rfl, by omega, HADD.out, HGR.out⟩
                case measure => simp [Go.RowKit.intOf]; omega
              | true =>
                have HBK := Lib.hid hbk
                have hbk' : (y.n.book != id) = false := by rw [bne, hbk]; rfl
                go_wp2_with fail
                go_roundw
                case rel => exact ⟨k + 1, q, n, c, L, by go_num, by omega, rfl, by rw [HL.out, filter_next HY.out, if_neg (by rw [HBK.out]; simp), List.append_nil], HLL.out, by omega, HR.out, HG.out⟩
                case measure => simp [Go.RowKit.intOf]; omega
            · have hlt' : ¬ (k : Int) < s.notes.length := by omega
              have hLa : L = Y.filter (fun y => !(y.n.book == id)) := by rw [HL.out, List.take_of_length_le (by rw [HYL.out]; omega)]
              have hr9 := HR.out
              rw [hLa] at hr9
              have hn9 : n = (Y.filter (fun y => !(y.n.book == id))).length := by rw [← HLL.out, hLa]
              obtain ⟨k3, f3, z3, hs5⟩ := HS3.out.subN (w' := wr) List.filter_sublist (hr9.base_mono HS3.out.grow.size) (grown_of_grow HG.out _)
              have HS5 := Lib.hid hs5
              have HMF := Lib.hid (map_filterN HMAP.out (fun n => !(n.book == id)))
              clear hr hg hs4 hs5 hr9 hn9 hLa
              go_upto_region 15 with (fail)
              generalize wr.setCell ⟨w.heap.size, 4, none⟩ (.slice q n c) = W5 at *
              clear k3 f3 z3 p0 p1 p2 p3 p4 hpz
              obtain ⟨⟨p0, p1, p2, p3, p4⟩, hpz⟩ := HS5.out.five
              obtain ⟨⟨e0, e1, e2, e3, e4⟩, hez⟩ := HS5.out.res5
              have f0 := HS5.out.resF 0
              have f1 := HS5.out.resF 1
              have f2 := HS5.out.resF 2
              have f3 := HS5.out.resF 3
              have f4 := HS5.out.resF 4
              have HOD := Lib.hid HS5.out.fin
              go_wp2_with fail
              refine bodyPost_ret (v := .tuple #[.agg #[.int .i64 s.nb, .int .i64 s.nn, .int .i64 s.ns, .slice va m vc, .slice q n c], .int .i64 0]) ?_ rfl ?_
              · rw [results_cell_tmp rfl]
                go_simp
              · refine ret_okC (D := w.heap.size + 1) (s := { s with books := s.books.eraseIdx i, notes := s.notes.filter (fun n => !(n.book == id)) }) HE.out ?_ HMF.out
                repeat' (first | with_reducible exact HOD.out | with_reducible refine OwnD2.drew ?_ | with_reducible refine OwnD2.set ?_ (by omega) _ _)
end Go.Proofs.YtnajccljdjllgaaGreatDoor
set_option linter.unusedVariables false
set_option linter.unusedSimpArgs false
namespace Go.Proofs.YtnajccljdjllgaaGreatDoor
open Go.RowKit Go.Lib
set_option maxRecDepth 100000 in
set_option maxHeartbeats 4000000 in
theorem refAdd_any (s : Shelf) (bv nv : Value) (id : Int) (t : ByteArray) (w : World) (h : ShelfR w s bv nv) (hz : TameS s) (ht : t.size ≤ 1000000000) (hT : Tabs w) :
    Calls Tryz.prog 34 #[shelfV s bv nv, .int .i64 id, .string t] w (RetM (addR s id t) w) := by
  have cM := fun W (g : Grow w W) => refMay_any s bv nv W (h.grow g) hz
  obtain ⟨ib, hib, hbz0, hbz1, hbz2⟩ := info_parts info_note
  have cO := fun W (g : Grow w W) => copy_any s bv nv W (h.grow g) hz.1
  have cB : ∀ W, Grow w W → Calls Tryz.prog 52 #[shelfV s bv nv, .int .i64 id] W fun e w' => e = .returned (.int .i64 (bookIx s id)) ∧ Grow W w' := fun W g => refBook_any s bv nv id W (h.grow g) (by have := hz.1.1; omega)
  have cN := fun W (g : Grow w W) => refNoteName_any s bv nv id 0 t W (h.grow g) (by have := hz.1.2.1; omega) ht
  have hbl := hz.1.1
  have hnl := hz.1.2.1
  have hbd := idx_bd (fun x : Book => x.id == id) s.books
  have hnd := idx_bd (fun x : Note => x.id == id) s.notes
  rw [show idx (fun x : Book => x.id == id) s.books = bookIx s id from rfl] at hbd
  rw [show idx (fun x : Note => x.id == id) s.notes = noteIx s id from rfl] at hnd
  obtain ⟨a1, c1, rfl⟩ := h.1.mk
  obtain ⟨a2, c2, rfl⟩ := h.2.mk
  have HXX := Lib.hid (two_boxes2 w (shB s (.slice a1 s.books.length c1) (.slice a2 s.notes.length c2)) (shB ⟨0, 0, 0, [], []⟩ (.slice none 0 0) (.slice none 0 0)))
  clear h hz hT
  unfold shelfV at *
  go_enter Tryz.func34, Tryz.ntmps34
  go_upto_region 1 with (fail)
  generalize hV : (w.alloc (.cells #[.int .i64 s.nb, .int .i64 s.nn, .int .i64 s.ns, .slice a1 s.books.length c1, .slice a2 s.notes.length c2] 25)).alloc (.cells #[.int .i64 0, .int .i64 0, .int .i64 0, .slice none 0 0, .slice none 0 0] 25) = V
  have gV : Grow w V := by rw [← hV]; exact ((Grow.refl w).alloc _).alloc _
  have HBX : Hid (V.heap[w.heap.size]? = some (shB s (.slice a1 s.books.length c1) (.slice a2 s.notes.length c2))) := by rw [← hV]; exact Lib.hid HXX.out.1
  have HRX : Hid (V.heap[w.heap.size + 1]? = some (shB ⟨0, 0, 0, [], []⟩ (.slice none 0 0) (.slice none 0 0))) := by rw [← hV]; exact Lib.hid HXX.out.2
  obtain ⟨⟨p0, p1, p2, p3, p4⟩, hpz⟩ := n5 HBX.out
  clear hV
  have cM1 := cM V gV
  cases hm : mayS s with
  | false =>
    have HM := Lib.hid hm
    rw [hm] at cM1
    clear hm cO
    go_wp2_with fail
    refine cM1.mono ?_
    rintro e w1 ⟨rfl, g1⟩
    clear cM1 p0 p1 p2 p3 p4
    have HE := Lib.hid (show addR s id t = bad 2 from res_bad (by unfold addE; rw [if_pos HM.out]) (by decide) _ _)
    obtain ⟨⟨e0, e1, e2, e3, e4⟩, hez⟩ := n5 (g1.blk HRX.out)
    have f0 := frozen_of_row _ (w.heap.size + 1) 0 _ _ (g1.blk HRX.out)
    have f1 := frozen_of_row _ (w.heap.size + 1) 1 _ _ (g1.blk HRX.out)
    have f2 := frozen_of_row _ (w.heap.size + 1) 2 _ _ (g1.blk HRX.out)
    have f3 := frozen_of_row _ (w.heap.size + 1) 3 _ _ (g1.blk HRX.out)
    have f4 := frozen_of_row _ (w.heap.size + 1) 4 _ _ (g1.blk HRX.out)
    go_wp2_with fail
    refine bodyPost_ret (v := .tuple #[.agg #[.int .i64 0, .int .i64 0, .int .i64 0, .slice none 0 0, .slice none 0 0], .int .i64 0, .int .i64 2]) ?_ rfl ?_
    · rw [results_cell_tmp2 (P := Tryz.prog) rfl]
      go_simp
    · refine ret_badM HE.out ?_
      repeat' (first | with_reducible exact gV.trans g1 | with_reducible refine Grow.set ?_ (by first | (simp; done) | (simp; omega)) _)
  | true =>
    have HM := Lib.hid hm
    rw [hm] at cM1
    clear hm
    go_wp2_with fail
    refine cM1.mono ?_
    rintro e w1 ⟨rfl, g1⟩
    clear cM1 p0 p1 p2 p3 p4
    obtain ⟨⟨p0, p1, p2, p3, p4⟩, hpz⟩ := n5 (g1.blk HBX.out)
    have cB1 := cB _ (gV.trans g1)
    by_cases hi : bookIx s id < 0
    · have HI := Lib.hid hi
      clear cO cN
      go_wp2_with fail
      refine cB1.mono ?_
      rintro e w2 ⟨rfl, g2⟩
      have gg := g1.trans g2
      clear cB1 g2 p0 p1 p2 p3 p4 hpz
      have HE := Lib.hid (show addR s id t = bad 4 from res_bad (by unfold addE; rw [if_neg (by rw [HM.out]; simp), if_pos HI.out]) (by decide) _ _)
      obtain ⟨⟨e0, e1, e2, e3, e4⟩, hez⟩ := n5 (gg.blk HRX.out)
      have f0 := frozen_of_row _ (w.heap.size + 1) 0 _ _ (gg.blk HRX.out)
      have f1 := frozen_of_row _ (w.heap.size + 1) 1 _ _ (gg.blk HRX.out)
      have f2 := frozen_of_row _ (w.heap.size + 1) 2 _ _ (gg.blk HRX.out)
      have f3 := frozen_of_row _ (w.heap.size + 1) 3 _ _ (gg.blk HRX.out)
      have f4 := frozen_of_row _ (w.heap.size + 1) 4 _ _ (gg.blk HRX.out)
      go_wp2_with fail
      refine bodyPost_ret (v := .tuple #[.agg #[.int .i64 0, .int .i64 0, .int .i64 0, .slice none 0 0, .slice none 0 0], .int .i64 0, .int .i64 4]) ?_ rfl ?_
      · rw [results_cell_tmp2 (P := Tryz.prog) rfl]
        go_simp
      · refine ret_badM HE.out ?_
        repeat' (first | with_reducible exact gV.trans gg | with_reducible refine Grow.set ?_ (by first | (simp; done) | (simp; omega)) _)
    · have HI := Lib.hid hi
      go_wp2_with fail
      refine cB1.mono ?_
      rintro e w2 ⟨rfl, g2⟩
      have gg := g1.trans g2
      clear cB1 g2 p0 p1 p2 p3 p4 hpz
      obtain ⟨⟨p0, p1, p2, p3, p4⟩, hpz⟩ := n5 (gg.blk HBX.out)
      have cN1 := cN _ (gV.trans gg)
      rcases noteNE_cases s id 0 t with ⟨hb, h1⟩ | ⟨hb, h1, h2⟩ | ⟨hb, h1, h2⟩
      · have HN := Lib.hid h1
        rw [hb] at cN1
        clear hb h1 cO
        go_wp2_with fail
        refine cN1.mono ?_
        rintro e wn ⟨rfl, g2⟩
        have gh := gg.trans g2
        clear cN1 g2 p0 p1 p2 p3 p4 hpz
        have HE := Lib.hid (show addR s id t = bad 6 from res_bad (by unfold addE; rw [if_neg (by rw [HM.out]; simp), if_neg (by have := HI.out; omega), if_pos HN.out]) (by decide) _ _)
        obtain ⟨⟨e0, e1, e2, e3, e4⟩, hez⟩ := n5 (gh.blk HRX.out)
        have f0 := frozen_of_row _ (w.heap.size + 1) 0 _ _ (gh.blk HRX.out)
        have f1 := frozen_of_row _ (w.heap.size + 1) 1 _ _ (gh.blk HRX.out)
        have f2 := frozen_of_row _ (w.heap.size + 1) 2 _ _ (gh.blk HRX.out)
        have f3 := frozen_of_row _ (w.heap.size + 1) 3 _ _ (gh.blk HRX.out)
        have f4 := frozen_of_row _ (w.heap.size + 1) 4 _ _ (gh.blk HRX.out)
        go_wp2_with fail
        refine bodyPost_ret (v := .tuple #[.agg #[.int .i64 0, .int .i64 0, .int .i64 0, .slice none 0 0, .slice none 0 0], .int .i64 0, .int .i64 6]) ?_ rfl ?_
        · rw [results_cell_tmp2 (P := Tryz.prog) rfl]
          go_simp
        · refine ret_badM HE.out ?_
          repeat' (first | with_reducible exact gV.trans gh | with_reducible refine Grow.set ?_ (by first | (simp; done) | (simp; omega)) _)
      · have HN := Lib.hid h1
        have HD := Lib.hid h2
        rw [hb] at cN1
        clear hb h1 h2 cO
        go_wp2_with fail
        refine cN1.mono ?_
        rintro e wn ⟨rfl, g2⟩
        have gh := gg.trans g2
        clear cN1 g2 p0 p1 p2 p3 p4 hpz
        have HE := Lib.hid (show addR s id t = bad 7 from res_bad (by unfold addE; rw [if_neg (by rw [HM.out]; simp), if_neg (by have := HI.out; omega), if_neg (by rw [HN.out]; simp), if_pos HD.out]) (by decide) _ _)
        obtain ⟨⟨e0, e1, e2, e3, e4⟩, hez⟩ := n5 (gh.blk HRX.out)
        have f0 := frozen_of_row _ (w.heap.size + 1) 0 _ _ (gh.blk HRX.out)
        have f1 := frozen_of_row _ (w.heap.size + 1) 1 _ _ (gh.blk HRX.out)
        have f2 := frozen_of_row _ (w.heap.size + 1) 2 _ _ (gh.blk HRX.out)
        have f3 := frozen_of_row _ (w.heap.size + 1) 3 _ _ (gh.blk HRX.out)
        have f4 := frozen_of_row _ (w.heap.size + 1) 4 _ _ (gh.blk HRX.out)
        go_wp2_with fail
        refine bodyPost_ret (v := .tuple #[.agg #[.int .i64 0, .int .i64 0, .int .i64 0, .slice none 0 0, .slice none 0 0], .int .i64 0, .int .i64 7]) ?_ rfl ?_
        · rw [results_cell_tmp2 (P := Tryz.prog) rfl]
          go_simp
        · refine ret_badM HE.out ?_
          repeat' (first | with_reducible exact gV.trans gh | with_reducible refine Grow.set ?_ (by first | (simp; done) | (simp; omega)) _)
      · have HN := Lib.hid h1
        have HD := Lib.hid h2
        rw [hb] at cN1
        clear hb h1 h2
        go_wp2_with fail
        refine cN1.mono ?_
        rintro e wn ⟨rfl, g2⟩
        have gh := gg.trans g2
        clear cN1 g2 p0 p1 p2 p3 p4 hpz
        obtain ⟨⟨p0, p1, p2, p3, p4⟩, hpz⟩ := n5 (gh.blk HBX.out)
        have hnb := (mayS_iff.1 HM.out).nn
        by_cases hl : 12 ≤ (s.notes.length : Int)
        · have HL := Lib.hid hl
          clear cO
          have HE := Lib.hid (show addR s id t = bad 3 from res_bad (by unfold addE; rw [if_neg (by rw [HM.out]; simp), if_neg (by have := HI.out; omega), if_neg (by rw [HN.out]; simp), if_neg (by rw [HD.out]; simp), if_pos (.inl HL.out)]) (by decide) _ _)
          obtain ⟨⟨e0, e1, e2, e3, e4⟩, hez⟩ := n5 (gh.blk HRX.out)
          have f0 := frozen_of_row _ (w.heap.size + 1) 0 _ _ (gh.blk HRX.out)
          have f1 := frozen_of_row _ (w.heap.size + 1) 1 _ _ (gh.blk HRX.out)
          have f2 := frozen_of_row _ (w.heap.size + 1) 2 _ _ (gh.blk HRX.out)
          have f3 := frozen_of_row _ (w.heap.size + 1) 3 _ _ (gh.blk HRX.out)
          have f4 := frozen_of_row _ (w.heap.size + 1) 4 _ _ (gh.blk HRX.out)
          go_wp2_with fail
          refine bodyPost_ret (v := .tuple #[.agg #[.int .i64 0, .int .i64 0, .int .i64 0, .slice none 0 0, .slice none 0 0], .int .i64 0, .int .i64 3]) ?_ rfl ?_
          · rw [results_cell_tmp2 (P := Tryz.prog) rfl]
            go_simp
          · refine ret_badM HE.out ?_
            repeat' (first | with_reducible exact gV.trans gh | with_reducible refine Grow.set ?_ (by first | (simp; done) | (simp; omega)) _)
        · cases hk : (s.nn == 65536) with
          | true =>
            have HL := Lib.hid (show 65536 ≤ s.nn by rw [beq_iff_eq] at hk; omega)
            clear cO
            have HE := Lib.hid (show addR s id t = bad 3 from res_bad (by unfold addE; rw [if_neg (by rw [HM.out]; simp), if_neg (by have := HI.out; omega), if_neg (by rw [HN.out]; simp), if_neg (by rw [HD.out]; simp), if_pos (.inr HL.out)]) (by decide) _ _)
            obtain ⟨⟨e0, e1, e2, e3, e4⟩, hez⟩ := n5 (gh.blk HRX.out)
            have f0 := frozen_of_row _ (w.heap.size + 1) 0 _ _ (gh.blk HRX.out)
            have f1 := frozen_of_row _ (w.heap.size + 1) 1 _ _ (gh.blk HRX.out)
            have f2 := frozen_of_row _ (w.heap.size + 1) 2 _ _ (gh.blk HRX.out)
            have f3 := frozen_of_row _ (w.heap.size + 1) 3 _ _ (gh.blk HRX.out)
            have f4 := frozen_of_row _ (w.heap.size + 1) 4 _ _ (gh.blk HRX.out)
            go_wp2_with fail
            refine bodyPost_ret (v := .tuple #[.agg #[.int .i64 0, .int .i64 0, .int .i64 0, .slice none 0 0, .slice none 0 0], .int .i64 0, .int .i64 3]) ?_ rfl ?_
            · rw [results_cell_tmp2 (P := Tryz.prog) rfl]
              go_simp
            · refine ret_badM HE.out ?_
              repeat' (first | with_reducible exact gV.trans gh | with_reducible refine Grow.set ?_ (by first | (simp; done) | (simp; omega)) _)
          | false =>
            have hk2 : s.nn < 65536 := by rw [beq_eq_false_iff_ne] at hk; omega
            have HE := Lib.hid (show addR s id t = ⟨{ s with nn := s.nn + 1, notes := s.notes ++ [⟨s.nn, id, t, [], []⟩] }, s.nn, 0⟩ from resOf_ok (addE_zero.2 ⟨HM.out, by have := HI.out; omega, HN.out, HD.out, by omega, hk2⟩) _ _)
            have cO1 := cO _ (gV.trans gh)
            go_wp2_with fail
            refine cO1.mono ?_
            rintro e w3 ⟨bv', nv', Y, rfl, ho, hmap, g3⟩
            have hs : StB w w.heap.size (w.heap.size + 1) s.nb s.nn s.ns bv' nv' s.books Y (((((w3.setCell ⟨w.heap.size, 0, none⟩ (.int .i64 s.nb)).setCell ⟨w.heap.size, 1, none⟩ (.int .i64 s.nn)).setCell ⟨w.heap.size, 2, none⟩ (.int .i64 s.ns)).setCell ⟨w.heap.size, 3, none⟩ bv').setCell ⟨w.heap.size, 4, none⟩ nv') := StB.start (s := s) (D := w.heap.size + 1) gV HBX.out HRX.out gh g3 ho ⟨Nat.le_refl _, by omega, by omega⟩
            obtain ⟨ba, bc, ebv, -⟩ := ho.books.slice
            obtain ⟨na, nc, env, -⟩ := ho.notes.slice
            have hYl : Y.length = s.notes.length := by rw [← hmap, List.length_map]
            rw [hYl] at env
            have HMAP := Lib.hid hmap
            have HYL := Lib.hid hYl
            subst ebv env
            obtain ⟨⟨p0', p1', p2', p3', p4'⟩, hpz'⟩ := n5 ((gh.trans g3).blk HBX.out)
            have HF3 := Lib.hid (frozen_of_row w3 w.heap.size 0 _ _ ((gh.trans g3).blk HBX.out))
            have ff : ∀ j, w3.frozen? ⟨w.heap.size, j, none⟩ = false := fun j => frozen_of_row w3 w.heap.size j _ _ ((gh.trans g3).blk HBX.out)
            have ff0 := ff 0
            have ff1 := ff 1
            have ff2 := ff 2
            have ff3 := ff 3
            have ff4 := ff 4
            have HOW3 := Lib.hid ho
            have HG3 := Lib.hid (gh.trans g3)
            have hw3 : w.heap.size < w3.heap.size := hpz'
            clear cO1 cO ho hmap g3 hYl p0 p1 p2 p3 p4 ff
            unfold shelfV
            go_upto_region 11 with (fail)
            generalize ((((w3.setCell ⟨w.heap.size, 0, none⟩ (.int .i64 s.nb)).setCell ⟨w.heap.size, 1, none⟩ (.int .i64 s.nn)).setCell ⟨w.heap.size, 2, none⟩ (.int .i64 s.ns)).setCell ⟨w.heap.size, 3, none⟩ (.slice ba s.books.length bc)).setCell ⟨w.heap.size, 4, none⟩ (.slice na s.notes.length nc) = W at *
            have HS := Lib.hid hs
            obtain ⟨⟨p0, p1, p2, p3, p4⟩, hpz⟩ := hs.five
            have hb3 := hs.boxF 3
            have hb4 := hs.boxF 4
            clear hs p0' p1' p2' p3' p4' ff0 ff1 ff2 ff3 ff4 hpz'
            go_upto_region 13 with (at_builtin; refine app_R (by rfl) _ _ 23 (by rfl) 46 ib _ 5 80 Tryz.underlying23 hib hbz0 hbz1 hbz2 (by rfl) (by decide) (.slice na s.notes.length nc) s.notes.length (Y.flatMap noteC) (by rfl) _ (by have h9 := HS.out.own.notes; rw [HYL.out] at h9; exact h9) HS.out.grow.size (noteC ⟨⟨s.nn, id, t, [], []⟩, .slice none 0 0, .slice none 0 0⟩) rfl ?_ (by rfl) ?_ (by decide) ?_; (intro u hu; simp at hu; rcases hu with rfl | rfl | rfl | rfl | rfl <;> rfl); omega; intro v' w4 ra; obtain ⟨va, vc, e3, -⟩ := ra.1.slice; subst e3; obtain ⟨k3, f3, z3, hs4⟩ := HS.out.note (x := ⟨⟨s.nn, id, t, [], []⟩, .slice none 0 0, .slice none 0 0⟩) ⟨rfl, rfl⟩ ⟨rfl, rfl⟩ (by rw [HYL.out]; exact ra); have HS4 := Lib.hid hs4; clear hs4 ra)
            generalize w4.setCell ⟨w.heap.size, 4, none⟩ (.slice va (s.notes.length + 1) vc) = W4 at *
            clear p0 p1 p2 p3 p4 hpz hb3 hb4 k3 f3 z3 HS
            obtain ⟨⟨p0, p1, p2, p3, p4⟩, hpz⟩ := HS4.out.five
            have hb0 := HS4.out.boxF 1
            have HS5 := Lib.hid (HS4.out.num1 (s.nn + 1))
            have HMQ := Lib.hid (show (Y ++ [(⟨⟨s.nn, id, t, [], []⟩, .slice none 0 0, .slice none 0 0⟩ : NV)]).map NV.n = s.notes ++ [⟨s.nn, id, t, [], []⟩] by rw [List.map_append, HMAP.out]; rfl)
            go_upto_region 14 with (fail)
            generalize W4.setCell ⟨w.heap.size, 1, none⟩ (.int .i64 (s.nn + 1)) = W5 at *
            clear p0 p1 p2 p3 p4 hpz hb0 HS4
            obtain ⟨⟨p0, p1, p2, p3, p4⟩, hpz⟩ := HS5.out.five
            obtain ⟨⟨e0, e1, e2, e3, e4⟩, hez⟩ := HS5.out.res5
            have f0 := HS5.out.resF 0
            have f1 := HS5.out.resF 1
            have f2 := HS5.out.resF 2
            have f3 := HS5.out.resF 3
            have f4 := HS5.out.resF 4
            have HOD := Lib.hid HS5.out.fin
            go_wp2_with fail
            refine bodyPost_ret (v := .tuple #[.agg #[.int .i64 s.nb, .int .i64 (s.nn + 1), .int .i64 s.ns, .slice ba s.books.length bc, .slice va (s.notes.length + 1) vc], .int .i64 (s.nn), .int .i64 0]) ?_ rfl ?_
            · rw [results_cell_tmp2 (P := Tryz.prog) rfl]
              go_simp
            · refine ret_okM (D := w.heap.size + 1) (s := { s with nn := s.nn + 1, notes := s.notes ++ [⟨s.nn, id, t, [], []⟩] }) HE.out ?_ HMQ.out
              repeat' (first | with_reducible exact HOD.out | with_reducible refine OwnD2.drew ?_ | with_reducible refine OwnD2.set ?_ (by omega) _ _)
end Go.Proofs.YtnajccljdjllgaaGreatDoor
set_option linter.unusedVariables false
set_option linter.unusedSimpArgs false
namespace Go.Proofs.YtnajccljdjllgaaGreatDoor
open Go.RowKit Go.Lib
set_option maxRecDepth 100000 in
set_option maxHeartbeats 4000000 in
theorem refRetitle_any (s : Shelf) (bv nv : Value) (id : Int) (t : ByteArray) (w : World) (h : ShelfR w s bv nv) (hz : TameS s) (ht : t.size ≤ 1000000000) (hT : Tabs w) :
    Calls Tryz.prog 36 #[shelfV s bv nv, .int .i64 id, .string t] w (RetC (retitleR s id t) w) := by
  have cM := fun W (g : Grow w W) => refMay_any s bv nv W (h.grow g) hz
  have cO := fun W (g : Grow w W) => copy_any s bv nv W (h.grow g) hz.1
  have cK : ∀ W, Grow w W → Calls Tryz.prog 56 #[shelfV s bv nv, .int .i64 id] W fun e w' => e = .returned (.int .i64 (noteIx s id)) ∧ Grow W w' := fun W g => refNote_any s bv nv id W (h.grow g) (by have := hz.1.2.1; omega)
  have cN := fun q W (g : Grow w W) => refNoteName_any s bv nv q id t W (h.grow g) (by have := hz.1.2.1; omega) ht
  have HH := Lib.hid h
  have hbl := hz.1.1
  have hnl := hz.1.2.1
  have hbd := idx_bd (fun x : Book => x.id == id) s.books
  have hnd := idx_bd (fun x : Note => x.id == id) s.notes
  rw [show idx (fun x : Book => x.id == id) s.books = bookIx s id from rfl] at hbd
  rw [show idx (fun x : Note => x.id == id) s.notes = noteIx s id from rfl] at hnd
  obtain ⟨a1, c1, rfl⟩ := h.1.mk
  obtain ⟨a2, c2, rfl⟩ := h.2.mk
  have HXX := Lib.hid (two_boxes2 w (shB s (.slice a1 s.books.length c1) (.slice a2 s.notes.length c2)) (shB ⟨0, 0, 0, [], []⟩ (.slice none 0 0) (.slice none 0 0)))
  clear h hz hT
  unfold shelfV at *
  go_enter Tryz.func36, Tryz.ntmps36
  go_upto_region 1 with (fail)
  generalize hV : (w.alloc (.cells #[.int .i64 s.nb, .int .i64 s.nn, .int .i64 s.ns, .slice a1 s.books.length c1, .slice a2 s.notes.length c2] 25)).alloc (.cells #[.int .i64 0, .int .i64 0, .int .i64 0, .slice none 0 0, .slice none 0 0] 25) = V
  have gV : Grow w V := by rw [← hV]; exact ((Grow.refl w).alloc _).alloc _
  have HBX : Hid (V.heap[w.heap.size]? = some (shB s (.slice a1 s.books.length c1) (.slice a2 s.notes.length c2))) := by rw [← hV]; exact Lib.hid HXX.out.1
  have HRX : Hid (V.heap[w.heap.size + 1]? = some (shB ⟨0, 0, 0, [], []⟩ (.slice none 0 0) (.slice none 0 0))) := by rw [← hV]; exact Lib.hid HXX.out.2
  obtain ⟨⟨p0, p1, p2, p3, p4⟩, hpz⟩ := n5 HBX.out
  clear hV
  have cM1 := cM V gV
  cases hm : mayS s with
  | false =>
    have HM := Lib.hid hm
    rw [hm] at cM1
    clear hm cO
    go_wp2_with fail
    refine cM1.mono ?_
    rintro e w1 ⟨rfl, g1⟩
    clear cM1 p0 p1 p2 p3 p4
    have HE := Lib.hid (show retitleR s id t = bad 2 from res_bad (by unfold retitleE; rw [if_pos HM.out]) (by decide) _ _)
    obtain ⟨⟨e0, e1, e2, e3, e4⟩, hez⟩ := n5 (g1.blk HRX.out)
    have f0 := frozen_of_row _ (w.heap.size + 1) 0 _ _ (g1.blk HRX.out)
    have f1 := frozen_of_row _ (w.heap.size + 1) 1 _ _ (g1.blk HRX.out)
    have f2 := frozen_of_row _ (w.heap.size + 1) 2 _ _ (g1.blk HRX.out)
    have f3 := frozen_of_row _ (w.heap.size + 1) 3 _ _ (g1.blk HRX.out)
    have f4 := frozen_of_row _ (w.heap.size + 1) 4 _ _ (g1.blk HRX.out)
    go_wp2_with fail
    refine bodyPost_ret (v := .tuple #[.agg #[.int .i64 0, .int .i64 0, .int .i64 0, .slice none 0 0, .slice none 0 0], .int .i64 2]) ?_ rfl ?_
    · rw [results_cell_tmp rfl]
      go_simp
    · refine ret_badC HE.out ?_
      repeat' (first | with_reducible exact gV.trans g1 | with_reducible refine Grow.set ?_ (by first | (simp; done) | (simp; omega)) _)
  | true =>
    have HM := Lib.hid hm
    rw [hm] at cM1
    clear hm
    go_wp2_with fail
    refine cM1.mono ?_
    rintro e w1 ⟨rfl, g1⟩
    clear cM1 p0 p1 p2 p3 p4
    obtain ⟨⟨p0, p1, p2, p3, p4⟩, hpz⟩ := n5 (g1.blk HBX.out)
    have cK1 := cK _ (gV.trans g1)
    by_cases hi : noteIx s id < 0
    · have HI := Lib.hid hi
      clear cO cN
      go_wp2_with fail
      refine cK1.mono ?_
      rintro e w2 ⟨rfl, g2⟩
      have gg := g1.trans g2
      clear cK1 g2 p0 p1 p2 p3 p4 hpz
      have HE := Lib.hid (show retitleR s id t = bad 4 from res_bad (by unfold retitleE; rw [if_neg (by rw [HM.out]; simp), if_pos HI.out]) (by decide) _ _)
      obtain ⟨⟨e0, e1, e2, e3, e4⟩, hez⟩ := n5 (gg.blk HRX.out)
      have f0 := frozen_of_row _ (w.heap.size + 1) 0 _ _ (gg.blk HRX.out)
      have f1 := frozen_of_row _ (w.heap.size + 1) 1 _ _ (gg.blk HRX.out)
      have f2 := frozen_of_row _ (w.heap.size + 1) 2 _ _ (gg.blk HRX.out)
      have f3 := frozen_of_row _ (w.heap.size + 1) 3 _ _ (gg.blk HRX.out)
      have f4 := frozen_of_row _ (w.heap.size + 1) 4 _ _ (gg.blk HRX.out)
      go_wp2_with fail
      refine bodyPost_ret (v := .tuple #[.agg #[.int .i64 0, .int .i64 0, .int .i64 0, .slice none 0 0, .slice none 0 0], .int .i64 4]) ?_ rfl ?_
      · rw [results_cell_tmp rfl]
        go_simp
      · refine ret_badC HE.out ?_
        repeat' (first | with_reducible exact gV.trans gg | with_reducible refine Grow.set ?_ (by first | (simp; done) | (simp; omega)) _)
    · have HI := Lib.hid hi
      obtain ⟨i, hii⟩ : ∃ i : Nat, noteIx s id = i := ⟨(noteIx s id).toNat, by omega⟩
      have HII := Lib.hid hii
      have HNO := Lib.hid (noteOf_get (s := s) (id := id) (by omega))
      rw [hii] at cK1 hi hnd
      have hil : (i : Int) < s.notes.length := by omega
      have hil2 : i < s.notes.length := by omega
      clear hii hnd
      go_wp2_with fail
      refine cK1.mono ?_
      rintro e w2 ⟨rfl, g2⟩
      have gg := g1.trans g2
      clear cK1 g2 p0 p1 p2 p3 p4 hpz
      obtain ⟨⟨p0, p1, p2, p3, p4⟩, hpz⟩ := n5 (gg.blk HBX.out)
      obtain ⟨x, hx⟩ : ∃ x, x = noteOf s id := ⟨_, rfl⟩
      have hxi : s.notes[i]? = some x := by
        have h9 := HNO.out.1
        rw [HII.out, Int.toNat_natCast] at h9
        rw [hx]; exact h9
      obtain ⟨nb, off, tv, sv, ea, hnb, -, n1, -, -, -, -, -⟩ := Notes.at (Notes.grow HH.out.2 (gV.trans gg)) hxi
      have hxid : x.id = id := by rw [hx]; exact HNO.out.2
      have HXI := Lib.hid hxi
      have HXID := Lib.hid hxid
      have HX := Lib.hid hx
      have cN1 := fun W (g : Grow w W) => cN x.book W g
      clear hx hxi hxid cN
      subst ea
      rcases noteNE_cases s x.book id t with ⟨hb, h1⟩ | ⟨hb, h1, h2⟩ | ⟨hb, h1, h2⟩
      · have HN := Lib.hid h1
        simp only [hb] at cN1
        clear hb h1 cO
        have kT := fun y : Gr w2 => cN1 y.W ((gV.trans gg).trans y.g)
        go_upto_region 6 with (fail)
        refine wp_region_gr (by kernel_rfl) (by kernel_rfl) ?_
        repeat (go_big_quiet_step (first | (go_at_call 66; exact Calls.gr (kT _))))
        refine wpQuiet_nil ?_
        rintro _ ⟨y, rfl⟩
        have gh := gg.trans y.g
        generalize y.W = wy at *
        clear kT cN1 p0 p1 p2 p3 p4 hpz n1 hnb y
        have HE := Lib.hid (show retitleR s id t = bad 6 from res_bad (by unfold retitleE; rw [if_neg (by rw [HM.out]; simp), if_neg (by have := HI.out; omega), if_pos HN.out]) (by decide) _ _)
        obtain ⟨⟨e0, e1, e2, e3, e4⟩, hez⟩ := n5 (gh.blk HRX.out)
        have f0 := frozen_of_row _ (w.heap.size + 1) 0 _ _ (gh.blk HRX.out)
        have f1 := frozen_of_row _ (w.heap.size + 1) 1 _ _ (gh.blk HRX.out)
        have f2 := frozen_of_row _ (w.heap.size + 1) 2 _ _ (gh.blk HRX.out)
        have f3 := frozen_of_row _ (w.heap.size + 1) 3 _ _ (gh.blk HRX.out)
        have f4 := frozen_of_row _ (w.heap.size + 1) 4 _ _ (gh.blk HRX.out)
        go_wp2_with fail
        refine bodyPost_ret (v := .tuple #[.agg #[.int .i64 0, .int .i64 0, .int .i64 0, .slice none 0 0, .slice none 0 0], .int .i64 6]) ?_ rfl ?_
        · rw [results_cell_tmp rfl]
          go_simp
        · refine ret_badC HE.out ?_
          repeat' (first | with_reducible exact gV.trans gh | with_reducible refine Grow.set ?_ (by first | (simp; done) | (simp; omega)) _)
      · have HN := Lib.hid h1
        have HD := Lib.hid h2
        simp only [hb] at cN1
        clear hb h1 h2 cO
        have kT := fun y : Gr w2 => cN1 y.W ((gV.trans gg).trans y.g)
        go_upto_region 6 with (fail)
        refine wp_region_gr (by kernel_rfl) (by kernel_rfl) ?_
        repeat (go_big_quiet_step (first | (go_at_call 66; exact Calls.gr (kT _))))
        refine wpQuiet_nil ?_
        rintro _ ⟨y, rfl⟩
        have gh := gg.trans y.g
        generalize y.W = wy at *
        clear kT cN1 p0 p1 p2 p3 p4 hpz n1 hnb y
        have HE := Lib.hid (show retitleR s id t = bad 7 from res_bad (by unfold retitleE; rw [if_neg (by rw [HM.out]; simp), if_neg (by have := HI.out; omega), if_neg (by rw [HN.out]; simp), if_pos (by rw [← HX.out]; exact HD.out)]) (by decide) _ _)
        obtain ⟨⟨e0, e1, e2, e3, e4⟩, hez⟩ := n5 (gh.blk HRX.out)
        have f0 := frozen_of_row _ (w.heap.size + 1) 0 _ _ (gh.blk HRX.out)
        have f1 := frozen_of_row _ (w.heap.size + 1) 1 _ _ (gh.blk HRX.out)
        have f2 := frozen_of_row _ (w.heap.size + 1) 2 _ _ (gh.blk HRX.out)
        have f3 := frozen_of_row _ (w.heap.size + 1) 3 _ _ (gh.blk HRX.out)
        have f4 := frozen_of_row _ (w.heap.size + 1) 4 _ _ (gh.blk HRX.out)
        go_wp2_with fail
        refine bodyPost_ret (v := .tuple #[.agg #[.int .i64 0, .int .i64 0, .int .i64 0, .slice none 0 0, .slice none 0 0], .int .i64 7]) ?_ rfl ?_
        · rw [results_cell_tmp rfl]
          go_simp
        · refine ret_badC HE.out ?_
          repeat' (first | with_reducible exact gV.trans gh | with_reducible refine Grow.set ?_ (by first | (simp; done) | (simp; omega)) _)
      · have HN := Lib.hid h1
        have HD := Lib.hid h2
        simp only [hb] at cN1
        clear hb h1 h2
        have kT := fun y : Gr w2 => cN1 y.W ((gV.trans gg).trans y.g)
        go_upto_region 6 with (fail)
        refine wp_region_gr (by kernel_rfl) (by kernel_rfl) ?_
        repeat (go_big_quiet_step (first | (go_at_call 66; exact Calls.gr (kT _))))
        refine wpQuiet_nil ?_
        rintro _ ⟨y, rfl⟩
        have gh := gg.trans y.g
        generalize y.W = wy at *
        clear kT cN1 p0 p1 p2 p3 p4 hpz n1 hnb y
        obtain ⟨⟨p0, p1, p2, p3, p4⟩, hpz⟩ := n5 (gh.blk HBX.out)
        have hez : retitleE s id t = 0 := retitleE_zero.2 ⟨HM.out, by have := HI.out; omega, HN.out, by rw [← HX.out]; exact HD.out⟩
        have HMY := Lib.hid (mayS_iff.1 HM.out)
        have HE := Lib.hid (show retitleR s id t = ⟨{ s with notes := updN id (fun n => { n with name := t }) s.notes }, 0, 0⟩ from resOf_ok hez _ _)
        clear hez
        have cO1 := cO _ (gV.trans gh)
        go_wp2_with fail
        refine cO1.mono ?_
        rintro e w3 ⟨bv', nv', Y, rfl, ho, hmap, g3⟩
        have hs : StB w w.heap.size (w.heap.size + 1) s.nb s.nn s.ns bv' nv' s.books Y (((((w3.setCell ⟨w.heap.size, 0, none⟩ (.int .i64 s.nb)).setCell ⟨w.heap.size, 1, none⟩ (.int .i64 s.nn)).setCell ⟨w.heap.size, 2, none⟩ (.int .i64 s.ns)).setCell ⟨w.heap.size, 3, none⟩ bv').setCell ⟨w.heap.size, 4, none⟩ nv') := StB.start (s := s) (D := w.heap.size + 1) gV HBX.out HRX.out gh g3 ho ⟨Nat.le_refl _, by omega, by omega⟩
        obtain ⟨ba, bc, ebv, -⟩ := ho.books.slice
        obtain ⟨na, nc, env, -⟩ := ho.notes.slice
        have hYl : Y.length = s.notes.length := by rw [← hmap, List.length_map]
        rw [hYl] at env
        have HMAP := Lib.hid hmap
        have HYL := Lib.hid hYl
        subst ebv env
        obtain ⟨⟨p0', p1', p2', p3', p4'⟩, hpz'⟩ := n5 ((gh.trans g3).blk HBX.out)
        have HF3 := Lib.hid (frozen_of_row w3 w.heap.size 0 _ _ ((gh.trans g3).blk HBX.out))
        have ff : ∀ j, w3.frozen? ⟨w.heap.size, j, none⟩ = false := fun j => frozen_of_row w3 w.heap.size j _ _ ((gh.trans g3).blk HBX.out)
        have ff0 := ff 0
        have ff1 := ff 1
        have ff2 := ff 2
        have ff3 := ff 3
        have ff4 := ff 4
        have HOW3 := Lib.hid ho
        have HG3 := Lib.hid (gh.trans g3)
        have hw3 : w.heap.size < w3.heap.size := hpz'
        clear cO1 cO ho hmap g3 hYl p0 p1 p2 p3 p4 ff
        unfold shelfV
        go_upto_region 10 with (fail)
        generalize ((((w3.setCell ⟨w.heap.size, 0, none⟩ (.int .i64 s.nb)).setCell ⟨w.heap.size, 1, none⟩ (.int .i64 s.nn)).setCell ⟨w.heap.size, 2, none⟩ (.int .i64 s.ns)).setCell ⟨w.heap.size, 3, none⟩ (.slice ba s.books.length bc)).setCell ⟨w.heap.size, 4, none⟩ (.slice na s.notes.length nc) = W at *
        have HS := Lib.hid hs
        obtain ⟨⟨p0, p1, p2, p3, p4⟩, hpz⟩ := hs.five
        have hb3 := hs.boxF 3
        have hb4 := hs.boxF 4
        clear hs p0' p1' p2' p3' p4' ff0 ff1 ff2 ff3 ff4 hpz'
        obtain ⟨z, hz, hzn⟩ := nv_get HMAP.out HXI.out
        obtain ⟨b, cc, ebb, hbz, -, -, hcl⟩ := HS.out.own.note hz
        rw [HYL.out] at ebb
        injection ebb with eb1 eb2 eb3
        subst eb1 eb3
        have q1 := (hcl 2 _ rfl).1
        have qf := (hcl 2 _ rfl).2
        have HS2 := Lib.hid (HS.out.setN hz t (by rw [HYL.out]))
        have HMQ := Lib.hid (map_setN HMY.out.ninc HMAP.out hz (z := { z with n := { z.n with name := t } }) (fun n => { n with name := t }) rfl (show z.n.id = id by rw [hzn]; exact HXID.out))
        clear hcl hz hzn
        go_upto_region 11 with (fail)
        generalize W.setCell ⟨b, i * 5 + 2, none⟩ (.string t) = W2 at *
        clear p0 p1 p2 p3 p4 hpz hb3 hb4 HS q1 qf
        obtain ⟨⟨p0, p1, p2, p3, p4⟩, hpz⟩ := HS2.out.five
        obtain ⟨⟨e0, e1, e2, e3, e4⟩, hez⟩ := HS2.out.res5
        have f0 := HS2.out.resF 0
        have f1 := HS2.out.resF 1
        have f2 := HS2.out.resF 2
        have f3 := HS2.out.resF 3
        have f4 := HS2.out.resF 4
        have HOD := Lib.hid HS2.out.fin
        go_wp2_with fail
        refine bodyPost_ret (v := .tuple #[.agg #[.int .i64 s.nb, .int .i64 s.nn, .int .i64 s.ns, .slice ba s.books.length bc, .slice (some ⟨b, 0, none⟩) s.notes.length nc], .int .i64 0]) ?_ rfl ?_
        · rw [results_cell_tmp rfl]
          go_simp
        · refine ret_okC (D := w.heap.size + 1) (s := { s with notes := updN id (fun n => { n with name := t }) s.notes }) HE.out ?_ HMQ.out
          repeat' (first | with_reducible exact HOD.out | with_reducible refine OwnD2.drew ?_ | with_reducible refine OwnD2.set ?_ (by omega) _ _)
end Go.Proofs.YtnajccljdjllgaaGreatDoor
set_option linter.unusedVariables false
set_option linter.unusedSimpArgs false
namespace Go.Proofs.YtnajccljdjllgaaGreatDoor
open Go.RowKit Go.Lib
set_option maxRecDepth 100000 in
set_option maxHeartbeats 4000000 in
theorem refMove_any (s : Shelf) (bv nv : Value) (id q : Int) (w : World) (h : ShelfR w s bv nv) (hz : TameS s) (hT : Tabs w) :
    Calls Tryz.prog 38 #[shelfV s bv nv, .int .i64 id, .int .i64 q] w (RetC (moveR s id q) w) := by
  have cM := fun W (g : Grow w W) => refMay_any s bv nv W (h.grow g) hz
  have cO := fun W (g : Grow w W) => copy_any s bv nv W (h.grow g) hz.1
  have cK : ∀ W, Grow w W → Calls Tryz.prog 56 #[shelfV s bv nv, .int .i64 id] W fun e w' => e = .returned (.int .i64 (noteIx s id)) ∧ Grow W w' := fun W g => refNote_any s bv nv id W (h.grow g) (by have := hz.1.2.1; omega)
  have cB : ∀ W, Grow w W → Calls Tryz.prog 52 #[shelfV s bv nv, .int .i64 q] W fun e w' => e = .returned (.int .i64 (bookIx s q)) ∧ Grow W w' := fun W g => refBook_any s bv nv q W (h.grow g) (by have := hz.1.1; omega)
  have cN := fun t (ht : t.size ≤ 1000000000) W (g : Grow w W) => refNoteName_any s bv nv q id t W (h.grow g) (by have := hz.1.2.1; omega) ht
  have HH := Lib.hid h
  have hbl := hz.1.1
  have hnl := hz.1.2.1
  have hbd := idx_bd (fun x : Book => x.id == id) s.books
  have hnd := idx_bd (fun x : Note => x.id == id) s.notes
  rw [show idx (fun x : Book => x.id == id) s.books = bookIx s id from rfl] at hbd
  rw [show idx (fun x : Note => x.id == id) s.notes = noteIx s id from rfl] at hnd
  obtain ⟨a1, c1, rfl⟩ := h.1.mk
  obtain ⟨a2, c2, rfl⟩ := h.2.mk
  have HXX := Lib.hid (two_boxes2 w (shB s (.slice a1 s.books.length c1) (.slice a2 s.notes.length c2)) (shB ⟨0, 0, 0, [], []⟩ (.slice none 0 0) (.slice none 0 0)))
  clear h hz hT
  unfold shelfV at *
  go_enter Tryz.func38, Tryz.ntmps38
  go_upto_region 1 with (fail)
  generalize hV : (w.alloc (.cells #[.int .i64 s.nb, .int .i64 s.nn, .int .i64 s.ns, .slice a1 s.books.length c1, .slice a2 s.notes.length c2] 25)).alloc (.cells #[.int .i64 0, .int .i64 0, .int .i64 0, .slice none 0 0, .slice none 0 0] 25) = V
  have gV : Grow w V := by rw [← hV]; exact ((Grow.refl w).alloc _).alloc _
  have HBX : Hid (V.heap[w.heap.size]? = some (shB s (.slice a1 s.books.length c1) (.slice a2 s.notes.length c2))) := by rw [← hV]; exact Lib.hid HXX.out.1
  have HRX : Hid (V.heap[w.heap.size + 1]? = some (shB ⟨0, 0, 0, [], []⟩ (.slice none 0 0) (.slice none 0 0))) := by rw [← hV]; exact Lib.hid HXX.out.2
  obtain ⟨⟨p0, p1, p2, p3, p4⟩, hpz⟩ := n5 HBX.out
  clear hV
  have cM1 := cM V gV
  cases hm : mayS s with
  | false =>
    have HM := Lib.hid hm
    rw [hm] at cM1
    clear hm cO
    go_wp2_with fail
    refine cM1.mono ?_
    rintro e w1 ⟨rfl, g1⟩
    clear cM1 p0 p1 p2 p3 p4
    have HE := Lib.hid (show moveR s id q = bad 2 from res_bad (by unfold moveE; rw [if_pos HM.out]) (by decide) _ _)
    obtain ⟨⟨e0, e1, e2, e3, e4⟩, hez⟩ := n5 (g1.blk HRX.out)
    have f0 := frozen_of_row _ (w.heap.size + 1) 0 _ _ (g1.blk HRX.out)
    have f1 := frozen_of_row _ (w.heap.size + 1) 1 _ _ (g1.blk HRX.out)
    have f2 := frozen_of_row _ (w.heap.size + 1) 2 _ _ (g1.blk HRX.out)
    have f3 := frozen_of_row _ (w.heap.size + 1) 3 _ _ (g1.blk HRX.out)
    have f4 := frozen_of_row _ (w.heap.size + 1) 4 _ _ (g1.blk HRX.out)
    go_wp2_with fail
    refine bodyPost_ret (v := .tuple #[.agg #[.int .i64 0, .int .i64 0, .int .i64 0, .slice none 0 0, .slice none 0 0], .int .i64 2]) ?_ rfl ?_
    · rw [results_cell_tmp rfl]
      go_simp
    · refine ret_badC HE.out ?_
      repeat' (first | with_reducible exact gV.trans g1 | with_reducible refine Grow.set ?_ (by first | (simp; done) | (simp; omega)) _)
  | true =>
    have HM := Lib.hid hm
    rw [hm] at cM1
    clear hm
    go_wp2_with fail
    refine cM1.mono ?_
    rintro e w1 ⟨rfl, g1⟩
    clear cM1 p0 p1 p2 p3 p4
    obtain ⟨⟨p0, p1, p2, p3, p4⟩, hpz⟩ := n5 (g1.blk HBX.out)
    have cK1 := cK _ (gV.trans g1)
    by_cases hi : noteIx s id < 0
    · have HI := Lib.hid hi
      clear cO cN cB
      go_wp2_with fail
      refine cK1.mono ?_
      rintro e w2 ⟨rfl, g2⟩
      have gg := g1.trans g2
      clear cK1 g2 p0 p1 p2 p3 p4 hpz
      have HE := Lib.hid (show moveR s id q = bad 4 from res_bad (by unfold moveE; rw [if_neg (by rw [HM.out]; simp), if_pos (.inl HI.out)]) (by decide) _ _)
      obtain ⟨⟨e0, e1, e2, e3, e4⟩, hez⟩ := n5 (gg.blk HRX.out)
      have f0 := frozen_of_row _ (w.heap.size + 1) 0 _ _ (gg.blk HRX.out)
      have f1 := frozen_of_row _ (w.heap.size + 1) 1 _ _ (gg.blk HRX.out)
      have f2 := frozen_of_row _ (w.heap.size + 1) 2 _ _ (gg.blk HRX.out)
      have f3 := frozen_of_row _ (w.heap.size + 1) 3 _ _ (gg.blk HRX.out)
      have f4 := frozen_of_row _ (w.heap.size + 1) 4 _ _ (gg.blk HRX.out)
      go_wp2_with fail
      refine bodyPost_ret (v := .tuple #[.agg #[.int .i64 0, .int .i64 0, .int .i64 0, .slice none 0 0, .slice none 0 0], .int .i64 4]) ?_ rfl ?_
      · rw [results_cell_tmp rfl]
        go_simp
      · refine ret_badC HE.out ?_
        repeat' (first | with_reducible exact gV.trans gg | with_reducible refine Grow.set ?_ (by first | (simp; done) | (simp; omega)) _)
    · have HI := Lib.hid hi
      obtain ⟨i, hii⟩ : ∃ i : Nat, noteIx s id = i := ⟨(noteIx s id).toNat, by omega⟩
      have HII := Lib.hid hii
      have HNO := Lib.hid (noteOf_get (s := s) (id := id) (by omega))
      rw [hii] at cK1 hi hnd
      have hil : (i : Int) < s.notes.length := by omega
      have hil2 : i < s.notes.length := by omega
      clear hii hnd
      go_wp2_with fail
      refine cK1.mono ?_
      rintro e w2 ⟨rfl, g2⟩
      have gg := g1.trans g2
      clear cK1 g2 p0 p1 p2 p3 p4 hpz
      obtain ⟨⟨p0, p1, p2, p3, p4⟩, hpz⟩ := n5 (gg.blk HBX.out)
      have cB1 := cB _ (gV.trans gg)
      by_cases hq : bookIx s q < 0
      · have HQ := Lib.hid hq
        clear cO cN
        go_wp2_with fail
        refine cB1.mono ?_
        rintro e w3 ⟨rfl, g3⟩
        have gh := gg.trans g3
        clear cB1 g3 p0 p1 p2 p3 p4 hpz
        have HE := Lib.hid (show moveR s id q = bad 4 from res_bad (by unfold moveE; rw [if_neg (by rw [HM.out]; simp), if_pos (.inr HQ.out)]) (by decide) _ _)
        obtain ⟨⟨e0, e1, e2, e3, e4⟩, hez⟩ := n5 (gh.blk HRX.out)
        have f0 := frozen_of_row _ (w.heap.size + 1) 0 _ _ (gh.blk HRX.out)
        have f1 := frozen_of_row _ (w.heap.size + 1) 1 _ _ (gh.blk HRX.out)
        have f2 := frozen_of_row _ (w.heap.size + 1) 2 _ _ (gh.blk HRX.out)
        have f3 := frozen_of_row _ (w.heap.size + 1) 3 _ _ (gh.blk HRX.out)
        have f4 := frozen_of_row _ (w.heap.size + 1) 4 _ _ (gh.blk HRX.out)
        go_wp2_with fail
        refine bodyPost_ret (v := .tuple #[.agg #[.int .i64 0, .int .i64 0, .int .i64 0, .slice none 0 0, .slice none 0 0], .int .i64 4]) ?_ rfl ?_
        · rw [results_cell_tmp rfl]
          go_simp
        · refine ret_badC HE.out ?_
          repeat' (first | with_reducible exact gV.trans gh | with_reducible refine Grow.set ?_ (by first | (simp; done) | (simp; omega)) _)
      · have HQ := Lib.hid hq
        go_wp2_with fail
        refine cB1.mono ?_
        rintro e wq ⟨rfl, g3⟩
        have gi := gg.trans g3
        clear cB1 g3 p0 p1 p2 p3 p4 hpz
        obtain ⟨⟨p0, p1, p2, p3, p4⟩, hpz⟩ := n5 (gi.blk HBX.out)
        have HMY := Lib.hid (mayS_iff.1 HM.out)
        obtain ⟨x, hx⟩ : ∃ x, x = noteOf s id := ⟨_, rfl⟩
        have hxi : s.notes[i]? = some x := by
          have h9 := HNO.out.1
          rw [HII.out, Int.toNat_natCast] at h9
          rw [hx]; exact h9
        obtain ⟨nb, off, tv, sv, ea, hnb, -, -, n2, -, -, -, -⟩ := Notes.at (Notes.grow HH.out.2 (gV.trans gi)) hxi
        have hxid : x.id = id := by rw [hx]; exact HNO.out.2
        have HXI := Lib.hid hxi
        have HXID := Lib.hid hxid
        have HX := Lib.hid hx
        have cN1 := fun W (g : Grow w W) => cN x.name (by have := mayB_small (HMY.out.nmay x (List.mem_of_getElem? HXI.out)); omega) W g
        clear hx hxi hxid cN
        subst ea
        rcases noteNE_cases s q id x.name with ⟨hb, h1⟩ | ⟨hb, h1, h2⟩ | ⟨hb, h1, h2⟩
        · exact absurd h1 (by rw [HMY.out.nmay x (List.mem_of_getElem? HXI.out)]; simp)
        · have HN := Lib.hid h1
          have HD := Lib.hid h2
          simp only [hb] at cN1
          clear hb h1 h2 cO
          have kT := fun y : Gr wq => cN1 y.W ((gV.trans gi).trans y.g)
          go_upto_region 6 with (fail)
          refine wp_region_gr (by kernel_rfl) (by kernel_rfl) ?_
          repeat (go_big_quiet_step (first | (go_at_call 66; exact Calls.gr (kT _))))
          refine wpQuiet_nil ?_
          rintro _ ⟨y, rfl⟩
          have gh := gi.trans y.g
          generalize y.W = wy at *
          clear kT cN1 p0 p1 p2 p3 p4 hpz n2 hnb y
          have HE := Lib.hid (show moveR s id q = bad 7 from res_bad (by unfold moveE; rw [if_neg (by rw [HM.out]; simp), if_neg (by have := HI.out; have := HQ.out; omega), if_pos (by rw [← HX.out]; exact HD.out)]) (by decide) _ _)
          obtain ⟨⟨e0, e1, e2, e3, e4⟩, hez⟩ := n5 (gh.blk HRX.out)
          have f0 := frozen_of_row _ (w.heap.size + 1) 0 _ _ (gh.blk HRX.out)
          have f1 := frozen_of_row _ (w.heap.size + 1) 1 _ _ (gh.blk HRX.out)
          have f2 := frozen_of_row _ (w.heap.size + 1) 2 _ _ (gh.blk HRX.out)
          have f3 := frozen_of_row _ (w.heap.size + 1) 3 _ _ (gh.blk HRX.out)
          have f4 := frozen_of_row _ (w.heap.size + 1) 4 _ _ (gh.blk HRX.out)
          go_wp2_with fail
          refine bodyPost_ret (v := .tuple #[.agg #[.int .i64 0, .int .i64 0, .int .i64 0, .slice none 0 0, .slice none 0 0], .int .i64 7]) ?_ rfl ?_
          · rw [results_cell_tmp rfl]
            go_simp
          · refine ret_badC HE.out ?_
            repeat' (first | with_reducible exact gV.trans gh | with_reducible refine Grow.set ?_ (by first | (simp; done) | (simp; omega)) _)
        · have HN := Lib.hid h1
          have HD := Lib.hid h2
          simp only [hb] at cN1
          clear hb h1 h2
          have kT := fun y : Gr wq => cN1 y.W ((gV.trans gi).trans y.g)
          go_upto_region 6 with (fail)
          refine wp_region_gr (by kernel_rfl) (by kernel_rfl) ?_
          repeat (go_big_quiet_step (first | (go_at_call 66; exact Calls.gr (kT _))))
          refine wpQuiet_nil ?_
          rintro _ ⟨y, rfl⟩
          have gh := gi.trans y.g
          generalize y.W = wy at *
          clear kT cN1 p0 p1 p2 p3 p4 hpz n2 hnb y
          obtain ⟨⟨p0, p1, p2, p3, p4⟩, hpz⟩ := n5 (gh.blk HBX.out)
          have hez : moveE s id q = 0 := moveE_zero.2 ⟨HM.out, by have := HI.out; omega, by have := HQ.out; omega, by rw [← HX.out]; exact HD.out⟩
          have HE := Lib.hid (show moveR s id q = ⟨{ s with notes := updN id (fun n => { n with book := q }) s.notes }, 0, 0⟩ from resOf_ok hez _ _)
          clear hez
          have cO1 := cO _ (gV.trans gh)
          go_wp2_with fail
          refine cO1.mono ?_
          rintro e w3 ⟨bv', nv', Y, rfl, ho, hmap, g3⟩
          have hs : StB w w.heap.size (w.heap.size + 1) s.nb s.nn s.ns bv' nv' s.books Y (((((w3.setCell ⟨w.heap.size, 0, none⟩ (.int .i64 s.nb)).setCell ⟨w.heap.size, 1, none⟩ (.int .i64 s.nn)).setCell ⟨w.heap.size, 2, none⟩ (.int .i64 s.ns)).setCell ⟨w.heap.size, 3, none⟩ bv').setCell ⟨w.heap.size, 4, none⟩ nv') := StB.start (s := s) (D := w.heap.size + 1) gV HBX.out HRX.out gh g3 ho ⟨Nat.le_refl _, by omega, by omega⟩
          obtain ⟨ba, bc, ebv, -⟩ := ho.books.slice
          obtain ⟨na, nc, env, -⟩ := ho.notes.slice
          have hYl : Y.length = s.notes.length := by rw [← hmap, List.length_map]
          rw [hYl] at env
          have HMAP := Lib.hid hmap
          have HYL := Lib.hid hYl
          subst ebv env
          obtain ⟨⟨p0', p1', p2', p3', p4'⟩, hpz'⟩ := n5 ((gh.trans g3).blk HBX.out)
          have HF3 := Lib.hid (frozen_of_row w3 w.heap.size 0 _ _ ((gh.trans g3).blk HBX.out))
          have ff : ∀ j, w3.frozen? ⟨w.heap.size, j, none⟩ = false := fun j => frozen_of_row w3 w.heap.size j _ _ ((gh.trans g3).blk HBX.out)
          have ff0 := ff 0
          have ff1 := ff 1
          have ff2 := ff 2
          have ff3 := ff 3
          have ff4 := ff 4
          have HOW3 := Lib.hid ho
          have HG3 := Lib.hid (gh.trans g3)
          have hw3 : w.heap.size < w3.heap.size := hpz'
          clear cO1 cO ho hmap g3 hYl p0 p1 p2 p3 p4 ff
          unfold shelfV
          go_upto_region 10 with (fail)
          generalize ((((w3.setCell ⟨w.heap.size, 0, none⟩ (.int .i64 s.nb)).setCell ⟨w.heap.size, 1, none⟩ (.int .i64 s.nn)).setCell ⟨w.heap.size, 2, none⟩ (.int .i64 s.ns)).setCell ⟨w.heap.size, 3, none⟩ (.slice ba s.books.length bc)).setCell ⟨w.heap.size, 4, none⟩ (.slice na s.notes.length nc) = W at *
          have HS := Lib.hid hs
          obtain ⟨⟨p0, p1, p2, p3, p4⟩, hpz⟩ := hs.five
          have hb3 := hs.boxF 3
          have hb4 := hs.boxF 4
          clear hs p0' p1' p2' p3' p4' ff0 ff1 ff2 ff3 ff4 hpz'
          obtain ⟨z, hz, hzn⟩ := nv_get HMAP.out HXI.out
          obtain ⟨b, cc, ebb, hbz, -, -, hcl⟩ := HS.out.own.note hz
          rw [HYL.out] at ebb
          injection ebb with eb1 eb2 eb3
          subst eb1 eb3
          have q1 := (hcl 1 _ rfl).1
          have qf := (hcl 1 _ rfl).2
          have HS2 := Lib.hid (HS.out.setQ hz q (by rw [HYL.out]))
          have HMQ := Lib.hid (map_setN HMY.out.ninc HMAP.out hz (z := { z with n := { z.n with book := q } }) (fun n => { n with book := q }) rfl (show z.n.id = id by rw [hzn]; exact HXID.out))
          clear hcl hz hzn
          go_upto_region 11 with (fail)
          generalize W.setCell ⟨b, i * 5 + 1, none⟩ (.int .i64 q) = W2 at *
          clear p0 p1 p2 p3 p4 hpz hb3 hb4 HS q1 qf
          obtain ⟨⟨p0, p1, p2, p3, p4⟩, hpz⟩ := HS2.out.five
          obtain ⟨⟨e0, e1, e2, e3, e4⟩, hez⟩ := HS2.out.res5
          have f0 := HS2.out.resF 0
          have f1 := HS2.out.resF 1
          have f2 := HS2.out.resF 2
          have f3 := HS2.out.resF 3
          have f4 := HS2.out.resF 4
          have HOD := Lib.hid HS2.out.fin
          go_wp2_with fail
          refine bodyPost_ret (v := .tuple #[.agg #[.int .i64 s.nb, .int .i64 s.nn, .int .i64 s.ns, .slice ba s.books.length bc, .slice (some ⟨b, 0, none⟩) s.notes.length nc], .int .i64 0]) ?_ rfl ?_
          · rw [results_cell_tmp rfl]
            go_simp
          · refine ret_okC (D := w.heap.size + 1) (s := { s with notes := updN id (fun n => { n with book := q }) s.notes }) HE.out ?_ HMQ.out
            repeat' (first | with_reducible exact HOD.out | with_reducible refine OwnD2.drew ?_ | with_reducible refine OwnD2.set ?_ (by omega) _ _)
end Go.Proofs.YtnajccljdjllgaaGreatDoor
set_option linter.unusedVariables false
set_option linter.unusedSimpArgs false
namespace Go.Proofs.YtnajccljdjllgaaGreatDoor
open Go.RowKit Go.Lib
set_option maxRecDepth 100000 in
set_option maxHeartbeats 4000000 in
theorem refDiscard_any (s : Shelf) (bv nv : Value) (id : Int) (w : World) (h : ShelfR w s bv nv) (hz : TameS s) (hT : Tabs w) :
    Calls Tryz.prog 40 #[shelfV s bv nv, .int .i64 id] w (RetC (discardR s id) w) := by
  have cM := fun W (g : Grow w W) => refMay_any s bv nv W (h.grow g) hz
  obtain ⟨inn, hinn, innz0, innz1, innz2⟩ := info_parts info_note
  have cO := fun W (g : Grow w W) => copy_any s bv nv W (h.grow g) hz.1
  have cK : ∀ W, Grow w W → Calls Tryz.prog 56 #[shelfV s bv nv, .int .i64 id] W fun e w' => e = .returned (.int .i64 (noteIx s id)) ∧ Grow W w' := fun W g => refNote_any s bv nv id W (h.grow g) (by have := hz.1.2.1; omega)
  have hbl := hz.1.1
  have hnl := hz.1.2.1
  have hbd := idx_bd (fun x : Book => x.id == id) s.books
  have hnd := idx_bd (fun x : Note => x.id == id) s.notes
  rw [show idx (fun x : Book => x.id == id) s.books = bookIx s id from rfl] at hbd
  rw [show idx (fun x : Note => x.id == id) s.notes = noteIx s id from rfl] at hnd
  obtain ⟨a1, c1, rfl⟩ := h.1.mk
  obtain ⟨a2, c2, rfl⟩ := h.2.mk
  have HXX := Lib.hid (two_boxes2 w (shB s (.slice a1 s.books.length c1) (.slice a2 s.notes.length c2)) (shB ⟨0, 0, 0, [], []⟩ (.slice none 0 0) (.slice none 0 0)))
  clear h hz hT
  unfold shelfV at *
  go_enter Tryz.func40, Tryz.ntmps40
  go_upto_region 1 with (fail)
  generalize hV : (w.alloc (.cells #[.int .i64 s.nb, .int .i64 s.nn, .int .i64 s.ns, .slice a1 s.books.length c1, .slice a2 s.notes.length c2] 25)).alloc (.cells #[.int .i64 0, .int .i64 0, .int .i64 0, .slice none 0 0, .slice none 0 0] 25) = V
  have gV : Grow w V := by rw [← hV]; exact ((Grow.refl w).alloc _).alloc _
  have HBX : Hid (V.heap[w.heap.size]? = some (shB s (.slice a1 s.books.length c1) (.slice a2 s.notes.length c2))) := by rw [← hV]; exact Lib.hid HXX.out.1
  have HRX : Hid (V.heap[w.heap.size + 1]? = some (shB ⟨0, 0, 0, [], []⟩ (.slice none 0 0) (.slice none 0 0))) := by rw [← hV]; exact Lib.hid HXX.out.2
  obtain ⟨⟨p0, p1, p2, p3, p4⟩, hpz⟩ := n5 HBX.out
  clear hV
  have cM1 := cM V gV
  cases hm : mayS s with
  | false =>
    have HM := Lib.hid hm
    rw [hm] at cM1
    clear hm cO
    go_wp2_with fail
    refine cM1.mono ?_
    rintro e w1 ⟨rfl, g1⟩
    clear cM1 p0 p1 p2 p3 p4
    have HE := Lib.hid (show discardR s id = bad 2 from res_bad (by unfold noteE; rw [if_pos HM.out]) (by decide) _ _)
    obtain ⟨⟨e0, e1, e2, e3, e4⟩, hez⟩ := n5 (g1.blk HRX.out)
    have f0 := frozen_of_row _ (w.heap.size + 1) 0 _ _ (g1.blk HRX.out)
    have f1 := frozen_of_row _ (w.heap.size + 1) 1 _ _ (g1.blk HRX.out)
    have f2 := frozen_of_row _ (w.heap.size + 1) 2 _ _ (g1.blk HRX.out)
    have f3 := frozen_of_row _ (w.heap.size + 1) 3 _ _ (g1.blk HRX.out)
    have f4 := frozen_of_row _ (w.heap.size + 1) 4 _ _ (g1.blk HRX.out)
    go_wp2_with fail
    refine bodyPost_ret (v := .tuple #[.agg #[.int .i64 0, .int .i64 0, .int .i64 0, .slice none 0 0, .slice none 0 0], .int .i64 2]) ?_ rfl ?_
    · rw [results_cell_tmp rfl]
      go_simp
    · refine ret_badC HE.out ?_
      repeat' (first | with_reducible exact gV.trans g1 | with_reducible refine Grow.set ?_ (by first | (simp; done) | (simp; omega)) _)
  | true =>
    have HM := Lib.hid hm
    rw [hm] at cM1
    clear hm
    go_wp2_with fail
    refine cM1.mono ?_
    rintro e w1 ⟨rfl, g1⟩
    clear cM1 p0 p1 p2 p3 p4
    obtain ⟨⟨p0, p1, p2, p3, p4⟩, hpz⟩ := n5 (g1.blk HBX.out)
    have cK1 := cK _ (gV.trans g1)
    by_cases hi : noteIx s id < 0
    · have HI := Lib.hid hi
      clear cO
      go_wp2_with fail
      refine cK1.mono ?_
      rintro e w2 ⟨rfl, g2⟩
      have gg := g1.trans g2
      clear cK1 g2 p0 p1 p2 p3 p4 hpz
      have HE := Lib.hid (show discardR s id = bad 4 from res_bad (by unfold noteE; rw [if_neg (by rw [HM.out]; simp), if_pos HI.out]) (by decide) _ _)
      obtain ⟨⟨e0, e1, e2, e3, e4⟩, hez⟩ := n5 (gg.blk HRX.out)
      have f0 := frozen_of_row _ (w.heap.size + 1) 0 _ _ (gg.blk HRX.out)
      have f1 := frozen_of_row _ (w.heap.size + 1) 1 _ _ (gg.blk HRX.out)
      have f2 := frozen_of_row _ (w.heap.size + 1) 2 _ _ (gg.blk HRX.out)
      have f3 := frozen_of_row _ (w.heap.size + 1) 3 _ _ (gg.blk HRX.out)
      have f4 := frozen_of_row _ (w.heap.size + 1) 4 _ _ (gg.blk HRX.out)
      go_wp2_with fail
      refine bodyPost_ret (v := .tuple #[.agg #[.int .i64 0, .int .i64 0, .int .i64 0, .slice none 0 0, .slice none 0 0], .int .i64 4]) ?_ rfl ?_
      · rw [results_cell_tmp rfl]
        go_simp
      · refine ret_badC HE.out ?_
        repeat' (first | with_reducible exact gV.trans gg | with_reducible refine Grow.set ?_ (by first | (simp; done) | (simp; omega)) _)
    · have HI := Lib.hid hi
      obtain ⟨i, hii⟩ : ∃ i : Nat, noteIx s id = i := ⟨(noteIx s id).toNat, by omega⟩
      have HII := Lib.hid hii
      have HNO := Lib.hid (noteOf_get (s := s) (id := id) (by omega))
      rw [hii] at cK1 hi hnd
      have hil : (i : Int) < s.notes.length := by omega
      have hil2 : i < s.notes.length := by omega
      clear hii hnd
      go_wp2_with fail
      refine cK1.mono ?_
      rintro e w2 ⟨rfl, g2⟩
      have gg := g1.trans g2
      clear cK1 g2 p0 p1 p2 p3 p4 hpz
      obtain ⟨⟨p0, p1, p2, p3, p4⟩, hpz⟩ := n5 (gg.blk HBX.out)
      have hn0 := HNO.out
      rw [HII.out, Int.toNat_natCast] at hn0
      have HMY := Lib.hid (mayS_iff.1 HM.out)
      have HE := Lib.hid (show discardR s id = ⟨{ s with notes := s.notes.filter (fun n => !(n.id == id)) }, 0, 0⟩ from resOf_ok (noteE_zero.2 ⟨HM.out, by have := HI.out; omega⟩) _ _)
      have HER := Lib.hid (show s.notes.eraseIdx i = s.notes.filter (fun n => !(n.id == id)) by rw [erase_notes HMY.out hn0.1, hn0.2])
      clear hn0
      have cO1 := cO _ (gV.trans gg)
      go_wp2_with fail
      refine cO1.mono ?_
      rintro e w3 ⟨bv', nv', Y, rfl, ho, hmap, g3⟩
      have hs : StB w w.heap.size (w.heap.size + 1) s.nb s.nn s.ns bv' nv' s.books Y (((((w3.setCell ⟨w.heap.size, 0, none⟩ (.int .i64 s.nb)).setCell ⟨w.heap.size, 1, none⟩ (.int .i64 s.nn)).setCell ⟨w.heap.size, 2, none⟩ (.int .i64 s.ns)).setCell ⟨w.heap.size, 3, none⟩ bv').setCell ⟨w.heap.size, 4, none⟩ nv') := StB.start (s := s) (D := w.heap.size + 1) gV HBX.out HRX.out gg g3 ho ⟨Nat.le_refl _, by omega, by omega⟩
      obtain ⟨ba, bc, ebv, -⟩ := ho.books.slice
      obtain ⟨na, nc, env, -⟩ := ho.notes.slice
      have hYl : Y.length = s.notes.length := by rw [← hmap, List.length_map]
      rw [hYl] at env
      have HMAP := Lib.hid hmap
      have HYL := Lib.hid hYl
      subst ebv env
      obtain ⟨⟨p0', p1', p2', p3', p4'⟩, hpz'⟩ := n5 ((gg.trans g3).blk HBX.out)
      have HF3 := Lib.hid (frozen_of_row w3 w.heap.size 0 _ _ ((gg.trans g3).blk HBX.out))
      have ff : ∀ j, w3.frozen? ⟨w.heap.size, j, none⟩ = false := fun j => frozen_of_row w3 w.heap.size j _ _ ((gg.trans g3).blk HBX.out)
      have ff0 := ff 0
      have ff1 := ff 1
      have ff2 := ff 2
      have ff3 := ff 3
      have ff4 := ff 4
      have HOW3 := Lib.hid ho
      have HG3 := Lib.hid (gg.trans g3)
      have hw3 : w.heap.size < w3.heap.size := hpz'
      clear cO1 cO ho hmap g3 hYl p0 p1 p2 p3 p4 ff
      unfold shelfV
      go_upto_region 7 with (fail)
      generalize ((((w3.setCell ⟨w.heap.size, 0, none⟩ (.int .i64 s.nb)).setCell ⟨w.heap.size, 1, none⟩ (.int .i64 s.nn)).setCell ⟨w.heap.size, 2, none⟩ (.int .i64 s.ns)).setCell ⟨w.heap.size, 3, none⟩ (.slice ba s.books.length bc)).setCell ⟨w.heap.size, 4, none⟩ (.slice na s.notes.length nc) = W at *
      have HS := Lib.hid hs
      obtain ⟨⟨p0, p1, p2, p3, p4⟩, hpz⟩ := hs.five
      have hb3 := hs.boxF 3
      have hb4 := hs.boxF 4
      clear hs p0' p1' p2' p3' p4' ff0 ff1 ff2 ff3 ff4 hpz'
      obtain ⟨y, hy, -⟩ := lt_get (l := Y) (i := i) (by rw [HYL.out]; exact hil2)
      obtain ⟨b, cc, ebb, hbz, hcc, hbk0, -⟩ := HS.out.own.note hy
      rw [HYL.out] at ebb hcc
      injection ebb with eb1 eb2 eb3
      subst eb1 eb3
      clear hy
      have HROW := Lib.hid ((HS.out.own.notes).grow (Grow.refl W).drew)
      rw [HYL.out] at HROW
      have HBK := Lib.hid hbk0
      clear hbk0
      have hc0 : ¬ nc = 0 := by omega
      have hile : (i : Int) ≤ nc := by omega
      have hile2 : (i : Int) + 1 ≤ s.notes.length := by omega
      have hile3 : 0 ≤ (i : Int) + 1 := by omega
      have hile4 : (i : Int) ≤ (i : Int) + 1 := by omega
      have hwr : IntKind.i64.wrap ((i : Int) + 1) = ((i + 1 : Nat) : Int) := by have := IntWalk.i64_in ((i : Int) + 1) (by omega); omega
      rcases Classical.em (nc = i + 1) with rfl | hci
      · go_region_law (refine step_erase (P := Tryz.prog) (i := i) (l := Y) (base := w.heap.size) (b := b) (c := (i + 1)) noteC (fun _ => rfl) (by rfl) _ _ (by rfl) Tryz.underlying23 hinn innz0 innz1 innz2 (by rfl) (by decide) (n := s.notes.length) W.drew HROW.out HYL.out (by omega) HS.out.grow.drew.size (nv_one HS.out.own) (by omega) (by decide) (some ⟨b, 0, none⟩) 0 0 (by rfl) (by rfl) (by omega) (fun hlt => by first | (with_reducible rfl) | (exfalso; omega)) ?_; intro v' w4 ra; obtain ⟨hr, hg, hbk⟩ := ra; obtain ⟨va, vc, e3, -⟩ := hr.slice; subst e3; obtain ⟨k3, f3, z3, hs4⟩ := (HS.out.more (Grow.refl W).drew).subN (List.eraseIdx_sublist _ _) hr (by rw [HBK.out]; exact hg); have HS3 := Lib.hid hs4; clear hs4 hr hg hbk)
        all_goals
          obtain ⟨m, hm⟩ : ∃ m, m = (Y.eraseIdx i).length := ⟨_, rfl⟩
          rw [← hm] at HS3 ⊢
          have HMF := Lib.hid (show (Y.eraseIdx i).map NV.n = s.notes.filter (fun n => !(n.id == id)) by rw [map_erase, HMAP.out, HER.out])
          clear p0 p1 p2 p3 p4 hpz hb3 hb4 hm
          go_upto_region 8 with (fail)
          generalize w4.setCell ⟨w.heap.size, 4, none⟩ (.slice va m vc) = W3 at *
          clear k3 f3 z3 HS
          obtain ⟨⟨p0, p1, p2, p3, p4⟩, hpz⟩ := HS3.out.five
          obtain ⟨⟨e0, e1, e2, e3, e4⟩, hez⟩ := HS3.out.res5
          have f0 := HS3.out.resF 0
          have f1 := HS3.out.resF 1
          have f2 := HS3.out.resF 2
          have f3 := HS3.out.resF 3
          have f4 := HS3.out.resF 4
          have HOD := Lib.hid HS3.out.fin
          go_wp2_with fail
          refine bodyPost_ret (v := .tuple #[.agg #[.int .i64 s.nb, .int .i64 s.nn, .int .i64 s.ns, .slice ba s.books.length bc, .slice va m vc], .int .i64 0]) ?_ rfl ?_
          · rw [results_cell_tmp rfl]
            go_simp
          · refine ret_okC (D := w.heap.size + 1) (s := { s with notes := s.notes.filter (fun n => !(n.id == id)) }) HE.out ?_ HMF.out
            repeat' (first | with_reducible exact HOD.out | with_reducible refine OwnD2.drew ?_ | with_reducible refine OwnD2.set ?_ (by omega) _ _)
      · go_region_law (refine step_erase (P := Tryz.prog) (i := i) (l := Y) (base := w.heap.size) (b := b) (c := nc) noteC (fun _ => rfl) (by rfl) _ _ (by rfl) Tryz.underlying23 hinn innz0 innz1 innz2 (by rfl) (by decide) (n := s.notes.length) W.drew HROW.out HYL.out (by omega) HS.out.grow.drew.size (nv_one HS.out.own) (by omega) (by decide) (some ⟨b, (i + 1) * 5, none⟩) (s.notes.length - (i + 1)) (nc - (i + 1)) (by rfl) (by rfl) (by omega) (fun hlt => by first | (with_reducible rfl) | (exfalso; omega)) ?_; intro v' w4 ra; obtain ⟨hr, hg, hbk⟩ := ra; obtain ⟨va, vc, e3, -⟩ := hr.slice; subst e3; obtain ⟨k3, f3, z3, hs4⟩ := (HS.out.more (Grow.refl W).drew).subN (List.eraseIdx_sublist _ _) hr (by rw [HBK.out]; exact hg); have HS3 := Lib.hid hs4; clear hs4 hr hg hbk)
        all_goals
          obtain ⟨m, hm⟩ : ∃ m, m = (Y.eraseIdx i).length := ⟨_, rfl⟩
          rw [← hm] at HS3 ⊢
          have HMF := Lib.hid (show (Y.eraseIdx i).map NV.n = s.notes.filter (fun n => !(n.id == id)) by rw [map_erase, HMAP.out, HER.out])
          clear p0 p1 p2 p3 p4 hpz hb3 hb4 hm
          go_upto_region 8 with (fail)
          generalize w4.setCell ⟨w.heap.size, 4, none⟩ (.slice va m vc) = W3 at *
          clear k3 f3 z3 HS
          obtain ⟨⟨p0, p1, p2, p3, p4⟩, hpz⟩ := HS3.out.five
          obtain ⟨⟨e0, e1, e2, e3, e4⟩, hez⟩ := HS3.out.res5
          have f0 := HS3.out.resF 0
          have f1 := HS3.out.resF 1
          have f2 := HS3.out.resF 2
          have f3 := HS3.out.resF 3
          have f4 := HS3.out.resF 4
          have HOD := Lib.hid HS3.out.fin
          go_wp2_with fail
          refine bodyPost_ret (v := .tuple #[.agg #[.int .i64 s.nb, .int .i64 s.nn, .int .i64 s.ns, .slice ba s.books.length bc, .slice va m vc], .int .i64 0]) ?_ rfl ?_
          · rw [results_cell_tmp rfl]
            go_simp
          · refine ret_okC (D := w.heap.size + 1) (s := { s with notes := s.notes.filter (fun n => !(n.id == id)) }) HE.out ?_ HMF.out
            repeat' (first | with_reducible exact HOD.out | with_reducible refine OwnD2.drew ?_ | with_reducible refine OwnD2.set ?_ (by omega) _ _)
end Go.Proofs.YtnajccljdjllgaaGreatDoor
