/- shelf.Make. -/
import Derived.Test.YtieohecgoaakmaaDoorSt
set_option linter.unusedVariables false
set_option linter.unusedSimpArgs false
namespace Go.Proofs.YtieohecgoaakmaaDoor
open Go.RowKit Go.Lib
set_option maxRecDepth 100000 in
set_option maxHeartbeats 4000000 in
theorem make_any (s : Shelf) (bv nv : Value) (t : ByteArray) (w : World) (h : ShelfR w s bv nv) (hz : TameS s) (ht : t.size ≤ 1000000000) (hT : Tabs w) :
    Calls Tryd.prog 18 #[shelfV s bv nv, .string t] w (RetM (makeR s t) w) := by
  obtain ⟨ib, hib, hbz0, hbz1, hbz2⟩ := info_parts info_book
  have cM := fun W (g : Grow w W) => mayS_any s bv nv W (h.grow g) hz (hT.below g)
  have cN := fun W (g : Grow w W) => may_any t W ht (hT.below g)
  have cB := fun W (g : Grow w W) => named_any bv s.books t W (h.1.grow g) (by have := hz.1.1; omega)
  have cO := fun W (g : Grow w W) => own_any s bv nv W (h.grow g) hz.1
  have hbl := hz.1.1
  have hbd := idx_bd (fun x : Book => x.name.toList == t.toList) s.books
  have HRF := Lib.hid (show nameIx s.books t = idx (fun x : Book => x.name.toList == t.toList) s.books from rfl)
  rw [← HRF.out] at hbd
  rw [← HRF.out] at cB
  obtain ⟨a1, c1, rfl⟩ := h.1.mk
  obtain ⟨a2, c2, rfl⟩ := h.2.mk
  have HXX := Lib.hid (two_boxes2 w (shB s (.slice a1 s.books.length c1) (.slice a2 s.notes.length c2)) (shB ⟨0, 0, 0, [], []⟩ (.slice none 0 0) (.slice none 0 0)))
  clear h hz hT
  unfold shelfV at *
  go_enter Tryd.func18, Tryd.ntmps18
  go_upto_region 1 with (fail)
  generalize hV : (w.alloc (.cells #[.int .i64 s.nb, .int .i64 s.nn, .int .i64 s.ns, .slice a1 s.books.length c1, .slice a2 s.notes.length c2] 25)).alloc (.cells #[.int .i64 0, .int .i64 0, .int .i64 0, .slice none 0 0, .slice none 0 0] 25) = V
  have gV : Grow w V := by rw [← hV]; exact ((Grow.refl w).alloc _).alloc _
  have HBX : Hid (V.heap[w.heap.size]? = some (shB s (.slice a1 s.books.length c1) (.slice a2 s.notes.length c2))) := by rw [← hV]; exact Lib.hid HXX.out.1
  have HRX : Hid (V.heap[w.heap.size + 1]? = some (shB ⟨0, 0, 0, [], []⟩ (.slice none 0 0) (.slice none 0 0))) := by rw [← hV]; exact Lib.hid HXX.out.2
  obtain ⟨⟨p0, p1, p2, p3, p4⟩, hpz⟩ := n5 HBX.out
  clear hV
  have cM1 := cM V gV
  cases hm : mayS s with
  | false =>
    have HM := Lib.hid hm
    rw [hm] at cM1
    clear hm cO cB cN
    go_wp2_with fail
    refine cM1.mono ?_
    rintro e w1 ⟨rfl, g1⟩
    clear cM1 p0 p1 p2 p3 p4
    have HE := Lib.hid (show makeR s t = bad 2 from res_bad (by unfold makeE; rw [if_pos HM.out]) (by decide) _ _)
    obtain ⟨⟨e0, e1, e2, e3, e4⟩, hez⟩ := n5 (g1.blk HRX.out)
    have f0 := frozen_of_row _ (w.heap.size + 1) 0 _ _ (g1.blk HRX.out)
    have f1 := frozen_of_row _ (w.heap.size + 1) 1 _ _ (g1.blk HRX.out)
    have f2 := frozen_of_row _ (w.heap.size + 1) 2 _ _ (g1.blk HRX.out)
    have f3 := frozen_of_row _ (w.heap.size + 1) 3 _ _ (g1.blk HRX.out)
    have f4 := frozen_of_row _ (w.heap.size + 1) 4 _ _ (g1.blk HRX.out)
    go_wp2_with fail
    refine bodyPost_ret (v := .tuple #[.agg #[.int .i64 0, .int .i64 0, .int .i64 0, .slice none 0 0, .slice none 0 0], .int .i64 0, .int .i64 2]) ?_ rfl ?_
    · rw [results_cell_tmp2 (P := Tryd.prog) rfl]
      go_simp
    · refine ret_badM HE.out ?_
      repeat' (first | with_reducible exact gV.trans g1 | with_reducible refine Grow.set ?_ (by simp) _)
  | true =>
    have HM := Lib.hid hm
    rw [hm] at cM1
    clear hm
    go_wp2_with fail
    refine cM1.mono ?_
    rintro e w1 ⟨rfl, g1⟩
    have cN1 := cN w1 (gV.trans g1)
    clear cM1 p0 p1 p2 p3 p4
    obtain ⟨⟨p0, p1, p2, p3, p4⟩, hpz⟩ := n5 (g1.blk HBX.out)
    cases hn : mayB t with
    | false =>
      have HN := Lib.hid hn
      rw [hn] at cN1
      clear hn cO cB
      go_wp2_with fail
      refine cN1.mono ?_
      rintro e w2 ⟨rfl, g2⟩
      have gg := g1.trans g2
      clear cN1 p0 p1 p2 p3 p4
      have HE := Lib.hid (show makeR s t = bad 6 from res_bad (by unfold makeE; rw [if_neg (by rw [HM.out]; simp), if_pos HN.out]) (by decide) _ _)
      obtain ⟨⟨e0, e1, e2, e3, e4⟩, hez⟩ := n5 (gg.blk HRX.out)
      have f0 := frozen_of_row _ (w.heap.size + 1) 0 _ _ (gg.blk HRX.out)
      have f1 := frozen_of_row _ (w.heap.size + 1) 1 _ _ (gg.blk HRX.out)
      have f2 := frozen_of_row _ (w.heap.size + 1) 2 _ _ (gg.blk HRX.out)
      have f3 := frozen_of_row _ (w.heap.size + 1) 3 _ _ (gg.blk HRX.out)
      have f4 := frozen_of_row _ (w.heap.size + 1) 4 _ _ (gg.blk HRX.out)
      go_wp2_with fail
      refine bodyPost_ret (v := .tuple #[.agg #[.int .i64 0, .int .i64 0, .int .i64 0, .slice none 0 0, .slice none 0 0], .int .i64 0, .int .i64 6]) ?_ rfl ?_
      · rw [results_cell_tmp2 (P := Tryd.prog) rfl]
        go_simp
      · refine ret_badM HE.out ?_
        repeat' (first | with_reducible exact gV.trans gg | with_reducible refine Grow.set ?_ (by simp) _)
    | true =>
      have HN := Lib.hid hn
      rw [hn] at cN1
      clear hn
      go_wp2_with fail
      refine cN1.mono ?_
      rintro e w2 ⟨rfl, g2⟩
      have gg := g1.trans g2
      have cB1 := cB w2 (gV.trans gg)
      clear cN1 g1 g2 p0 p1 p2 p3 p4
      obtain ⟨⟨p0, p1, p2, p3, p4⟩, hpz⟩ := n5 (gg.blk HBX.out)
      by_cases hi : 0 ≤ nameIx s.books t
      · have HI := Lib.hid hi
        go_wp2_with fail
        refine cB1.mono ?_
        rintro e wb ⟨rfl, gb⟩
        have gh := gg.trans gb
        clear cB1 cO p0 p1 p2 p3 p4
        have HE := Lib.hid (show makeR s t = bad 7 from res_bad (by unfold makeE; rw [if_neg (by rw [HM.out]; simp), if_neg (by rw [HN.out]; simp), if_pos (by have := HI.out; omega)]) (by decide) _ _)
        obtain ⟨⟨e0, e1, e2, e3, e4⟩, hez⟩ := n5 (gh.blk HRX.out)
        have f0 := frozen_of_row _ (w.heap.size + 1) 0 _ _ (gh.blk HRX.out)
        have f1 := frozen_of_row _ (w.heap.size + 1) 1 _ _ (gh.blk HRX.out)
        have f2 := frozen_of_row _ (w.heap.size + 1) 2 _ _ (gh.blk HRX.out)
        have f3 := frozen_of_row _ (w.heap.size + 1) 3 _ _ (gh.blk HRX.out)
        have f4 := frozen_of_row _ (w.heap.size + 1) 4 _ _ (gh.blk HRX.out)
        go_wp2_with fail
        refine bodyPost_ret (v := .tuple #[.agg #[.int .i64 0, .int .i64 0, .int .i64 0, .slice none 0 0, .slice none 0 0], .int .i64 0, .int .i64 7]) ?_ rfl ?_
        · rw [results_cell_tmp2 (P := Tryd.prog) rfl]
          go_simp
        · refine ret_badM HE.out ?_
          repeat' (first | with_reducible exact gV.trans gh | with_reducible refine Grow.set ?_ (by simp) _)
      · have HI := Lib.hid hi
        go_wp2_with fail
        refine cB1.mono ?_
        rintro e wb ⟨rfl, gb⟩
        have gh := gg.trans gb
        clear cB1 gg gb p0 p1 p2 p3 p4
        obtain ⟨⟨p0, p1, p2, p3, p4⟩, hpz⟩ := n5 (gh.blk HBX.out)
        by_cases hl : 6 ≤ (s.books.length : Int)
        · have HL := Lib.hid hl
          clear cO
          have HE := Lib.hid (show makeR s t = bad 3 from res_bad (by unfold makeE; rw [if_neg (by rw [HM.out]; simp), if_neg (by rw [HN.out]; simp), if_neg (by have := HI.out; omega), if_pos (.inl (by have := HL.out; omega))]) (by decide) _ _)
          obtain ⟨⟨e0, e1, e2, e3, e4⟩, hez⟩ := n5 (gh.blk HRX.out)
          have f0 := frozen_of_row _ (w.heap.size + 1) 0 _ _ (gh.blk HRX.out)
          have f1 := frozen_of_row _ (w.heap.size + 1) 1 _ _ (gh.blk HRX.out)
          have f2 := frozen_of_row _ (w.heap.size + 1) 2 _ _ (gh.blk HRX.out)
          have f3 := frozen_of_row _ (w.heap.size + 1) 3 _ _ (gh.blk HRX.out)
          have f4 := frozen_of_row _ (w.heap.size + 1) 4 _ _ (gh.blk HRX.out)
          go_wp2_with fail
          refine bodyPost_ret (v := .tuple #[.agg #[.int .i64 0, .int .i64 0, .int .i64 0, .slice none 0 0, .slice none 0 0], .int .i64 0, .int .i64 3]) ?_ rfl ?_
          · rw [results_cell_tmp2 (P := Tryd.prog) rfl]
            go_simp
          · refine ret_badM HE.out ?_
            repeat' (first | with_reducible exact gV.trans gh | with_reducible refine Grow.set ?_ (by simp) _)
        · by_cases hk : 65536 ≤ s.nb
          · have HL := Lib.hid hk
            clear cO
            have HE := Lib.hid (show makeR s t = bad 3 from res_bad (by unfold makeE; rw [if_neg (by rw [HM.out]; simp), if_neg (by rw [HN.out]; simp), if_neg (by have := HI.out; omega), if_pos (.inr (by have := HL.out; omega))]) (by decide) _ _)
            obtain ⟨⟨e0, e1, e2, e3, e4⟩, hez⟩ := n5 (gh.blk HRX.out)
            have f0 := frozen_of_row _ (w.heap.size + 1) 0 _ _ (gh.blk HRX.out)
            have f1 := frozen_of_row _ (w.heap.size + 1) 1 _ _ (gh.blk HRX.out)
            have f2 := frozen_of_row _ (w.heap.size + 1) 2 _ _ (gh.blk HRX.out)
            have f3 := frozen_of_row _ (w.heap.size + 1) 3 _ _ (gh.blk HRX.out)
            have f4 := frozen_of_row _ (w.heap.size + 1) 4 _ _ (gh.blk HRX.out)
            go_wp2_with fail
            refine bodyPost_ret (v := .tuple #[.agg #[.int .i64 0, .int .i64 0, .int .i64 0, .slice none 0 0, .slice none 0 0], .int .i64 0, .int .i64 3]) ?_ rfl ?_
            · rw [results_cell_tmp2 (P := Tryd.prog) rfl]
              go_simp
            · refine ret_badM HE.out ?_
              repeat' (first | with_reducible exact gV.trans gh | with_reducible refine Grow.set ?_ (by simp) _)
          · have HE := Lib.hid (show makeR s t = ⟨{ s with nb := s.nb + 1, books := s.books ++ [⟨s.nb, t⟩] }, s.nb, 0⟩ from resOf_ok (makeE_zero.2 ⟨HM.out, HN.out, by omega, by omega, by omega⟩) _ _)
            have hnb := (mayS_iff.1 HM.out).nb
            have cO1 := cO _ (gV.trans gh)
            go_wp2_with fail
            refine cO1.mono ?_
            rintro e w3 ⟨bv', nv', Y, rfl, ho, hmap, g3⟩
            have hs : StB w w.heap.size (w.heap.size + 1) s.nb s.nn s.ns bv' nv' s.books Y (((((w3.setCell ⟨w.heap.size, 0, none⟩ (.int .i64 s.nb)).setCell ⟨w.heap.size, 1, none⟩ (.int .i64 s.nn)).setCell ⟨w.heap.size, 2, none⟩ (.int .i64 s.ns)).setCell ⟨w.heap.size, 3, none⟩ bv').setCell ⟨w.heap.size, 4, none⟩ nv') := StB.start (s := s) (D := w.heap.size + 1) gV HBX.out HRX.out gh g3 ho ⟨Nat.le_refl _, by omega, by omega⟩
            obtain ⟨ba, bc, ebv, -⟩ := ho.books.slice
            obtain ⟨na, nc, env, -⟩ := ho.notes.slice
            have hYl : Y.length = s.notes.length := by rw [← hmap, List.length_map]
            rw [hYl] at env
            have HMAP := Lib.hid hmap
            have HYL := Lib.hid hYl
            subst ebv env
            obtain ⟨⟨p0', p1', p2', p3', p4'⟩, hpz'⟩ := n5 ((gh.trans g3).blk HBX.out)
            have HF3 := Lib.hid (frozen_of_row w3 w.heap.size 0 _ _ ((gh.trans g3).blk HBX.out))
            have ff : ∀ j, w3.frozen? ⟨w.heap.size, j, none⟩ = false := fun j => frozen_of_row w3 w.heap.size j _ _ ((gh.trans g3).blk HBX.out)
            have ff0 := ff 0
            have ff1 := ff 1
            have ff2 := ff 2
            have ff3 := ff 3
            have ff4 := ff 4
            have HOW3 := Lib.hid ho
            have HG3 := Lib.hid (gh.trans g3)
            have hw3 : w.heap.size < w3.heap.size := hpz'
            clear cO1 cO ho hmap g3 hYl p0 p1 p2 p3 p4 ff
            unfold shelfV
            go_upto_region 10 with (fail)
            generalize ((((w3.setCell ⟨w.heap.size, 0, none⟩ (.int .i64 s.nb)).setCell ⟨w.heap.size, 1, none⟩ (.int .i64 s.nn)).setCell ⟨w.heap.size, 2, none⟩ (.int .i64 s.ns)).setCell ⟨w.heap.size, 3, none⟩ (.slice ba s.books.length bc)).setCell ⟨w.heap.size, 4, none⟩ (.slice na s.notes.length nc) = W at *
            have HS := Lib.hid hs
            obtain ⟨⟨p0, p1, p2, p3, p4⟩, hpz⟩ := hs.five
            have hb3 := hs.boxF 3
            have hb4 := hs.boxF 4
            clear hs p0' p1' p2' p3' p4' ff0 ff1 ff2 ff3 ff4 hpz'
            go_upto_region 11 with (at_builtin; refine app_R (by rfl) _ _ 22 (by rfl) 58 ib _ 2 24 Tryd.underlying22 hib hbz0 hbz1 hbz2 (by rfl) (by decide) (.slice ba s.books.length bc) s.books.length (s.books.flatMap bookC) (by rfl) _ HS.out.own.books HS.out.grow.size (bookC ⟨s.nb, t⟩) rfl ?_ (by rfl) ?_ (by decide) ?_; (intro u hu; simp at hu; rcases hu with rfl | rfl <;> rfl); omega; intro v' w4 ra; obtain ⟨va, vc, e3, -⟩ := ra.1.slice; subst e3; obtain ⟨k3, f3, z3, hs4⟩ := HS.out.book ra; have HS4 := Lib.hid hs4; clear hs4 ra)
            generalize w4.setCell ⟨w.heap.size, 3, none⟩ (.slice va (s.books.length + 1) vc) = W4 at *
            clear p0 p1 p2 p3 p4 hpz hb3 hb4 k3 f3 z3 HS
            obtain ⟨⟨p0, p1, p2, p3, p4⟩, hpz⟩ := HS4.out.five
            have hb0 := HS4.out.boxF 0
            have HS5 := Lib.hid (HS4.out.num0 (s.nb + 1))
            go_upto_region 12 with (fail)
            generalize W4.setCell ⟨w.heap.size, 0, none⟩ (.int .i64 (s.nb + 1)) = W5 at *
            clear p0 p1 p2 p3 p4 hpz hb0 HS4
            obtain ⟨⟨p0, p1, p2, p3, p4⟩, hpz⟩ := HS5.out.five
            obtain ⟨⟨e0, e1, e2, e3, e4⟩, hez⟩ := HS5.out.res5
            have f0 := HS5.out.resF 0
            have f1 := HS5.out.resF 1
            have f2 := HS5.out.resF 2
            have f3 := HS5.out.resF 3
            have f4 := HS5.out.resF 4
            have HOD := Lib.hid HS5.out.fin
            go_region
            go_wp2_with fail
            refine bodyPost_ret (v := .tuple #[.agg #[.int .i64 (s.nb + 1), .int .i64 s.nn, .int .i64 s.ns, .slice va (s.books.length + 1) vc, .slice na s.notes.length nc], .int .i64 (s.nb), .int .i64 0]) ?_ rfl ?_
            · rw [results_cell_tmp2 (P := Tryd.prog) rfl]
              go_simp
            · refine ret_okM (D := w.heap.size + 1) HE.out ?_ HMAP.out
              repeat' (first | with_reducible exact HOD.out | with_reducible refine OwnD2.drew ?_ | with_reducible refine OwnD2.set ?_ (by omega) _ _)
end Go.Proofs.YtieohecgoaakmaaDoor
