/- shelf.Rename. -/
import Derived.Test.YtieohecgoaakmaaDoorSt
import Derived.Test.YtieohecgoaakmaaDoorGr
set_option linter.unusedVariables false
set_option linter.unusedSimpArgs false
namespace Go.Proofs.YtieohecgoaakmaaDoor
open Go.RowKit Go.Lib
set_option maxRecDepth 100000 in
set_option maxHeartbeats 4000000 in
theorem rename_any (s : Shelf) (bv nv : Value) (id : Int) (t : ByteArray) (w : World) (h : ShelfR w s bv nv) (hz : TameS s) (ht : t.size ≤ 1000000000) (hT : Tabs w) :
    Calls Tryd.prog 19 #[shelfV s bv nv, .int .i64 id, .string t] w (RetC (renameR s id t) w) := by
  have cM := fun W (g : Grow w W) => mayS_any s bv nv W (h.grow g) hz (hT.below g)
  have cN := fun W (g : Grow w W) => may_any t W ht (hT.below g)
  have cO := fun W (g : Grow w W) => own_any s bv nv W (h.grow g) hz.1
  have cB : ∀ W, Grow w W → Calls Tryd.prog 38 #[shelfV s bv nv, .int .i64 id] W fun e w' => e = .returned (.int .i64 (bookIx s id)) ∧ Grow W w' := fun W g => book_any s bv nv id W (h.grow g) (by have := hz.1.1; omega)
  have cX : ∀ W, Grow w W → Calls Tryd.prog 32 #[bv, .string t] W fun e w' => e = .returned (.int .i64 (nameIx s.books t)) ∧ Grow W w' := fun W g => named_any bv s.books t W (h.1.grow g) (by have := hz.1.1; omega)
  have hbl := hz.1.1
  have hnl := hz.1.2.1
  have hbd := idx_bd (fun x : Book => x.id == id) s.books
  have hnd := idx_bd (fun x : Note => x.id == id) s.notes
  rw [show idx (fun x : Book => x.id == id) s.books = bookIx s id from rfl] at hbd
  rw [show idx (fun x : Note => x.id == id) s.notes = noteIx s id from rfl] at hnd
  obtain ⟨a1, c1, rfl⟩ := h.1.mk
  obtain ⟨a2, c2, rfl⟩ := h.2.mk
  have HXX := Lib.hid (two_boxes2 w (shB s (.slice a1 s.books.length c1) (.slice a2 s.notes.length c2)) (shB ⟨0, 0, 0, [], []⟩ (.slice none 0 0) (.slice none 0 0)))
  clear h hz hT
  unfold shelfV at *
  go_enter Tryd.func19, Tryd.ntmps19
  go_upto_region 1 with (fail)
  generalize hV : (w.alloc (.cells #[.int .i64 s.nb, .int .i64 s.nn, .int .i64 s.ns, .slice a1 s.books.length c1, .slice a2 s.notes.length c2] 25)).alloc (.cells #[.int .i64 0, .int .i64 0, .int .i64 0, .slice none 0 0, .slice none 0 0] 25) = V
  have gV : Grow w V := by rw [← hV]; exact ((Grow.refl w).alloc _).alloc _
  have HBX : Hid (V.heap[w.heap.size]? = some (shB s (.slice a1 s.books.length c1) (.slice a2 s.notes.length c2))) := by rw [← hV]; exact Lib.hid HXX.out.1
  have HRX : Hid (V.heap[w.heap.size + 1]? = some (shB ⟨0, 0, 0, [], []⟩ (.slice none 0 0) (.slice none 0 0))) := by rw [← hV]; exact Lib.hid HXX.out.2
  obtain ⟨⟨p0, p1, p2, p3, p4⟩, hpz⟩ := n5 HBX.out
  clear hV
  have cM1 := cM V gV
  cases hm : mayS s with
  | false =>
    have HM := Lib.hid hm
    rw [hm] at cM1
    clear hm cO
    go_wp2_with fail
    refine cM1.mono ?_
    rintro e w1 ⟨rfl, g1⟩
    clear cM1 p0 p1 p2 p3 p4
    have HE := Lib.hid (show renameR s id t = bad 2 from res_bad (by unfold renameE; rw [if_pos HM.out]) (by decide) _ _)
    obtain ⟨⟨e0, e1, e2, e3, e4⟩, hez⟩ := n5 (g1.blk HRX.out)
    have f0 := frozen_of_row _ (w.heap.size + 1) 0 _ _ (g1.blk HRX.out)
    have f1 := frozen_of_row _ (w.heap.size + 1) 1 _ _ (g1.blk HRX.out)
    have f2 := frozen_of_row _ (w.heap.size + 1) 2 _ _ (g1.blk HRX.out)
    have f3 := frozen_of_row _ (w.heap.size + 1) 3 _ _ (g1.blk HRX.out)
    have f4 := frozen_of_row _ (w.heap.size + 1) 4 _ _ (g1.blk HRX.out)
    go_wp2_with fail
    refine bodyPost_ret (v := .tuple #[.agg #[.int .i64 0, .int .i64 0, .int .i64 0, .slice none 0 0, .slice none 0 0], .int .i64 2]) ?_ rfl ?_
    · rw [results_cell_tmp rfl]
      go_simp
    · refine ret_badC HE.out ?_
      repeat' (first | with_reducible exact gV.trans g1 | with_reducible refine Grow.set ?_ (by simp) _)
  | true =>
    have HM := Lib.hid hm
    rw [hm] at cM1
    clear hm
    go_wp2_with fail
    refine cM1.mono ?_
    rintro e w1 ⟨rfl, g1⟩
    clear cM1 p0 p1 p2 p3 p4
    obtain ⟨⟨p0, p1, p2, p3, p4⟩, hpz⟩ := n5 (g1.blk HBX.out)
    have kB := fun y : Gr w1 => cB y.W ((gV.trans g1).trans y.g)
    have kX := fun y : Gr w1 => cX y.W ((gV.trans g1).trans y.g)
    have hz1 : w.heap.size < w1.heap.size := (Array.getElem?_eq_some_iff.1 (g1.blk HBX.out)).1
    go_upto_region 3 with (fail)
    refine wp_region_gr (by kernel_rfl) (by kernel_rfl) ?_
    repeat (go_big_quiet_step (first | (go_at_call 38; exact Calls.gr (kB _)) | (go_at_call 32; exact Calls.gr (kX _))))
    refine wpQuiet_nil ?_
    rintro _ ⟨y, rfl⟩
    have gy := g1.trans y.g
    generalize y.W = wy at *
    clear cB cX kB kX p0 p1 p2 p3 p4 y
    obtain ⟨⟨p0, p1, p2, p3, p4⟩, hpz⟩ := n5 (gy.blk HBX.out)
    by_cases hi : bookIx s id < 0
    · have HI := Lib.hid hi
      clear cO cN
      have HE := Lib.hid (show renameR s id t = bad 4 from res_bad (by unfold renameE; rw [if_neg (by rw [HM.out]; simp), if_pos HI.out]) (by decide) _ _)
      obtain ⟨⟨e0, e1, e2, e3, e4⟩, hez⟩ := n5 (gy.blk HRX.out)
      have f0 := frozen_of_row _ (w.heap.size + 1) 0 _ _ (gy.blk HRX.out)
      have f1 := frozen_of_row _ (w.heap.size + 1) 1 _ _ (gy.blk HRX.out)
      have f2 := frozen_of_row _ (w.heap.size + 1) 2 _ _ (gy.blk HRX.out)
      have f3 := frozen_of_row _ (w.heap.size + 1) 3 _ _ (gy.blk HRX.out)
      have f4 := frozen_of_row _ (w.heap.size + 1) 4 _ _ (gy.blk HRX.out)
      go_wp2_with fail
      refine bodyPost_ret (v := .tuple #[.agg #[.int .i64 0, .int .i64 0, .int .i64 0, .slice none 0 0, .slice none 0 0], .int .i64 4]) ?_ rfl ?_
      · rw [results_cell_tmp rfl]
        go_simp
      · refine ret_badC HE.out ?_
        repeat' (first | with_reducible exact gV.trans gy | with_reducible refine Grow.set ?_ (by simp) _)
    · have HI := Lib.hid hi
      have cN1 := cN _ (gV.trans gy)
      cases hn : mayB t with
      | false =>
        have HN := Lib.hid hn
        rw [hn] at cN1
        clear hn cO
        go_wp2_with fail
        refine cN1.mono ?_
        rintro e wz ⟨rfl, g2⟩
        have gz := gy.trans g2
        clear cN1 p0 p1 p2 p3 p4
        have HE := Lib.hid (show renameR s id t = bad 6 from res_bad (by unfold renameE; rw [if_neg (by rw [HM.out]; simp), if_neg (by have := HI.out; omega), if_pos HN.out]) (by decide) _ _)
        obtain ⟨⟨e0, e1, e2, e3, e4⟩, hez⟩ := n5 (gz.blk HRX.out)
        have f0 := frozen_of_row _ (w.heap.size + 1) 0 _ _ (gz.blk HRX.out)
        have f1 := frozen_of_row _ (w.heap.size + 1) 1 _ _ (gz.blk HRX.out)
        have f2 := frozen_of_row _ (w.heap.size + 1) 2 _ _ (gz.blk HRX.out)
        have f3 := frozen_of_row _ (w.heap.size + 1) 3 _ _ (gz.blk HRX.out)
        have f4 := frozen_of_row _ (w.heap.size + 1) 4 _ _ (gz.blk HRX.out)
        go_wp2_with fail
        refine bodyPost_ret (v := .tuple #[.agg #[.int .i64 0, .int .i64 0, .int .i64 0, .slice none 0 0, .slice none 0 0], .int .i64 6]) ?_ rfl ?_
        · rw [results_cell_tmp rfl]
          go_simp
        · refine ret_badC HE.out ?_
          repeat' (first | with_reducible exact gV.trans gz | with_reducible refine Grow.set ?_ (by simp) _)
      | true =>
        have HN := Lib.hid hn
        rw [hn] at cN1
        clear hn
        go_wp2_with fail
        refine cN1.mono ?_
        rintro e wz ⟨rfl, g2⟩
        have gz := gy.trans g2
        clear cN1 g2 p0 p1 p2 p3 p4
        obtain ⟨⟨p0, p1, p2, p3, p4⟩, hpz⟩ := n5 (gz.blk HBX.out)
        by_cases hk : 0 ≤ nameIx s.books t ∧ nameIx s.books t ≠ bookIx s id
        · have HK := Lib.hid hk
          have hk1 := hk.1
          have hk2 : (nameIx s.books t == bookIx s id) = false := beq_eq_false_iff_ne.2 hk.2
          clear hk cO
          have HE := Lib.hid (show renameR s id t = bad 7 from res_bad (by unfold renameE; rw [if_neg (by rw [HM.out]; simp), if_neg (by have := HI.out; omega), if_neg (by rw [HN.out]; simp), if_pos HK.out]) (by decide) _ _)
          obtain ⟨⟨e0, e1, e2, e3, e4⟩, hez⟩ := n5 (gz.blk HRX.out)
          have f0 := frozen_of_row _ (w.heap.size + 1) 0 _ _ (gz.blk HRX.out)
          have f1 := frozen_of_row _ (w.heap.size + 1) 1 _ _ (gz.blk HRX.out)
          have f2 := frozen_of_row _ (w.heap.size + 1) 2 _ _ (gz.blk HRX.out)
          have f3 := frozen_of_row _ (w.heap.size + 1) 3 _ _ (gz.blk HRX.out)
          have f4 := frozen_of_row _ (w.heap.size + 1) 4 _ _ (gz.blk HRX.out)
          go_wp2_with fail
          refine bodyPost_ret (v := .tuple #[.agg #[.int .i64 0, .int .i64 0, .int .i64 0, .slice none 0 0, .slice none 0 0], .int .i64 7]) ?_ rfl ?_
          · rw [results_cell_tmp rfl]
            go_simp
          · refine ret_badC HE.out ?_
            repeat' (first | with_reducible exact gV.trans gz | with_reducible refine Grow.set ?_ (by simp) _)
        · have hez : renameE s id t = 0 := renameE_zero.2 ⟨HM.out, by omega, HN.out, by omega⟩
          have HM2 := Lib.hid (mayS_iff.1 HM.out)
          obtain ⟨i, hii⟩ : ∃ i : Nat, bookIx s id = i := ⟨(bookIx s id).toNat, by omega⟩
          obtain ⟨x, hx, hxp⟩ := idx_get (p := fun x : Book => x.id == id) (l := s.books) (i := bookIx s id) rfl (by omega)
          rw [hii, Int.toNat_natCast] at hx
          have hxid : x.id = id := by simpa using hxp
          have HE := Lib.hid (show renameR s id t = ⟨{ s with books := s.books.set i { x with name := t } }, 0, 0⟩ by
            rw [renameR, resOf_ok hez, ← hxid, ← set_updB HM2.out.binc hx t])
          have HX := Lib.hid hx
          have hil : (i : Int) < s.books.length := by have := (List.getElem?_eq_some_iff.1 hx).1; omega
          rw [hii] at hi hbd hk
          rw [hii]
          have hcase : nameIx s.books t < 0 ∨ (nameIx s.books t == (i : Int)) = true := by
            by_cases h0 : nameIx s.books t < 0
            · exact .inl h0
            · exact .inr (by rw [beq_iff_eq]; omega)
          have hkk : 0 ≤ nameIx s.books t ∨ nameIx s.books t < 0 := by omega
          clear hez hx hxp hxid hii hk
          rcases hcase with hk1 | hk1
          all_goals
            try have hk2 : 0 ≤ nameIx s.books t := by rw [beq_iff_eq] at hk1; omega
            clear hkk
            have cO1 := cO _ (gV.trans gz)
            go_wp2_with fail
            refine cO1.mono ?_
            rintro e w3 ⟨bv', nv', Y, rfl, ho, hmap, g3⟩
            have hs : StB w w.heap.size (w.heap.size + 1) s.nb s.nn s.ns bv' nv' s.books Y (((((w3.setCell ⟨w.heap.size, 0, none⟩ (.int .i64 s.nb)).setCell ⟨w.heap.size, 1, none⟩ (.int .i64 s.nn)).setCell ⟨w.heap.size, 2, none⟩ (.int .i64 s.ns)).setCell ⟨w.heap.size, 3, none⟩ bv').setCell ⟨w.heap.size, 4, none⟩ nv') := StB.start (s := s) (D := w.heap.size + 1) gV HBX.out HRX.out gz g3 ho ⟨Nat.le_refl _, by omega, by omega⟩
            obtain ⟨ba, bc, ebv, -⟩ := ho.books.slice
            obtain ⟨na, nc, env, -⟩ := ho.notes.slice
            have hYl : Y.length = s.notes.length := by rw [← hmap, List.length_map]
            rw [hYl] at env
            have HMAP := Lib.hid hmap
            have HYL := Lib.hid hYl
            subst ebv env
            obtain ⟨⟨p0', p1', p2', p3', p4'⟩, hpz'⟩ := n5 ((gz.trans g3).blk HBX.out)
            have HF3 := Lib.hid (frozen_of_row w3 w.heap.size 0 _ _ ((gz.trans g3).blk HBX.out))
            have ff : ∀ j, w3.frozen? ⟨w.heap.size, j, none⟩ = false := fun j => frozen_of_row w3 w.heap.size j _ _ ((gz.trans g3).blk HBX.out)
            have ff0 := ff 0
            have ff1 := ff 1
            have ff2 := ff 2
            have ff3 := ff 3
            have ff4 := ff 4
            have HOW3 := Lib.hid ho
            have HG3 := Lib.hid (gz.trans g3)
            have hw3 : w.heap.size < w3.heap.size := hpz'
            clear cO1 cO ho hmap g3 hYl p0 p1 p2 p3 p4 ff
            unfold shelfV
            go_upto_region 11 with (fail)
            generalize ((((w3.setCell ⟨w.heap.size, 0, none⟩ (.int .i64 s.nb)).setCell ⟨w.heap.size, 1, none⟩ (.int .i64 s.nn)).setCell ⟨w.heap.size, 2, none⟩ (.int .i64 s.ns)).setCell ⟨w.heap.size, 3, none⟩ (.slice ba s.books.length bc)).setCell ⟨w.heap.size, 4, none⟩ (.slice na s.notes.length nc) = W at *
            have HS := Lib.hid hs
            obtain ⟨⟨p0, p1, p2, p3, p4⟩, hpz⟩ := hs.five
            have hb3 := hs.boxF 3
            have hb4 := hs.boxF 4
            clear hs p0' p1' p2' p3' p4' ff0 ff1 ff2 ff3 ff4 hpz'
            obtain ⟨b, cc, ebb, hbz, -, -, hcl⟩ := HS.out.own.book HX.out
            injection ebb with eb1 eb2 eb3
            subst eb1 eb3
            have q1 := (hcl 1 _ rfl).1
            have qf := (hcl 1 _ rfl).2
            have HS2 := Lib.hid (HS.out.setB HX.out t rfl)
            clear hcl
            go_upto_region 12 with (fail)
            generalize W.setCell ⟨b, i * 2 + 1, none⟩ (.string t) = W2 at *
            clear p0 p1 p2 p3 p4 hpz hb3 hb4 HS q1 qf
            obtain ⟨⟨p0, p1, p2, p3, p4⟩, hpz⟩ := HS2.out.five
            obtain ⟨⟨e0, e1, e2, e3, e4⟩, hez⟩ := HS2.out.res5
            have f0 := HS2.out.resF 0
            have f1 := HS2.out.resF 1
            have f2 := HS2.out.resF 2
            have f3 := HS2.out.resF 3
            have f4 := HS2.out.resF 4
            have HOD := Lib.hid HS2.out.fin
            go_wp2_with fail
            refine bodyPost_ret (v := .tuple #[.agg #[.int .i64 s.nb, .int .i64 s.nn, .int .i64 s.ns, .slice (some ⟨b, 0, none⟩) s.books.length bc, .slice na s.notes.length nc], .int .i64 0]) ?_ rfl ?_
            · rw [results_cell_tmp rfl]
              go_simp
            · refine ret_okC (D := w.heap.size + 1) (s := { s with books := s.books.set i { x with name := t } }) HE.out ?_ HMAP.out
              repeat' (first | with_reducible exact HOD.out | with_reducible refine OwnD2.drew ?_ | with_reducible refine OwnD2.set ?_ (by omega) _ _)
end Go.Proofs.YtieohecgoaakmaaDoor
