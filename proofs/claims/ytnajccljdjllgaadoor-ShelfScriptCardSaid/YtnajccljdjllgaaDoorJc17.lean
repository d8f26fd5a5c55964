/- The predicates of Drop and Discard. shelf.Make. shelf.Rename. shelf.Drop. shelf.Note. shelf.Retitle. shelf.Move. shelf.Discard. -/
import Derived.Test.YtnajccljdjllgaaDoorDel
import Derived.Test.YtnajccljdjllgaaDoorSt
import Derived.Test.YtnajccljdjllgaaDoorGr
set_option linter.unusedVariables false
set_option linter.unusedSimpArgs false
namespace Go.Proofs.YtnajccljdjllgaaDoor
open Go.RowKit Go.Lib
set_option maxRecDepth 100000 in
theorem drop1_any (x : Book) (n : Int) (B : Nat) (w : World) (h : w.heap[B]? = some (.cells #[.int .i64 n] 3 (0, 0))) :
    Calls Tryd.prog 70 #[bookV x, .pointer (some ⟨B, 0, none⟩)] w fun e w' => e = .returned (.bool (x.id == n)) ∧ Grow w w' := by
  have hb : B < w.heap.size := (Array.getElem?_eq_some_iff.1 h).1
  have h0 : w.cell? ⟨B, 0, none⟩ = some (.int .i64 n) := (cell_of_row w B 0 _ _ _ h).trans rfl
  clear h
  unfold bookV
  go_enter Tryd.func70, Tryd.ntmps70
  go_wp2_with fail
  go_ret
  exact ⟨rfl, (Grow.refl w).alloc _⟩
set_option maxRecDepth 100000 in
theorem drop2_any (x : Note) (tv sv : Value) (n : Int) (B : Nat) (w : World) (h : w.heap[B]? = some (.cells #[.int .i64 n] 3 (0, 0))) :
    Calls Tryd.prog 72 #[noteV x tv sv, .pointer (some ⟨B, 0, none⟩)] w fun e w' => e = .returned (.bool (x.book == n)) ∧ Grow w w' := by
  have hb : B < w.heap.size := (Array.getElem?_eq_some_iff.1 h).1
  have h0 : w.cell? ⟨B, 0, none⟩ = some (.int .i64 n) := (cell_of_row w B 0 _ _ _ h).trans rfl
  clear h
  unfold noteV
  go_enter Tryd.func72, Tryd.ntmps72
  go_wp2_with fail
  go_ret
  exact ⟨rfl, (Grow.refl w).alloc _⟩
set_option maxRecDepth 100000 in
theorem disc1_any (x : Note) (tv sv : Value) (n : Int) (B : Nat) (w : World) (h : w.heap[B]? = some (.cells #[.int .i64 n] 3 (0, 0))) :
    Calls Tryd.prog 77 #[noteV x tv sv, .pointer (some ⟨B, 0, none⟩)] w fun e w' => e = .returned (.bool (x.id == n)) ∧ Grow w w' := by
  have hb : B < w.heap.size := (Array.getElem?_eq_some_iff.1 h).1
  have h0 : w.cell? ⟨B, 0, none⟩ = some (.int .i64 n) := (cell_of_row w B 0 _ _ _ h).trans rfl
  clear h
  unfold noteV
  go_enter Tryd.func77, Tryd.ntmps77
  go_wp2_with fail
  go_ret
  exact ⟨rfl, (Grow.refl w).alloc _⟩
theorem idx_map {α β : Type} (f : α → β) (p : β → Bool) : ∀ l : List α, idx p (l.map f) = idx (fun x => p (f x)) l
  | [] => rfl
  | x :: l => by
    rw [List.map_cons]
    unfold idx
    rw [idx_map f p l]
theorem nv_slices {base : Nat} {bv nv : Value} {X : List Book} {Y : List NV} {w : World} (h : OwnS base bv nv X Y w) : ∀ x ∈ Y, ∃ ta tn tc sa sn sc, x.tv = .slice ta tn tc ∧ x.sv = .slice sa sn sc := fun x hx => by
  obtain ⟨a, c, e, -⟩ := (h.tags x hx).slice
  obtain ⟨a', c', e', -⟩ := (h.sheets x hx).slice
  exact ⟨a, _, c, a', _, c', e, e'⟩
set_option maxRecDepth 100000 in
/-- DeleteFunc at the books of a shelf in work. -/
theorem dropB {w0 w : World} {B D : Nat} {nb nn ns : Int} {bv nv : Value} {X : List Book} {Y : List NV} (h : StB w0 B D nb nn ns bv nv X Y w) (hl : X.length ≤ 1000000) {I : Nat} {id : Int} (hI : w.heap[I]? = some (.cells #[.int .i64 id] 3 (0, 0))) :
    Calls Tryd.prog 69 #[bv, .func (.func 70) #[] #[.pointer (some ⟨I, 0, none⟩)]] w fun e w' => ∃ v', e = .returned v' ∧ RowO w0.heap.size 37 2 v' (X.filter fun x => !(x.id == id)).length ((X.filter fun x => !(x.id == id)).flatMap bookC) w' ∧ w.grownBy w' (blkOf bv) ∧ blkOf v' = blkOf bv := by
  have hp : ∀ W (x : Book), Kept 37 w W → w.heap.size ≤ W.heap.size → x ∈ X → Calls Tryd.prog 70 (#[.agg #[.int .i64 x.id, .string x.name]] ++ #[.pointer (some ⟨I, 0, none⟩)]) W fun e w' => e = .returned (.bool (x.id == id)) ∧ Grow W w' := fun W x k _ _ => drop1_any x id I W (k _ _ _ _ (by decide) hI)
  exact delBooks w0.heap.size bv X _ _ (fun x => x.id == id) w h.own.books hl h.grow.size (fun _ _ => rfl) hp (indexBooks bv X _ _ _ w h.own.reads.1 (by omega) (fun _ _ => rfl) fun W x g hx => hp W x (Kept.of_grow g) g.size hx)
set_option maxRecDepth 100000 in
theorem dropN {w0 w : World} {B D : Nat} {nb nn ns : Int} {bv nv : Value} {X : List Book} {Y : List NV} (h : StB w0 B D nb nn ns bv nv X Y w) (hl : Y.length ≤ 1000000) {I : Nat} {id : Int} (hI : w.heap[I]? = some (.cells #[.int .i64 id] 3 (0, 0))) :
    Calls Tryd.prog 71 #[nv, .func (.func 72) #[] #[.pointer (some ⟨I, 0, none⟩)]] w fun e w' => ∃ v', e = .returned v' ∧ RowO w0.heap.size 41 5 v' (Y.filter fun y => !(y.n.book == id)).length ((Y.filter fun y => !(y.n.book == id)).flatMap noteC) w' ∧ w.grownBy w' (blkOf nv) ∧ blkOf v' = blkOf nv := by
  have hp : ∀ W (x : Note) tv sv, Kept 41 w W → Calls Tryd.prog 72 (#[noteV x tv sv] ++ #[.pointer (some ⟨I, 0, none⟩)]) W fun e w' => e = .returned (.bool (x.book == id)) ∧ Grow W w' := fun W x tv sv k => drop2_any x tv sv id I W (k _ _ _ _ (by decide) hI)
  have hix := indexNotes nv (Y.map NV.n) 72 #[.pointer (some ⟨I, 0, none⟩)] (fun x => x.book == id) w h.own.reads.2 (by rw [List.length_map]; omega) (fun _ _ => rfl) fun W x _ _ _ _ g _ => hp W x _ _ (Kept.of_grow g)
  rw [idx_map] at hix
  exact delNotes w0.heap.size nv Y _ _ (fun y => y.n.book == id) w h.own.notes hl h.grow.size (fun _ _ => rfl) (nv_slices h.own) (fun W y k _ _ => hp W y.n y.tv y.sv k) hix
set_option maxRecDepth 100000 in
theorem discN {w0 w : World} {B D : Nat} {nb nn ns : Int} {bv nv : Value} {X : List Book} {Y : List NV} (h : StB w0 B D nb nn ns bv nv X Y w) (hl : Y.length ≤ 1000000) {I : Nat} {id : Int} (hI : w.heap[I]? = some (.cells #[.int .i64 id] 3 (0, 0))) :
    Calls Tryd.prog 71 #[nv, .func (.func 77) #[] #[.pointer (some ⟨I, 0, none⟩)]] w fun e w' => ∃ v', e = .returned v' ∧ RowO w0.heap.size 41 5 v' (Y.filter fun y => !(y.n.id == id)).length ((Y.filter fun y => !(y.n.id == id)).flatMap noteC) w' ∧ w.grownBy w' (blkOf nv) ∧ blkOf v' = blkOf nv := by
  have hp : ∀ W (x : Note) tv sv, Kept 41 w W → Calls Tryd.prog 77 (#[noteV x tv sv] ++ #[.pointer (some ⟨I, 0, none⟩)]) W fun e w' => e = .returned (.bool (x.id == id)) ∧ Grow W w' := fun W x tv sv k => disc1_any x tv sv id I W (k _ _ _ _ (by decide) hI)
  have hix := indexNotes nv (Y.map NV.n) 77 #[.pointer (some ⟨I, 0, none⟩)] (fun x => x.id == id) w h.own.reads.2 (by rw [List.length_map]; omega) (fun _ _ => rfl) fun W x _ _ _ _ g _ => hp W x _ _ (Kept.of_grow g)
  rw [idx_map] at hix
  exact delNotes w0.heap.size nv Y _ _ (fun y => y.n.id == id) w h.own.notes hl h.grow.size (fun _ _ => rfl) (nv_slices h.own) (fun W y k _ _ => hp W y.n y.tv y.sv k) hix
end Go.Proofs.YtnajccljdjllgaaDoor
set_option linter.unusedVariables false
set_option linter.unusedSimpArgs false
namespace Go.Proofs.YtnajccljdjllgaaDoor
open Go.RowKit Go.Lib
set_option maxRecDepth 100000 in
set_option maxHeartbeats 4000000 in
theorem make_any (s : Shelf) (bv nv : Value) (t : ByteArray) (w : World) (h : ShelfR w s bv nv) (hz : TameS s) (ht : t.size ≤ 1000000000) (hT : Tabs w) :
    Calls Tryd.prog 21 #[shelfV s bv nv, .string t] w (RetM (makeR s t) w) := by
  obtain ⟨ib, hib, hbz0, hbz1, hbz2⟩ := info_parts info_book
  have cM := fun W (g : Grow w W) => mayS_any s bv nv W (h.grow g) hz (hT.below g)
  have cN := fun W (g : Grow w W) => may_any t W ht (hT.below g)
  have cB := fun W (g : Grow w W) => named_any bv s.books t W (h.1.grow g) (by have := hz.1.1; omega)
  have cO := fun W (g : Grow w W) => own_any s bv nv W (h.grow g) hz.1
  have hbl := hz.1.1
  have hbd := idx_bd (fun x : Book => x.name.toList == t.toList) s.books
  have HRF := Lib.hid (show nameIx s.books t = idx (fun x : Book => x.name.toList == t.toList) s.books from rfl)
  rw [← HRF.out] at hbd
  rw [← HRF.out] at cB
  obtain ⟨a1, c1, rfl⟩ := h.1.mk
  obtain ⟨a2, c2, rfl⟩ := h.2.mk
  have HXX := Lib.hid (two_boxes2 w (shB s (.slice a1 s.books.length c1) (.slice a2 s.notes.length c2)) (shB ⟨0, 0, 0, [], []⟩ (.slice none 0 0) (.slice none 0 0)))
  clear h hz hT
  unfold shelfV at *
  go_enter Tryd.func21, Tryd.ntmps21
  go_upto_region 1 with (fail)
  generalize hV : (w.alloc (.cells #[.int .i64 s.nb, .int .i64 s.nn, .int .i64 s.ns, .slice a1 s.books.length c1, .slice a2 s.notes.length c2] 28)).alloc (.cells #[.int .i64 0, .int .i64 0, .int .i64 0, .slice none 0 0, .slice none 0 0] 28) = V
  have gV : Grow w V := by rw [← hV]; exact ((Grow.refl w).alloc _).alloc _
  have HBX : Hid (V.heap[w.heap.size]? = some (shB s (.slice a1 s.books.length c1) (.slice a2 s.notes.length c2))) := by rw [← hV]; exact Lib.hid HXX.out.1
  have HRX : Hid (V.heap[w.heap.size + 1]? = some (shB ⟨0, 0, 0, [], []⟩ (.slice none 0 0) (.slice none 0 0))) := by rw [← hV]; exact Lib.hid HXX.out.2
  obtain ⟨⟨p0, p1, p2, p3, p4⟩, hpz⟩ := n5 HBX.out
  clear hV
  have cM1 := cM V gV
  cases hm : mayS s with
  | false =>
    have HM := Lib.hid hm
    rw [hm] at cM1
    clear hm cO cB cN
    go_wp2_with fail
    refine cM1.mono ?_
    rintro e w1 ⟨rfl, g1⟩
    clear cM1 p0 p1 p2 p3 p4
    have HE := Lib.hid (show makeR s t = bad 2 from res_bad (by unfold makeE; rw [if_pos HM.out]) (by decide) _ _)
    obtain ⟨⟨e0, e1, e2, e3, e4⟩, hez⟩ := n5 (g1.blk HRX.out)
    have f0 := frozen_of_row _ (w.heap.size + 1) 0 _ _ (g1.blk HRX.out)
    have f1 := frozen_of_row _ (w.heap.size + 1) 1 _ _ (g1.blk HRX.out)
    have f2 := frozen_of_row _ (w.heap.size + 1) 2 _ _ (g1.blk HRX.out)
    have f3 := frozen_of_row _ (w.heap.size + 1) 3 _ _ (g1.blk HRX.out)
    have f4 := frozen_of_row _ (w.heap.size + 1) 4 _ _ (g1.blk HRX.out)
    go_wp2_with fail
    refine bodyPost_ret (v := .tuple #[.agg #[.int .i64 0, .int .i64 0, .int .i64 0, .slice none 0 0, .slice none 0 0], .int .i64 0, .int .i64 2]) ?_ rfl ?_
    · rw [results_cell_tmp2 (P := Tryd.prog) rfl]
      go_simp
    · refine ret_badM HE.out ?_
      repeat' (first | with_reducible exact gV.trans g1 | with_reducible refine Grow.set ?_ (by simp) _)
  | true =>
    have HM := Lib.hid hm
    rw [hm] at cM1
    clear hm
    go_wp2_with fail
    refine cM1.mono ?_
    rintro e w1 ⟨rfl, g1⟩
    have cN1 := cN w1 (gV.trans g1)
    clear cM1 p0 p1 p2 p3 p4
    obtain ⟨⟨p0, p1, p2, p3, p4⟩, hpz⟩ := n5 (g1.blk HBX.out)
    cases hn : mayB t with
    | false =>
      have HN := Lib.hid hn
      rw [hn] at cN1
      clear hn cO cB
      go_wp2_with fail
      refine cN1.mono ?_
      rintro e w2 ⟨rfl, g2⟩
      have gg := g1.trans g2
      clear cN1 p0 p1 p2 p3 p4
      have HE := Lib.hid (show makeR s t = bad 6 from res_bad (by unfold makeE; rw [if_neg (by rw [HM.out]; simp), if_pos HN.out]) (by decide) _ _)
      obtain ⟨⟨e0, e1, e2, e3, e4⟩, hez⟩ := n5 (gg.blk HRX.out)
      have f0 := frozen_of_row _ (w.heap.size + 1) 0 _ _ (gg.blk HRX.out)
      have f1 := frozen_of_row _ (w.heap.size + 1) 1 _ _ (gg.blk HRX.out)
      have f2 := frozen_of_row _ (w.heap.size + 1) 2 _ _ (gg.blk HRX.out)
      have f3 := frozen_of_row _ (w.heap.size + 1) 3 _ _ (gg.blk HRX.out)
      have f4 := frozen_of_row _ (w.heap.size + 1) 4 _ _ (gg.blk HRX.out)
      go_wp2_with fail
      refine bodyPost_ret (v := .tuple #[.agg #[.int .i64 0, .int .i64 0, .int .i64 0, .slice none 0 0, .slice none 0 0], .int .i64 0, .int .i64 6]) ?_ rfl ?_
      · rw [results_cell_tmp2 (P := Tryd.prog) rfl]
        go_simp
      · refine ret_badM HE.out ?_
        repeat' (first | with_reducible exact gV.trans gg | with_reducible refine Grow.set ?_ (by simp) _)
    | true =>
      have HN := Lib.hid hn
      rw [hn] at cN1
      clear hn
      go_wp2_with fail
      refine cN1.mono ?_
      rintro e w2 ⟨rfl, g2⟩
      have gg := g1.trans g2
      have cB1 := cB w2 (gV.trans gg)
      clear cN1 g1 g2 p0 p1 p2 p3 p4
      obtain ⟨⟨p0, p1, p2, p3, p4⟩, hpz⟩ := n5 (gg.blk HBX.out)
      by_cases hi : 0 ≤ nameIx s.books t
      · have HI := Lib.hid hi
        go_wp2_with fail
        refine cB1.mono ?_
        rintro e wb ⟨rfl, gb⟩
        have gh := gg.trans gb
        clear cB1 cO p0 p1 p2 p3 p4
        have HE := Lib.hid (show makeR s t = bad 7 from res_bad (by unfold makeE; rw [if_neg (by rw [HM.out]; simp), if_neg (by rw [HN.out]; simp), if_pos (by have := HI.out; omega)]) (by decide) _ _)
        obtain ⟨⟨e0, e1, e2, e3, e4⟩, hez⟩ := n5 (gh.blk HRX.out)
        have f0 := frozen_of_row _ (w.heap.size + 1) 0 _ _ (gh.blk HRX.out)
        have f1 := frozen_of_row _ (w.heap.size + 1) 1 _ _ (gh.blk HRX.out)
        have f2 := frozen_of_row _ (w.heap.size + 1) 2 _ _ (gh.blk HRX.out)
        have f3 := frozen_of_row _ (w.heap.size + 1) 3 _ _ (gh.blk HRX.out)
        have f4 := frozen_of_row _ (w.heap.size + 1) 4 _ _ (gh.blk HRX.out)
        go_wp2_with fail
        refine bodyPost_ret (v := .tuple #[.agg #[.int .i64 0, .int .i64 0, .int .i64 0, .slice none 0 0, .slice none 0 0], .int .i64 0, .int .i64 7]) ?_ rfl ?_
        · rw [results_cell_tmp2 (P := Tryd.prog) rfl]
          go_simp
        · refine ret_badM HE.out ?_
          repeat' (first | with_reducible exact gV.trans gh | with_reducible refine Grow.set ?_ (by simp) _)
      · have HI := Lib.hid hi
        go_wp2_with fail
        refine cB1.mono ?_
        rintro e wb ⟨rfl, gb⟩
        have gh := gg.trans gb
        clear cB1 gg gb p0 p1 p2 p3 p4
        obtain ⟨⟨p0, p1, p2, p3, p4⟩, hpz⟩ := n5 (gh.blk HBX.out)
        by_cases hl : 6 ≤ (s.books.length : Int)
        · have HL := Lib.hid hl
          clear cO
          have HE := Lib.hid (show makeR s t = bad 3 from res_bad (by unfold makeE; rw [if_neg (by rw [HM.out]; simp), if_neg (by rw [HN.out]; simp), if_neg (by have := HI.out; omega), if_pos (.inl (by have := HL.out; omega))]) (by decide) _ _)
          obtain ⟨⟨e0, e1, e2, e3, e4⟩, hez⟩ := n5 (gh.blk HRX.out)
          have f0 := frozen_of_row _ (w.heap.size + 1) 0 _ _ (gh.blk HRX.out)
          have f1 := frozen_of_row _ (w.heap.size + 1) 1 _ _ (gh.blk HRX.out)
          have f2 := frozen_of_row _ (w.heap.size + 1) 2 _ _ (gh.blk HRX.out)
          have f3 := frozen_of_row _ (w.heap.size + 1) 3 _ _ (gh.blk HRX.out)
          have f4 := frozen_of_row _ (w.heap.size + 1) 4 _ _ (gh.blk HRX.out)
          go_wp2_with fail
          refine bodyPost_ret (v := .tuple #[.agg #[.int .i64 0, .int .i64 0, .int .i64 0, .slice none 0 0, .slice none 0 0], .int .i64 0, .int .i64 3]) ?_ rfl ?_
          · rw [results_cell_tmp2 (P := Tryd.prog) rfl]
            go_simp
          · refine ret_badM HE.out ?_
            repeat' (first | with_reducible exact gV.trans gh | with_reducible refine Grow.set ?_ (by simp) _)
        · by_cases hk : 65536 ≤ s.nb
          · have HL := Lib.hid hk
            clear cO
            have HE := Lib.hid (show makeR s t = bad 3 from res_bad (by unfold makeE; rw [if_neg (by rw [HM.out]; simp), if_neg (by rw [HN.out]; simp), if_neg (by have := HI.out; omega), if_pos (.inr (by have := HL.out; omega))]) (by decide) _ _)
            obtain ⟨⟨e0, e1, e2, e3, e4⟩, hez⟩ := n5 (gh.blk HRX.out)
            have f0 := frozen_of_row _ (w.heap.size + 1) 0 _ _ (gh.blk HRX.out)
            have f1 := frozen_of_row _ (w.heap.size + 1) 1 _ _ (gh.blk HRX.out)
            have f2 := frozen_of_row _ (w.heap.size + 1) 2 _ _ (gh.blk HRX.out)
            have f3 := frozen_of_row _ (w.heap.size + 1) 3 _ _ (gh.blk HRX.out)
            have f4 := frozen_of_row _ (w.heap.size + 1) 4 _ _ (gh.blk HRX.out)
            go_wp2_with fail
            refine bodyPost_ret (v := .tuple #[.agg #[.int .i64 0, .int .i64 0, .int .i64 0, .slice none 0 0, .slice none 0 0], .int .i64 0, .int .i64 3]) ?_ rfl ?_
            · rw [results_cell_tmp2 (P := Tryd.prog) rfl]
              go_simp
            · refine ret_badM HE.out ?_
              repeat' (first | with_reducible exact gV.trans gh | with_reducible refine Grow.set ?_ (by simp) _)
          · have HE := Lib.hid (show makeR s t = ⟨{ s with nb := s.nb + 1, books := s.books ++ [⟨s.nb, t⟩] }, s.nb, 0⟩ from resOf_ok (makeE_zero.2 ⟨HM.out, HN.out, by omega, by omega, by omega⟩) _ _)
            have hnb := (mayS_iff.1 HM.out).nb
            have cO1 := cO _ (gV.trans gh)
            go_wp2_with fail
            refine cO1.mono ?_
            rintro e w3 ⟨bv', nv', Y, rfl, ho, hmap, g3⟩
            have hs : StB w w.heap.size (w.heap.size + 1) s.nb s.nn s.ns bv' nv' s.books Y (((((w3.setCell ⟨w.heap.size, 0, none⟩ (.int .i64 s.nb)).setCell ⟨w.heap.size, 1, none⟩ (.int .i64 s.nn)).setCell ⟨w.heap.size, 2, none⟩ (.int .i64 s.ns)).setCell ⟨w.heap.size, 3, none⟩ bv').setCell ⟨w.heap.size, 4, none⟩ nv') := StB.start (s := s) (D := w.heap.size + 1) gV HBX.out HRX.out gh g3 ho ⟨Nat.le_refl _, by omega, by omega⟩
            obtain ⟨ba, bc, ebv, -⟩ := ho.books.slice
            obtain ⟨na, nc, env, -⟩ := ho.notes.slice
            have hYl : Y.length = s.notes.length := by rw [← hmap, List.length_map]
            rw [hYl] at env
            have HMAP := Lib.hid hmap
            have HYL := Lib.hid hYl
            subst ebv env
            obtain ⟨⟨p0', p1', p2', p3', p4'⟩, hpz'⟩ := n5 ((gh.trans g3).blk HBX.out)
            have HF3 := Lib.hid (frozen_of_row w3 w.heap.size 0 _ _ ((gh.trans g3).blk HBX.out))
            have ff : ∀ j, w3.frozen? ⟨w.heap.size, j, none⟩ = false := fun j => frozen_of_row w3 w.heap.size j _ _ ((gh.trans g3).blk HBX.out)
            have ff0 := ff 0
            have ff1 := ff 1
            have ff2 := ff 2
            have ff3 := ff 3
            have ff4 := ff 4
            have HOW3 := Lib.hid ho
            have HG3 := Lib.hid (gh.trans g3)
            have hw3 : w.heap.size < w3.heap.size := hpz'
            clear cO1 cO ho hmap g3 hYl p0 p1 p2 p3 p4 ff
            unfold shelfV
            go_upto_region 10 with (fail)
            generalize ((((w3.setCell ⟨w.heap.size, 0, none⟩ (.int .i64 s.nb)).setCell ⟨w.heap.size, 1, none⟩ (.int .i64 s.nn)).setCell ⟨w.heap.size, 2, none⟩ (.int .i64 s.ns)).setCell ⟨w.heap.size, 3, none⟩ (.slice ba s.books.length bc)).setCell ⟨w.heap.size, 4, none⟩ (.slice na s.notes.length nc) = W at *
            have HS := Lib.hid hs
            obtain ⟨⟨p0, p1, p2, p3, p4⟩, hpz⟩ := hs.five
            have hb3 := hs.boxF 3
            have hb4 := hs.boxF 4
            clear hs p0' p1' p2' p3' p4' ff0 ff1 ff2 ff3 ff4 hpz'
            go_upto_region 11 with (at_builtin; refine app_R (by rfl) _ _ 25 (by rfl) 37 ib _ 2 24 Tryd.underlying25 hib hbz0 hbz1 hbz2 (by rfl) (by decide) (.slice ba s.books.length bc) s.books.length (s.books.flatMap bookC) (by rfl) _ HS.out.own.books HS.out.grow.size (bookC ⟨s.nb, t⟩) rfl ?_ (by rfl) ?_ (by decide) ?_; (intro u hu; simp at hu; rcases hu with rfl | rfl <;> rfl); omega; intro v' w4 ra; obtain ⟨va, vc, e3, -⟩ := ra.1.slice; subst e3; obtain ⟨k3, f3, z3, hs4⟩ := HS.out.book ra; have HS4 := Lib.hid hs4; clear hs4 ra)
            generalize w4.setCell ⟨w.heap.size, 3, none⟩ (.slice va (s.books.length + 1) vc) = W4 at *
            clear p0 p1 p2 p3 p4 hpz hb3 hb4 k3 f3 z3 HS
            obtain ⟨⟨p0, p1, p2, p3, p4⟩, hpz⟩ := HS4.out.five
            have hb0 := HS4.out.boxF 0
            have HS5 := Lib.hid (HS4.out.num0 (s.nb + 1))
            go_upto_region 12 with (fail)
            generalize W4.setCell ⟨w.heap.size, 0, none⟩ (.int .i64 (s.nb + 1)) = W5 at *
            clear p0 p1 p2 p3 p4 hpz hb0 HS4
            obtain ⟨⟨p0, p1, p2, p3, p4⟩, hpz⟩ := HS5.out.five
            obtain ⟨⟨e0, e1, e2, e3, e4⟩, hez⟩ := HS5.out.res5
            have f0 := HS5.out.resF 0
            have f1 := HS5.out.resF 1
            have f2 := HS5.out.resF 2
            have f3 := HS5.out.resF 3
            have f4 := HS5.out.resF 4
            have HOD := Lib.hid HS5.out.fin
            go_region
            go_wp2_with fail
            refine bodyPost_ret (v := .tuple #[.agg #[.int .i64 (s.nb + 1), .int .i64 s.nn, .int .i64 s.ns, .slice va (s.books.length + 1) vc, .slice na s.notes.length nc], .int .i64 (s.nb), .int .i64 0]) ?_ rfl ?_
            · rw [results_cell_tmp2 (P := Tryd.prog) rfl]
              go_simp
            · refine ret_okM (D := w.heap.size + 1) HE.out ?_ HMAP.out
              repeat' (first | with_reducible exact HOD.out | with_reducible refine OwnD2.drew ?_ | with_reducible refine OwnD2.set ?_ (by omega) _ _)
end Go.Proofs.YtnajccljdjllgaaDoor
set_option linter.unusedVariables false
set_option linter.unusedSimpArgs false
namespace Go.Proofs.YtnajccljdjllgaaDoor
open Go.RowKit Go.Lib
set_option maxRecDepth 100000 in
set_option maxHeartbeats 4000000 in
theorem rename_any (s : Shelf) (bv nv : Value) (id : Int) (t : ByteArray) (w : World) (h : ShelfR w s bv nv) (hz : TameS s) (ht : t.size ≤ 1000000000) (hT : Tabs w) :
    Calls Tryd.prog 27 #[shelfV s bv nv, .int .i64 id, .string t] w (RetC (renameR s id t) w) := by
  have cM := fun W (g : Grow w W) => mayS_any s bv nv W (h.grow g) hz (hT.below g)
  have cN := fun W (g : Grow w W) => may_any t W ht (hT.below g)
  have cO := fun W (g : Grow w W) => own_any s bv nv W (h.grow g) hz.1
  have cB : ∀ W, Grow w W → Calls Tryd.prog 67 #[shelfV s bv nv, .int .i64 id] W fun e w' => e = .returned (.int .i64 (bookIx s id)) ∧ Grow W w' := fun W g => book_any s bv nv id W (h.grow g) (by have := hz.1.1; omega)
  have cX : ∀ W, Grow w W → Calls Tryd.prog 41 #[bv, .string t] W fun e w' => e = .returned (.int .i64 (nameIx s.books t)) ∧ Grow W w' := fun W g => named_any bv s.books t W (h.1.grow g) (by have := hz.1.1; omega)
  have hbl := hz.1.1
  have hnl := hz.1.2.1
  have hbd := idx_bd (fun x : Book => x.id == id) s.books
  have hnd := idx_bd (fun x : Note => x.id == id) s.notes
  rw [show idx (fun x : Book => x.id == id) s.books = bookIx s id from rfl] at hbd
  rw [show idx (fun x : Note => x.id == id) s.notes = noteIx s id from rfl] at hnd
  obtain ⟨a1, c1, rfl⟩ := h.1.mk
  obtain ⟨a2, c2, rfl⟩ := h.2.mk
  have HXX := Lib.hid (two_boxes2 w (shB s (.slice a1 s.books.length c1) (.slice a2 s.notes.length c2)) (shB ⟨0, 0, 0, [], []⟩ (.slice none 0 0) (.slice none 0 0)))
  clear h hz hT
  unfold shelfV at *
  go_enter Tryd.func27, Tryd.ntmps27
  go_upto_region 1 with (fail)
  generalize hV : (w.alloc (.cells #[.int .i64 s.nb, .int .i64 s.nn, .int .i64 s.ns, .slice a1 s.books.length c1, .slice a2 s.notes.length c2] 28)).alloc (.cells #[.int .i64 0, .int .i64 0, .int .i64 0, .slice none 0 0, .slice none 0 0] 28) = V
  have gV : Grow w V := by rw [← hV]; exact ((Grow.refl w).alloc _).alloc _
  have HBX : Hid (V.heap[w.heap.size]? = some (shB s (.slice a1 s.books.length c1) (.slice a2 s.notes.length c2))) := by rw [← hV]; exact Lib.hid HXX.out.1
  have HRX : Hid (V.heap[w.heap.size + 1]? = some (shB ⟨0, 0, 0, [], []⟩ (.slice none 0 0) (.slice none 0 0))) := by rw [← hV]; exact Lib.hid HXX.out.2
  obtain ⟨⟨p0, p1, p2, p3, p4⟩, hpz⟩ := n5 HBX.out
  clear hV
  have cM1 := cM V gV
  cases hm : mayS s with
  | false =>
    have HM := Lib.hid hm
    rw [hm] at cM1
    clear hm cO
    go_wp2_with fail
    refine cM1.mono ?_
    rintro e w1 ⟨rfl, g1⟩
    clear cM1 p0 p1 p2 p3 p4
    have HE := Lib.hid (show renameR s id t = bad 2 from res_bad (by unfold renameE; rw [if_pos HM.out]) (by decide) _ _)
    obtain ⟨⟨e0, e1, e2, e3, e4⟩, hez⟩ := n5 (g1.blk HRX.out)
    have f0 := frozen_of_row _ (w.heap.size + 1) 0 _ _ (g1.blk HRX.out)
    have f1 := frozen_of_row _ (w.heap.size + 1) 1 _ _ (g1.blk HRX.out)
    have f2 := frozen_of_row _ (w.heap.size + 1) 2 _ _ (g1.blk HRX.out)
    have f3 := frozen_of_row _ (w.heap.size + 1) 3 _ _ (g1.blk HRX.out)
    have f4 := frozen_of_row _ (w.heap.size + 1) 4 _ _ (g1.blk HRX.out)
    go_wp2_with fail
    refine bodyPost_ret (v := .tuple #[.agg #[.int .i64 0, .int .i64 0, .int .i64 0, .slice none 0 0, .slice none 0 0], .int .i64 2]) ?_ rfl ?_
    · rw [results_cell_tmp rfl]
      go_simp
    · refine ret_badC HE.out ?_
      repeat' (first | with_reducible exact gV.trans g1 | with_reducible refine Grow.set ?_ (by simp) _)
  | true =>
    have HM := Lib.hid hm
    rw [hm] at cM1
    clear hm
    go_wp2_with fail
    refine cM1.mono ?_
    rintro e w1 ⟨rfl, g1⟩
    clear cM1 p0 p1 p2 p3 p4
    obtain ⟨⟨p0, p1, p2, p3, p4⟩, hpz⟩ := n5 (g1.blk HBX.out)
    have kB := fun y : Gr w1 => cB y.W ((gV.trans g1).trans y.g)
    have kX := fun y : Gr w1 => cX y.W ((gV.trans g1).trans y.g)
    have hz1 : w.heap.size < w1.heap.size := (Array.getElem?_eq_some_iff.1 (g1.blk HBX.out)).1
    go_upto_region 3 with (fail)
    refine wp_region_gr (by kernel_rfl) (by kernel_rfl) ?_
    repeat (go_big_quiet_step (first | (go_at_call 67; exact Calls.gr (kB _)) | (go_at_call 41; exact Calls.gr (kX _))))
    refine wpQuiet_nil ?_
    rintro _ ⟨y, rfl⟩
    have gy := g1.trans y.g
    generalize y.W = wy at *
    clear cB cX kB kX p0 p1 p2 p3 p4 y
    obtain ⟨⟨p0, p1, p2, p3, p4⟩, hpz⟩ := n5 (gy.blk HBX.out)
    by_cases hi : bookIx s id < 0
    · have HI := Lib.hid hi
      clear cO cN
      have HE := Lib.hid (show renameR s id t = bad 4 from res_bad (by unfold renameE; rw [if_neg (by rw [HM.out]; simp), if_pos HI.out]) (by decide) _ _)
      obtain ⟨⟨e0, e1, e2, e3, e4⟩, hez⟩ := n5 (gy.blk HRX.out)
      have f0 := frozen_of_row _ (w.heap.size + 1) 0 _ _ (gy.blk HRX.out)
      have f1 := frozen_of_row _ (w.heap.size + 1) 1 _ _ (gy.blk HRX.out)
      have f2 := frozen_of_row _ (w.heap.size + 1) 2 _ _ (gy.blk HRX.out)
      have f3 := frozen_of_row _ (w.heap.size + 1) 3 _ _ (gy.blk HRX.out)
      have f4 := frozen_of_row _ (w.heap.size + 1) 4 _ _ (gy.blk HRX.out)
      go_wp2_with fail
      refine bodyPost_ret (v := .tuple #[.agg #[.int .i64 0, .int .i64 0, .int .i64 0, .slice none 0 0, .slice none 0 0], .int .i64 4]) ?_ rfl ?_
      · rw [results_cell_tmp rfl]
        go_simp
      · refine ret_badC HE.out ?_
        repeat' (first | with_reducible exact gV.trans gy | with_reducible refine Grow.set ?_ (by simp) _)
    · have HI := Lib.hid hi
      have cN1 := cN _ (gV.trans gy)
      cases hn : mayB t with
      | false =>
        have HN := Lib.hid hn
        rw [hn] at cN1
        clear hn cO
        go_wp2_with fail
        refine cN1.mono ?_
        rintro e wz ⟨rfl, g2⟩
        have gz := gy.trans g2
        clear cN1 p0 p1 p2 p3 p4
        have HE := Lib.hid (show renameR s id t = bad 6 from res_bad (by unfold renameE; rw [if_neg (by rw [HM.out]; simp), if_neg (by have := HI.out; omega), if_pos HN.out]) (by decide) _ _)
        obtain ⟨⟨e0, e1, e2, e3, e4⟩, hez⟩ := n5 (gz.blk HRX.out)
        have f0 := frozen_of_row _ (w.heap.size + 1) 0 _ _ (gz.blk HRX.out)
        have f1 := frozen_of_row _ (w.heap.size + 1) 1 _ _ (gz.blk HRX.out)
        have f2 := frozen_of_row _ (w.heap.size + 1) 2 _ _ (gz.blk HRX.out)
        have f3 := frozen_of_row _ (w.heap.size + 1) 3 _ _ (gz.blk HRX.out)
        have f4 := frozen_of_row _ (w.heap.size + 1) 4 _ _ (gz.blk HRX.out)
        go_wp2_with fail
        refine bodyPost_ret (v := .tuple #[.agg #[.int .i64 0, .int .i64 0, .int .i64 0, .slice none 0 0, .slice none 0 0], .int .i64 6]) ?_ rfl ?_
        · rw [results_cell_tmp rfl]
          go_simp
        · refine ret_badC HE.out ?_
          repeat' (first | with_reducible exact gV.trans gz | with_reducible refine Grow.set ?_ (by simp) _)
      | true =>
        have HN := Lib.hid hn
        rw [hn] at cN1
        clear hn
        go_wp2_with fail
        refine cN1.mono ?_
        rintro e wz ⟨rfl, g2⟩
        have gz := gy.trans g2
        clear cN1 g2 p0 p1 p2 p3 p4
        obtain ⟨⟨p0, p1, p2, p3, p4⟩, hpz⟩ := n5 (gz.blk HBX.out)
        by_cases hk : 0 ≤ nameIx s.books t ∧ nameIx s.books t ≠ bookIx s id
        · have HK := Lib.hid hk
          have hk1 := hk.1
          have hk2 : (nameIx s.books t == bookIx s id) = false := beq_eq_false_iff_ne.2 hk.2
          clear hk cO
          have HE := Lib.hid (show renameR s id t = bad 7 from res_bad (by unfold renameE; rw [if_neg (by rw [HM.out]; simp), if_neg (by have := HI.out; omega), if_neg (by rw [HN.out]; simp), if_pos HK.out]) (by decide) _ _)
          obtain ⟨⟨e0, e1, e2, e3, e4⟩, hez⟩ := n5 (gz.blk HRX.out)
          have f0 := frozen_of_row _ (w.heap.size + 1) 0 _ _ (gz.blk HRX.out)
          have f1 := frozen_of_row _ (w.heap.size + 1) 1 _ _ (gz.blk HRX.out)
          have f2 := frozen_of_row _ (w.heap.size + 1) 2 _ _ (gz.blk HRX.out)
          have f3 := frozen_of_row _ (w.heap.size + 1) 3 _ _ (gz.blk HRX.out)
          have f4 := frozen_of_row _ (w.heap.size + 1) 4 _ _ (gz.blk HRX.out)
          go_wp2_with fail
          refine bodyPost_ret (v := .tuple #[.agg #[.int .i64 0, .int .i64 0, .int .i64 0, .slice none 0 0, .slice none 0 0], .int .i64 7]) ?_ rfl ?_
          · rw [results_cell_tmp rfl]
            go_simp
          · refine ret_badC HE.out ?_
            repeat' (first | with_reducible exact gV.trans gz | with_reducible refine Grow.set ?_ (by simp) _)
        · have hez : renameE s id t = 0 := renameE_zero.2 ⟨HM.out, by omega, HN.out, by omega⟩
          have HM2 := Lib.hid (mayS_iff.1 HM.out)
          obtain ⟨i, hii⟩ : ∃ i : Nat, bookIx s id = i := ⟨(bookIx s id).toNat, by omega⟩
          obtain ⟨x, hx, hxp⟩ := idx_get (p := fun x : Book => x.id == id) (l := s.books) (i := bookIx s id) rfl (by omega)
          rw [hii, Int.toNat_natCast] at hx
          have hxid : x.id = id := by simpa using hxp
          have HE := Lib.hid (show renameR s id t = ⟨{ s with books := s.books.set i { x with name := t } }, 0, 0⟩ by
            rw [renameR, resOf_ok hez, ← hxid, ← set_updB HM2.out.binc hx t])
          have HX := Lib.hid hx
          have hil : (i : Int) < s.books.length := by have := (List.getElem?_eq_some_iff.1 hx).1; omega
          rw [hii] at hi hbd hk
          rw [hii]
          have hcase : nameIx s.books t < 0 ∨ (nameIx s.books t == (i : Int)) = true := by
            by_cases h0 : nameIx s.books t < 0
            · exact .inl h0
            · exact .inr (by rw [beq_iff_eq]; omega)
          have hkk : 0 ≤ nameIx s.books t ∨ nameIx s.books t < 0 := by omega
          clear hez hx hxp hxid hii hk
          rcases hcase with hk1 | hk1
          all_goals
            try have hk2 : 0 ≤ nameIx s.books t := by rw [beq_iff_eq] at hk1; omega
            clear hkk
            have cO1 := cO _ (gV.trans gz)
            go_wp2_with fail
            refine cO1.mono ?_
            rintro e w3 ⟨bv', nv', Y, rfl, ho, hmap, g3⟩
            have hs : StB w w.heap.size (w.heap.size + 1) s.nb s.nn s.ns bv' nv' s.books Y (((((w3.setCell ⟨w.heap.size, 0, none⟩ (.int .i64 s.nb)).setCell ⟨w.heap.size, 1, none⟩ (.int .i64 s.nn)).setCell ⟨w.heap.size, 2, none⟩ (.int .i64 s.ns)).setCell ⟨w.heap.size, 3, none⟩ bv').setCell ⟨w.heap.size, 4, none⟩ nv') := StB.start (s := s) (D := w.heap.size + 1) gV HBX.out HRX.out gz g3 ho ⟨Nat.le_refl _, by omega, by omega⟩
            obtain ⟨ba, bc, ebv, -⟩ := ho.books.slice
            obtain ⟨na, nc, env, -⟩ := ho.notes.slice
            have hYl : Y.length = s.notes.length := by rw [← hmap, List.length_map]
            rw [hYl] at env
            have HMAP := Lib.hid hmap
            have HYL := Lib.hid hYl
            subst ebv env
            obtain ⟨⟨p0', p1', p2', p3', p4'⟩, hpz'⟩ := n5 ((gz.trans g3).blk HBX.out)
            have HF3 := Lib.hid (frozen_of_row w3 w.heap.size 0 _ _ ((gz.trans g3).blk HBX.out))
            have ff : ∀ j, w3.frozen? ⟨w.heap.size, j, none⟩ = false := fun j => frozen_of_row w3 w.heap.size j _ _ ((gz.trans g3).blk HBX.out)
            have ff0 := ff 0
            have ff1 := ff 1
            have ff2 := ff 2
            have ff3 := ff 3
            have ff4 := ff 4
            have HOW3 := Lib.hid ho
            have HG3 := Lib.hid (gz.trans g3)
            have hw3 : w.heap.size < w3.heap.size := hpz'
            clear cO1 cO ho hmap g3 hYl p0 p1 p2 p3 p4 ff
            unfold shelfV
            go_upto_region 11 with (fail)
            generalize ((((w3.setCell ⟨w.heap.size, 0, none⟩ (.int .i64 s.nb)).setCell ⟨w.heap.size, 1, none⟩ (.int .i64 s.nn)).setCell ⟨w.heap.size, 2, none⟩ (.int .i64 s.ns)).setCell ⟨w.heap.size, 3, none⟩ (.slice ba s.books.length bc)).setCell ⟨w.heap.size, 4, none⟩ (.slice na s.notes.length nc) = W at *
            have HS := Lib.hid hs
            obtain ⟨⟨p0, p1, p2, p3, p4⟩, hpz⟩ := hs.five
            have hb3 := hs.boxF 3
            have hb4 := hs.boxF 4
            clear hs p0' p1' p2' p3' p4' ff0 ff1 ff2 ff3 ff4 hpz'
            obtain ⟨b, cc, ebb, hbz, -, -, hcl⟩ := HS.out.own.book HX.out
            injection ebb with eb1 eb2 eb3
            subst eb1 eb3
            have q1 := (hcl 1 _ rfl).1
            have qf := (hcl 1 _ rfl).2
            have HS2 := Lib.hid (HS.out.setB HX.out t rfl)
            clear hcl
            go_upto_region 12 with (fail)
            generalize W.setCell ⟨b, i * 2 + 1, none⟩ (.string t) = W2 at *
            clear p0 p1 p2 p3 p4 hpz hb3 hb4 HS q1 qf
            obtain ⟨⟨p0, p1, p2, p3, p4⟩, hpz⟩ := HS2.out.five
            obtain ⟨⟨e0, e1, e2, e3, e4⟩, hez⟩ := HS2.out.res5
            have f0 := HS2.out.resF 0
            have f1 := HS2.out.resF 1
            have f2 := HS2.out.resF 2
            have f3 := HS2.out.resF 3
            have f4 := HS2.out.resF 4
            have HOD := Lib.hid HS2.out.fin
            go_wp2_with fail
            refine bodyPost_ret (v := .tuple #[.agg #[.int .i64 s.nb, .int .i64 s.nn, .int .i64 s.ns, .slice (some ⟨b, 0, none⟩) s.books.length bc, .slice na s.notes.length nc], .int .i64 0]) ?_ rfl ?_
            · rw [results_cell_tmp rfl]
              go_simp
            · refine ret_okC (D := w.heap.size + 1) (s := { s with books := s.books.set i { x with name := t } }) HE.out ?_ HMAP.out
              repeat' (first | with_reducible exact HOD.out | with_reducible refine OwnD2.drew ?_ | with_reducible refine OwnD2.set ?_ (by omega) _ _)
end Go.Proofs.YtnajccljdjllgaaDoor
set_option linter.unusedVariables false
set_option linter.unusedSimpArgs false
namespace Go.Proofs.YtnajccljdjllgaaDoor
open Go.RowKit Go.Lib
set_option maxRecDepth 100000 in
set_option maxHeartbeats 4000000 in
theorem drop_any (s : Shelf) (bv nv : Value) (id : Int) (w : World) (h : ShelfR w s bv nv) (hz : TameS s) (hT : Tabs w) :
    Calls Tryd.prog 29 #[shelfV s bv nv, .int .i64 id] w (RetC (dropR s id) w) := by
  have cM := fun W (g : Grow w W) => mayS_any s bv nv W (h.grow g) hz (hT.below g)
  have cO := fun W (g : Grow w W) => own_any s bv nv W (h.grow g) hz.1
  have cB : ∀ W, Grow w W → Calls Tryd.prog 67 #[shelfV s bv nv, .int .i64 id] W fun e w' => e = .returned (.int .i64 (bookIx s id)) ∧ Grow W w' := fun W g => book_any s bv nv id W (h.grow g) (by have := hz.1.1; omega)
  have hbl := hz.1.1
  have hnl := hz.1.2.1
  have hbd := idx_bd (fun x : Book => x.id == id) s.books
  have hnd := idx_bd (fun x : Note => x.id == id) s.notes
  rw [show idx (fun x : Book => x.id == id) s.books = bookIx s id from rfl] at hbd
  rw [show idx (fun x : Note => x.id == id) s.notes = noteIx s id from rfl] at hnd
  obtain ⟨a1, c1, rfl⟩ := h.1.mk
  obtain ⟨a2, c2, rfl⟩ := h.2.mk
  have HXX := Lib.hid (three_boxes w (shB s (.slice a1 s.books.length c1) (.slice a2 s.notes.length c2)) (.cells #[.int .i64 id] 3) (shB ⟨0, 0, 0, [], []⟩ (.slice none 0 0) (.slice none 0 0)))
  clear h hz hT
  unfold shelfV at *
  go_enter Tryd.func29, Tryd.ntmps29
  go_upto_region 1 with (fail)
  generalize hV : ((w.alloc (.cells #[.int .i64 s.nb, .int .i64 s.nn, .int .i64 s.ns, .slice a1 s.books.length c1, .slice a2 s.notes.length c2] 28)).alloc (.cells #[.int .i64 id] 3)).alloc (.cells #[.int .i64 0, .int .i64 0, .int .i64 0, .slice none 0 0, .slice none 0 0] 28) = V
  have gV : Grow w V := by rw [← hV]; exact (((Grow.refl w).alloc _).alloc _).alloc _
  have HBX : Hid (V.heap[w.heap.size]? = some (shB s (.slice a1 s.books.length c1) (.slice a2 s.notes.length c2))) := by rw [← hV]; exact Lib.hid HXX.out.1
  have HB1 : Hid (V.heap[w.heap.size + 1]? = some (.cells #[.int .i64 id] 3)) := by rw [← hV]; exact Lib.hid HXX.out.2.1
  have HRX : Hid (V.heap[w.heap.size + 1 + 1]? = some (shB ⟨0, 0, 0, [], []⟩ (.slice none 0 0) (.slice none 0 0))) := by rw [← hV]; exact Lib.hid HXX.out.2.2
  obtain ⟨⟨p0, p1, p2, p3, p4⟩, hpz⟩ := n5 HBX.out
  clear hV
  have cM1 := cM V gV
  cases hm : mayS s with
  | false =>
    have HM := Lib.hid hm
    rw [hm] at cM1
    clear hm cO
    go_wp2_with fail
    refine cM1.mono ?_
    rintro e w1 ⟨rfl, g1⟩
    clear cM1 p0 p1 p2 p3 p4
    have HE := Lib.hid (show dropR s id = bad 2 from res_bad (by unfold dropE; rw [if_pos HM.out]) (by decide) _ _)
    obtain ⟨⟨e0, e1, e2, e3, e4⟩, hez⟩ := n5 (g1.blk HRX.out)
    have f0 := frozen_of_row _ (w.heap.size + 1 + 1) 0 _ _ (g1.blk HRX.out)
    have f1 := frozen_of_row _ (w.heap.size + 1 + 1) 1 _ _ (g1.blk HRX.out)
    have f2 := frozen_of_row _ (w.heap.size + 1 + 1) 2 _ _ (g1.blk HRX.out)
    have f3 := frozen_of_row _ (w.heap.size + 1 + 1) 3 _ _ (g1.blk HRX.out)
    have f4 := frozen_of_row _ (w.heap.size + 1 + 1) 4 _ _ (g1.blk HRX.out)
    go_wp2_with fail
    refine bodyPost_ret (v := .tuple #[.agg #[.int .i64 0, .int .i64 0, .int .i64 0, .slice none 0 0, .slice none 0 0], .int .i64 2]) ?_ rfl ?_
    · rw [results_cell_tmp rfl]
      go_simp
    · refine ret_badC HE.out ?_
      repeat' (first | with_reducible exact gV.trans g1 | with_reducible refine Grow.set ?_ (by first | (simp; done) | (simp; omega)) _)
  | true =>
    have HM := Lib.hid hm
    rw [hm] at cM1
    clear hm
    go_wp2_with fail
    refine cM1.mono ?_
    rintro e w1 ⟨rfl, g1⟩
    clear cM1 p0 p1 p2 p3 p4
    obtain ⟨⟨p0, p1, p2, p3, p4⟩, hpz⟩ := n5 (g1.blk HBX.out)
    have cB1 := cB _ (gV.trans g1)
    have ib1 : w1.cell? ⟨w.heap.size + 1, 0, none⟩ = some (.int .i64 id) := (cell_of_row w1 _ 0 _ _ _ (g1.blk HB1.out)).trans rfl
    have ibz : w.heap.size + 1 < w1.heap.size := (Array.getElem?_eq_some_iff.1 (g1.blk HB1.out)).1
    by_cases hi : bookIx s id < 0
    · have HI := Lib.hid hi
      clear cO
      go_wp2_with fail
      refine cB1.mono ?_
      rintro e w2 ⟨rfl, g2⟩
      have gg := g1.trans g2
      clear cB1 g2 p0 p1 p2 p3 p4 ib1 ibz hpz
      have HE := Lib.hid (show dropR s id = bad 4 from res_bad (by unfold dropE; rw [if_neg (by rw [HM.out]; simp), if_pos (by have := HI.out; omega)]) (by decide) _ _)
      obtain ⟨⟨e0, e1, e2, e3, e4⟩, hez⟩ := n5 (gg.blk HRX.out)
      have f0 := frozen_of_row _ (w.heap.size + 1 + 1) 0 _ _ (gg.blk HRX.out)
      have f1 := frozen_of_row _ (w.heap.size + 1 + 1) 1 _ _ (gg.blk HRX.out)
      have f2 := frozen_of_row _ (w.heap.size + 1 + 1) 2 _ _ (gg.blk HRX.out)
      have f3 := frozen_of_row _ (w.heap.size + 1 + 1) 3 _ _ (gg.blk HRX.out)
      have f4 := frozen_of_row _ (w.heap.size + 1 + 1) 4 _ _ (gg.blk HRX.out)
      go_wp2_with fail
      refine bodyPost_ret (v := .tuple #[.agg #[.int .i64 0, .int .i64 0, .int .i64 0, .slice none 0 0, .slice none 0 0], .int .i64 4]) ?_ rfl ?_
      · rw [results_cell_tmp rfl]
        go_simp
      · refine ret_badC HE.out ?_
        repeat' (first | with_reducible exact gV.trans gg | with_reducible refine Grow.set ?_ (by first | (simp; done) | (simp; omega)) _)
    · have HI := Lib.hid hi
      go_wp2_with fail
      refine cB1.mono ?_
      rintro e w2 ⟨rfl, g2⟩
      have gg := g1.trans g2
      clear cB1 g2 p0 p1 p2 p3 p4 ib1 ibz hpz
      obtain ⟨⟨p0, p1, p2, p3, p4⟩, hpz⟩ := n5 (gg.blk HBX.out)
      have HE := Lib.hid (show dropR s id = ⟨{ s with books := s.books.filter (fun b => !(b.id == id)), notes := s.notes.filter (fun n => !(n.book == id)) }, 0, 0⟩ from resOf_ok (dropE_zero.2 ⟨HM.out, by omega⟩) _ _)
      have cO1 := cO _ (gV.trans gg)
      go_wp2_with fail
      refine cO1.mono ?_
      rintro e w3 ⟨bv', nv', Y, rfl, ho, hmap, g3⟩
      have hs : StB w w.heap.size (w.heap.size + 1 + 1) s.nb s.nn s.ns bv' nv' s.books Y (((((w3.setCell ⟨w.heap.size, 0, none⟩ (.int .i64 s.nb)).setCell ⟨w.heap.size, 1, none⟩ (.int .i64 s.nn)).setCell ⟨w.heap.size, 2, none⟩ (.int .i64 s.ns)).setCell ⟨w.heap.size, 3, none⟩ bv').setCell ⟨w.heap.size, 4, none⟩ nv') := StB.start (s := s) (D := w.heap.size + 1 + 1) gV HBX.out HRX.out gg g3 ho ⟨Nat.le_refl _, by omega, by omega⟩
      have hI1 : (((((w3.setCell ⟨w.heap.size, 0, none⟩ (.int .i64 s.nb)).setCell ⟨w.heap.size, 1, none⟩ (.int .i64 s.nn)).setCell ⟨w.heap.size, 2, none⟩ (.int .i64 s.ns)).setCell ⟨w.heap.size, 3, none⟩ bv').setCell ⟨w.heap.size, 4, none⟩ nv').heap[w.heap.size + 1]? = some (.cells #[.int .i64 id] 3) := set5_other _ _ _ _ _ (by omega) ((gg.trans g3).blk HB1.out)
      obtain ⟨ba, bc, ebv, -⟩ := ho.books.slice
      obtain ⟨na, nc, env, -⟩ := ho.notes.slice
      have hYl : Y.length = s.notes.length := by rw [← hmap, List.length_map]
      rw [hYl] at env
      have HMAP := Lib.hid hmap
      have HYL := Lib.hid hYl
      subst ebv env
      obtain ⟨⟨p0', p1', p2', p3', p4'⟩, hpz'⟩ := n5 ((gg.trans g3).blk HBX.out)
      have HF3 := Lib.hid (frozen_of_row w3 w.heap.size 0 _ _ ((gg.trans g3).blk HBX.out))
      have ff : ∀ j, w3.frozen? ⟨w.heap.size, j, none⟩ = false := fun j => frozen_of_row w3 w.heap.size j _ _ ((gg.trans g3).blk HBX.out)
      have ff0 := ff 0
      have ff1 := ff 1
      have ff2 := ff 2
      have ff3 := ff 3
      have ff4 := ff 4
      have HOW3 := Lib.hid ho
      have HG3 := Lib.hid (gg.trans g3)
      have hw3 : w.heap.size < w3.heap.size := hpz'
      clear cO1 cO ho hmap g3 hYl p0 p1 p2 p3 p4 ff
      unfold shelfV
      go_upto_region 6 with (fail)
      generalize ((((w3.setCell ⟨w.heap.size, 0, none⟩ (.int .i64 s.nb)).setCell ⟨w.heap.size, 1, none⟩ (.int .i64 s.nn)).setCell ⟨w.heap.size, 2, none⟩ (.int .i64 s.ns)).setCell ⟨w.heap.size, 3, none⟩ (.slice ba s.books.length bc)).setCell ⟨w.heap.size, 4, none⟩ (.slice na s.notes.length nc) = W at *
      have HS := Lib.hid hs
      have HI1 := Lib.hid hI1
      clear hI1
      obtain ⟨⟨p0, p1, p2, p3, p4⟩, hpz⟩ := hs.five
      have hb3 := hs.boxF 3
      have hb4 := hs.boxF 4
      clear hs p0' p1' p2' p3' p4' ff0 ff1 ff2 ff3 ff4 hpz'
      have hIz : w.heap.size + 1 < W.heap.size := (Array.getElem?_eq_some_iff.1 HI1.out).1
      have hIc : W.cell? ⟨w.heap.size + 1, 0, none⟩ = some (.int .i64 id) := (cell_of_row W _ 0 _ _ _ HI1.out).trans rfl
      have cD := dropB HS.out hbl HI1.out
      have HLF := Lib.hid (List.length_filter_le (fun b : Book => !(b.id == id)) s.books)
      go_wp2_with fail
      refine cD.mono ?_
      rintro e w5 ⟨v5, rfl, hr, hg, -⟩
      obtain ⟨xa, xc, e5, -⟩ := hr.slice
      subst e5
      have hI5 := ((HS.out.own.books.keeps hg) _ _ _ _ (by decide) HI1.out)
      obtain ⟨k3, f3, z3, hs4⟩ := HS.out.toB hr hg
      have HS2 := Lib.hid hs4
      have hI6 : (w5.setCell ⟨w.heap.size, 3, none⟩ (.slice xa (s.books.filter (fun b => !(b.id == id))).length xc)).heap[w.heap.size + 1]? = some (.cells #[.int .i64 id] 3 (0, 0)) := ((turned_cell w5 _ 3 _).block _ (Array.getElem?_eq_some_iff.1 hI5).1 (by omega)).trans hI5
      clear cD hr hg hs4 p0 p1 p2 p3 p4 hpz hb3 hb4 hIz hIc hI5
      go_upto_region 7 with (fail)
      generalize w5.setCell ⟨w.heap.size, 3, none⟩ (.slice xa (s.books.filter (fun b => !(b.id == id))).length xc) = W2 at *
      clear k3 f3 z3 HS
      have HI6 := Lib.hid hI6
      obtain ⟨⟨p0, p1, p2, p3, p4⟩, hpz⟩ := HS2.out.five
      have hb4 := HS2.out.boxF 4
      have hIz : w.heap.size + 1 < W2.heap.size := (Array.getElem?_eq_some_iff.1 hI6).1
      have cD := dropN HS2.out (by rw [HYL.out]; exact hnl) hI6
      clear hI6
      go_wp2_with fail
      refine cD.mono ?_
      rintro e w7 ⟨v7, rfl, hr, hg, -⟩
      obtain ⟨ya, yc, e7, -⟩ := hr.slice
      subst e7
      have HMF := Lib.hid (map_filterN HMAP.out (fun n => !(n.book == id)))
      obtain ⟨k3, f3, z3, hs4⟩ := HS2.out.subN (List.filter_sublist (p := fun y : NV => !(y.n.book == id))) hr hg
      have HS3 := Lib.hid hs4
      clear cD hr hg hs4 p0 p1 p2 p3 p4 hpz hb4 hIz
      go_upto_region 8 with (fail)
      generalize w7.setCell ⟨w.heap.size, 4, none⟩ (.slice ya (Y.filter fun y => !(y.n.book == id)).length yc) = W3 at *
      clear k3 f3 z3 HS2
      obtain ⟨⟨p0, p1, p2, p3, p4⟩, hpz⟩ := HS3.out.five
      obtain ⟨⟨e0, e1, e2, e3, e4⟩, hez⟩ := HS3.out.res5
      have f0 := HS3.out.resF 0
      have f1 := HS3.out.resF 1
      have f2 := HS3.out.resF 2
      have f3 := HS3.out.resF 3
      have f4 := HS3.out.resF 4
      have HOD := Lib.hid HS3.out.fin
      go_wp2_with fail
      refine bodyPost_ret (v := .tuple #[.agg #[.int .i64 s.nb, .int .i64 s.nn, .int .i64 s.ns, .slice xa (s.books.filter (fun b => !(b.id == id))).length xc, .slice ya (Y.filter fun y => !(y.n.book == id)).length yc], .int .i64 0]) ?_ rfl ?_
      · rw [results_cell_tmp rfl]
        go_simp
      · refine ret_okC (D := w.heap.size + 1 + 1) (s := { s with books := s.books.filter (fun b => !(b.id == id)), notes := s.notes.filter (fun n => !(n.book == id)) }) HE.out ?_ HMF.out
        repeat' (first | with_reducible exact HOD.out | with_reducible refine OwnD2.drew ?_ | with_reducible refine OwnD2.set ?_ (by omega) _ _)
end Go.Proofs.YtnajccljdjllgaaDoor
set_option linter.unusedVariables false
set_option linter.unusedSimpArgs false
namespace Go.Proofs.YtnajccljdjllgaaDoor
open Go.RowKit Go.Lib
set_option maxRecDepth 100000 in
set_option maxHeartbeats 4000000 in
theorem add_any (s : Shelf) (bv nv : Value) (id : Int) (t : ByteArray) (w : World) (h : ShelfR w s bv nv) (hz : TameS s) (ht : t.size ≤ 1000000000) (hT : Tabs w) :
    Calls Tryd.prog 31 #[shelfV s bv nv, .int .i64 id, .string t] w (RetM (addR s id t) w) := by
  have cM := fun W (g : Grow w W) => mayS_any s bv nv W (h.grow g) hz (hT.below g)
  obtain ⟨ib, hib, hbz0, hbz1, hbz2⟩ := info_parts info_note
  have cN := fun W (g : Grow w W) => may_any t W ht (hT.below g)
  have cO := fun W (g : Grow w W) => own_any s bv nv W (h.grow g) hz.1
  have cB : ∀ W, Grow w W → Calls Tryd.prog 67 #[shelfV s bv nv, .int .i64 id] W fun e w' => e = .returned (.int .i64 (bookIx s id)) ∧ Grow W w' := fun W g => book_any s bv nv id W (h.grow g) (by have := hz.1.1; omega)
  have cT := fun W (g : Grow w W) => titled_any s bv nv id t 0 W (h.grow g) (by have := hz.1.2.1; omega)
  have hbl := hz.1.1
  have hnl := hz.1.2.1
  have hbd := idx_bd (fun x : Book => x.id == id) s.books
  have hnd := idx_bd (fun x : Note => x.id == id) s.notes
  rw [show idx (fun x : Book => x.id == id) s.books = bookIx s id from rfl] at hbd
  rw [show idx (fun x : Note => x.id == id) s.notes = noteIx s id from rfl] at hnd
  obtain ⟨a1, c1, rfl⟩ := h.1.mk
  obtain ⟨a2, c2, rfl⟩ := h.2.mk
  have HXX := Lib.hid (two_boxes2 w (shB s (.slice a1 s.books.length c1) (.slice a2 s.notes.length c2)) (shB ⟨0, 0, 0, [], []⟩ (.slice none 0 0) (.slice none 0 0)))
  clear h hz hT
  unfold shelfV at *
  go_enter Tryd.func31, Tryd.ntmps31
  go_upto_region 1 with (fail)
  generalize hV : (w.alloc (.cells #[.int .i64 s.nb, .int .i64 s.nn, .int .i64 s.ns, .slice a1 s.books.length c1, .slice a2 s.notes.length c2] 28)).alloc (.cells #[.int .i64 0, .int .i64 0, .int .i64 0, .slice none 0 0, .slice none 0 0] 28) = V
  have gV : Grow w V := by rw [← hV]; exact ((Grow.refl w).alloc _).alloc _
  have HBX : Hid (V.heap[w.heap.size]? = some (shB s (.slice a1 s.books.length c1) (.slice a2 s.notes.length c2))) := by rw [← hV]; exact Lib.hid HXX.out.1
  have HRX : Hid (V.heap[w.heap.size + 1]? = some (shB ⟨0, 0, 0, [], []⟩ (.slice none 0 0) (.slice none 0 0))) := by rw [← hV]; exact Lib.hid HXX.out.2
  obtain ⟨⟨p0, p1, p2, p3, p4⟩, hpz⟩ := n5 HBX.out
  clear hV
  have cM1 := cM V gV
  cases hm : mayS s with
  | false =>
    have HM := Lib.hid hm
    rw [hm] at cM1
    clear hm cO
    go_wp2_with fail
    refine cM1.mono ?_
    rintro e w1 ⟨rfl, g1⟩
    clear cM1 p0 p1 p2 p3 p4
    have HE := Lib.hid (show addR s id t = bad 2 from res_bad (by unfold addE; rw [if_pos HM.out]) (by decide) _ _)
    obtain ⟨⟨e0, e1, e2, e3, e4⟩, hez⟩ := n5 (g1.blk HRX.out)
    have f0 := frozen_of_row _ (w.heap.size + 1) 0 _ _ (g1.blk HRX.out)
    have f1 := frozen_of_row _ (w.heap.size + 1) 1 _ _ (g1.blk HRX.out)
    have f2 := frozen_of_row _ (w.heap.size + 1) 2 _ _ (g1.blk HRX.out)
    have f3 := frozen_of_row _ (w.heap.size + 1) 3 _ _ (g1.blk HRX.out)
    have f4 := frozen_of_row _ (w.heap.size + 1) 4 _ _ (g1.blk HRX.out)
    go_wp2_with fail
    refine bodyPost_ret (v := .tuple #[.agg #[.int .i64 0, .int .i64 0, .int .i64 0, .slice none 0 0, .slice none 0 0], .int .i64 0, .int .i64 2]) ?_ rfl ?_
    · rw [results_cell_tmp2 (P := Tryd.prog) rfl]
      go_simp
    · refine ret_badM HE.out ?_
      repeat' (first | with_reducible exact gV.trans g1 | with_reducible refine Grow.set ?_ (by first | (simp; done) | (simp; omega)) _)
  | true =>
    have HM := Lib.hid hm
    rw [hm] at cM1
    clear hm
    go_wp2_with fail
    refine cM1.mono ?_
    rintro e w1 ⟨rfl, g1⟩
    clear cM1 p0 p1 p2 p3 p4
    obtain ⟨⟨p0, p1, p2, p3, p4⟩, hpz⟩ := n5 (g1.blk HBX.out)
    have cB1 := cB _ (gV.trans g1)
    by_cases hi : bookIx s id < 0
    · have HI := Lib.hid hi
      clear cO cN cT
      go_wp2_with fail
      refine cB1.mono ?_
      rintro e w2 ⟨rfl, g2⟩
      have gg := g1.trans g2
      clear cB1 g2 p0 p1 p2 p3 p4 hpz
      have HE := Lib.hid (show addR s id t = bad 4 from res_bad (by unfold addE; rw [if_neg (by rw [HM.out]; simp), if_pos HI.out]) (by decide) _ _)
      obtain ⟨⟨e0, e1, e2, e3, e4⟩, hez⟩ := n5 (gg.blk HRX.out)
      have f0 := frozen_of_row _ (w.heap.size + 1) 0 _ _ (gg.blk HRX.out)
      have f1 := frozen_of_row _ (w.heap.size + 1) 1 _ _ (gg.blk HRX.out)
      have f2 := frozen_of_row _ (w.heap.size + 1) 2 _ _ (gg.blk HRX.out)
      have f3 := frozen_of_row _ (w.heap.size + 1) 3 _ _ (gg.blk HRX.out)
      have f4 := frozen_of_row _ (w.heap.size + 1) 4 _ _ (gg.blk HRX.out)
      go_wp2_with fail
      refine bodyPost_ret (v := .tuple #[.agg #[.int .i64 0, .int .i64 0, .int .i64 0, .slice none 0 0, .slice none 0 0], .int .i64 0, .int .i64 4]) ?_ rfl ?_
      · rw [results_cell_tmp2 (P := Tryd.prog) rfl]
        go_simp
      · refine ret_badM HE.out ?_
        repeat' (first | with_reducible exact gV.trans gg | with_reducible refine Grow.set ?_ (by first | (simp; done) | (simp; omega)) _)
    · have HI := Lib.hid hi
      go_wp2_with fail
      refine cB1.mono ?_
      rintro e w2 ⟨rfl, g2⟩
      have gg := g1.trans g2
      clear cB1 g2 p0 p1 p2 p3 p4 hpz
      obtain ⟨⟨p0, p1, p2, p3, p4⟩, hpz⟩ := n5 (gg.blk HBX.out)
      have cN1 := cN _ (gV.trans gg)
      cases hn : mayB t with
      | false =>
        have HN := Lib.hid hn
        rw [hn] at cN1
        clear hn cO
        go_wp2_with fail
        refine cN1.mono ?_
        rintro e wn ⟨rfl, g2⟩
        have gh := gg.trans g2
        clear cN1 p0 p1 p2 p3 p4
        have HE := Lib.hid (show addR s id t = bad 6 from res_bad (by unfold addE; rw [if_neg (by rw [HM.out]; simp), if_neg (by have := HI.out; omega), if_pos HN.out]) (by decide) _ _)
        obtain ⟨⟨e0, e1, e2, e3, e4⟩, hez⟩ := n5 (gh.blk HRX.out)
        have f0 := frozen_of_row _ (w.heap.size + 1) 0 _ _ (gh.blk HRX.out)
        have f1 := frozen_of_row _ (w.heap.size + 1) 1 _ _ (gh.blk HRX.out)
        have f2 := frozen_of_row _ (w.heap.size + 1) 2 _ _ (gh.blk HRX.out)
        have f3 := frozen_of_row _ (w.heap.size + 1) 3 _ _ (gh.blk HRX.out)
        have f4 := frozen_of_row _ (w.heap.size + 1) 4 _ _ (gh.blk HRX.out)
        go_wp2_with fail
        refine bodyPost_ret (v := .tuple #[.agg #[.int .i64 0, .int .i64 0, .int .i64 0, .slice none 0 0, .slice none 0 0], .int .i64 0, .int .i64 6]) ?_ rfl ?_
        · rw [results_cell_tmp2 (P := Tryd.prog) rfl]
          go_simp
        · refine ret_badM HE.out ?_
          repeat' (first | with_reducible exact gV.trans gh | with_reducible refine Grow.set ?_ (by first | (simp; done) | (simp; omega)) _)
      | true =>
        have HN := Lib.hid hn
        rw [hn] at cN1
        clear hn
        go_wp2_with fail
        refine cN1.mono ?_
        rintro e wn ⟨rfl, g2⟩
        have gh := gg.trans g2
        clear cN1 g2 p0 p1 p2 p3 p4
        obtain ⟨⟨p0, p1, p2, p3, p4⟩, hpz⟩ := n5 (gh.blk HBX.out)
        have cT1 := cT _ (gV.trans gh)
        cases htt : s.notes.any (titleB id t 0) with
        | true =>
          have HTT := Lib.hid htt
          rw [htt] at cT1
          clear htt cO
          go_wp2_with fail
          refine cT1.mono ?_
          rintro e wt ⟨rfl, g3⟩
          have gi := gh.trans g3
          clear cT1 g3 p0 p1 p2 p3 p4 hpz
          have HE := Lib.hid (show addR s id t = bad 7 from res_bad (by unfold addE; rw [if_neg (by rw [HM.out]; simp), if_neg (by have := HI.out; omega), if_neg (by rw [HN.out]; simp), if_pos HTT.out]) (by decide) _ _)
          obtain ⟨⟨e0, e1, e2, e3, e4⟩, hez⟩ := n5 (gi.blk HRX.out)
          have f0 := frozen_of_row _ (w.heap.size + 1) 0 _ _ (gi.blk HRX.out)
          have f1 := frozen_of_row _ (w.heap.size + 1) 1 _ _ (gi.blk HRX.out)
          have f2 := frozen_of_row _ (w.heap.size + 1) 2 _ _ (gi.blk HRX.out)
          have f3 := frozen_of_row _ (w.heap.size + 1) 3 _ _ (gi.blk HRX.out)
          have f4 := frozen_of_row _ (w.heap.size + 1) 4 _ _ (gi.blk HRX.out)
          go_wp2_with fail
          refine bodyPost_ret (v := .tuple #[.agg #[.int .i64 0, .int .i64 0, .int .i64 0, .slice none 0 0, .slice none 0 0], .int .i64 0, .int .i64 7]) ?_ rfl ?_
          · rw [results_cell_tmp2 (P := Tryd.prog) rfl]
            go_simp
          · refine ret_badM HE.out ?_
            repeat' (first | with_reducible exact gV.trans gi | with_reducible refine Grow.set ?_ (by first | (simp; done) | (simp; omega)) _)
        | false =>
          have HTT := Lib.hid htt
          rw [htt] at cT1
          clear htt
          go_wp2_with fail
          refine cT1.mono ?_
          rintro e wt ⟨rfl, g3⟩
          have gi := gh.trans g3
          clear cT1 g3 p0 p1 p2 p3 p4 hpz
          obtain ⟨⟨p0, p1, p2, p3, p4⟩, hpz⟩ := n5 (gi.blk HBX.out)
          by_cases hl : 12 ≤ (s.notes.length : Int)
          · have HL := Lib.hid hl
            clear cO
            have HE := Lib.hid (show addR s id t = bad 3 from res_bad (by unfold addE; rw [if_neg (by rw [HM.out]; simp), if_neg (by have := HI.out; omega), if_neg (by rw [HN.out]; simp), if_neg (by rw [HTT.out]; simp), if_pos (.inl HL.out)]) (by decide) _ _)
            obtain ⟨⟨e0, e1, e2, e3, e4⟩, hez⟩ := n5 (gi.blk HRX.out)
            have f0 := frozen_of_row _ (w.heap.size + 1) 0 _ _ (gi.blk HRX.out)
            have f1 := frozen_of_row _ (w.heap.size + 1) 1 _ _ (gi.blk HRX.out)
            have f2 := frozen_of_row _ (w.heap.size + 1) 2 _ _ (gi.blk HRX.out)
            have f3 := frozen_of_row _ (w.heap.size + 1) 3 _ _ (gi.blk HRX.out)
            have f4 := frozen_of_row _ (w.heap.size + 1) 4 _ _ (gi.blk HRX.out)
            go_wp2_with fail
            refine bodyPost_ret (v := .tuple #[.agg #[.int .i64 0, .int .i64 0, .int .i64 0, .slice none 0 0, .slice none 0 0], .int .i64 0, .int .i64 3]) ?_ rfl ?_
            · rw [results_cell_tmp2 (P := Tryd.prog) rfl]
              go_simp
            · refine ret_badM HE.out ?_
              repeat' (first | with_reducible exact gV.trans gi | with_reducible refine Grow.set ?_ (by first | (simp; done) | (simp; omega)) _)
          · by_cases hk : 65536 ≤ s.nn
            · have HL := Lib.hid hk
              clear cO
              have HE := Lib.hid (show addR s id t = bad 3 from res_bad (by unfold addE; rw [if_neg (by rw [HM.out]; simp), if_neg (by have := HI.out; omega), if_neg (by rw [HN.out]; simp), if_neg (by rw [HTT.out]; simp), if_pos (.inr HL.out)]) (by decide) _ _)
              obtain ⟨⟨e0, e1, e2, e3, e4⟩, hez⟩ := n5 (gi.blk HRX.out)
              have f0 := frozen_of_row _ (w.heap.size + 1) 0 _ _ (gi.blk HRX.out)
              have f1 := frozen_of_row _ (w.heap.size + 1) 1 _ _ (gi.blk HRX.out)
              have f2 := frozen_of_row _ (w.heap.size + 1) 2 _ _ (gi.blk HRX.out)
              have f3 := frozen_of_row _ (w.heap.size + 1) 3 _ _ (gi.blk HRX.out)
              have f4 := frozen_of_row _ (w.heap.size + 1) 4 _ _ (gi.blk HRX.out)
              go_wp2_with fail
              refine bodyPost_ret (v := .tuple #[.agg #[.int .i64 0, .int .i64 0, .int .i64 0, .slice none 0 0, .slice none 0 0], .int .i64 0, .int .i64 3]) ?_ rfl ?_
              · rw [results_cell_tmp2 (P := Tryd.prog) rfl]
                go_simp
              · refine ret_badM HE.out ?_
                repeat' (first | with_reducible exact gV.trans gi | with_reducible refine Grow.set ?_ (by first | (simp; done) | (simp; omega)) _)
            · have HE := Lib.hid (show addR s id t = ⟨{ s with nn := s.nn + 1, notes := s.notes ++ [⟨s.nn, id, t, [], []⟩] }, s.nn, 0⟩ from resOf_ok (addE_zero.2 ⟨HM.out, by have := HI.out; omega, HN.out, HTT.out, by omega, by omega⟩) _ _)
              have hnb := (mayS_iff.1 HM.out).nn
              have cO1 := cO _ (gV.trans gi)
              go_wp2_with fail
              refine cO1.mono ?_
              rintro e w3 ⟨bv', nv', Y, rfl, ho, hmap, g3⟩
              have hs : StB w w.heap.size (w.heap.size + 1) s.nb s.nn s.ns bv' nv' s.books Y (((((w3.setCell ⟨w.heap.size, 0, none⟩ (.int .i64 s.nb)).setCell ⟨w.heap.size, 1, none⟩ (.int .i64 s.nn)).setCell ⟨w.heap.size, 2, none⟩ (.int .i64 s.ns)).setCell ⟨w.heap.size, 3, none⟩ bv').setCell ⟨w.heap.size, 4, none⟩ nv') := StB.start (s := s) (D := w.heap.size + 1) gV HBX.out HRX.out gi g3 ho ⟨Nat.le_refl _, by omega, by omega⟩
              obtain ⟨ba, bc, ebv, -⟩ := ho.books.slice
              obtain ⟨na, nc, env, -⟩ := ho.notes.slice
              have hYl : Y.length = s.notes.length := by rw [← hmap, List.length_map]
              rw [hYl] at env
              have HMAP := Lib.hid hmap
              have HYL := Lib.hid hYl
              subst ebv env
              obtain ⟨⟨p0', p1', p2', p3', p4'⟩, hpz'⟩ := n5 ((gi.trans g3).blk HBX.out)
              have HF3 := Lib.hid (frozen_of_row w3 w.heap.size 0 _ _ ((gi.trans g3).blk HBX.out))
              have ff : ∀ j, w3.frozen? ⟨w.heap.size, j, none⟩ = false := fun j => frozen_of_row w3 w.heap.size j _ _ ((gi.trans g3).blk HBX.out)
              have ff0 := ff 0
              have ff1 := ff 1
              have ff2 := ff 2
              have ff3 := ff 3
              have ff4 := ff 4
              have HOW3 := Lib.hid ho
              have HG3 := Lib.hid (gi.trans g3)
              have hw3 : w.heap.size < w3.heap.size := hpz'
              clear cO1 cO ho hmap g3 hYl p0 p1 p2 p3 p4 ff
              unfold shelfV
              go_upto_region 12 with (fail)
              generalize ((((w3.setCell ⟨w.heap.size, 0, none⟩ (.int .i64 s.nb)).setCell ⟨w.heap.size, 1, none⟩ (.int .i64 s.nn)).setCell ⟨w.heap.size, 2, none⟩ (.int .i64 s.ns)).setCell ⟨w.heap.size, 3, none⟩ (.slice ba s.books.length bc)).setCell ⟨w.heap.size, 4, none⟩ (.slice na s.notes.length nc) = W at *
              have HS := Lib.hid hs
              obtain ⟨⟨p0, p1, p2, p3, p4⟩, hpz⟩ := hs.five
              have hb3 := hs.boxF 3
              have hb4 := hs.boxF 4
              clear hs p0' p1' p2' p3' p4' ff0 ff1 ff2 ff3 ff4 hpz'
              have HSR := Lib.hid HS.out.own.notes
              go_upto_region 13 with (at_builtin; refine app_R (by rfl) _ _ 26 (by rfl) 41 ib _ 5 80 Tryd.underlying26 hib hbz0 hbz1 hbz2 (by rfl) (by decide) (.slice na s.notes.length nc) s.notes.length (Y.flatMap noteC) (by rfl) _ (by have h9 := HS.out.own.notes; rw [HYL.out] at h9; exact h9) HS.out.grow.size (noteC ⟨⟨s.nn, id, t, [], []⟩, .slice none 0 0, .slice none 0 0⟩) rfl ?_ (by rfl) ?_ (by decide) ?_; (intro u hu; simp at hu; rcases hu with rfl | rfl | rfl | rfl | rfl <;> rfl); omega; intro v' w4 ra; obtain ⟨va, vc, e3, -⟩ := ra.1.slice; subst e3; obtain ⟨k3, f3, z3, hs4⟩ := HS.out.note (x := ⟨⟨s.nn, id, t, [], []⟩, .slice none 0 0, .slice none 0 0⟩) ⟨rfl, rfl⟩ ⟨rfl, rfl⟩ (by rw [HYL.out]; exact ra); have HS4 := Lib.hid hs4; clear hs4 ra)
              generalize w4.setCell ⟨w.heap.size, 4, none⟩ (.slice va (s.notes.length + 1) vc) = W4 at *
              clear p0 p1 p2 p3 p4 hpz hb3 hb4 k3 f3 z3 HS
              obtain ⟨⟨p0, p1, p2, p3, p4⟩, hpz⟩ := HS4.out.five
              have hb0 := HS4.out.boxF 1
              have HS5 := Lib.hid (HS4.out.num1 (s.nn + 1))
              have HMQ := Lib.hid (show (Y ++ [(⟨⟨s.nn, id, t, [], []⟩, .slice none 0 0, .slice none 0 0⟩ : NV)]).map NV.n = s.notes ++ [⟨s.nn, id, t, [], []⟩] by rw [List.map_append, HMAP.out]; rfl)
              go_upto_region 14 with (fail)
              generalize W4.setCell ⟨w.heap.size, 1, none⟩ (.int .i64 (s.nn + 1)) = W5 at *
              clear p0 p1 p2 p3 p4 hpz hb0 HS4
              obtain ⟨⟨p0, p1, p2, p3, p4⟩, hpz⟩ := HS5.out.five
              obtain ⟨⟨e0, e1, e2, e3, e4⟩, hez⟩ := HS5.out.res5
              have f0 := HS5.out.resF 0
              have f1 := HS5.out.resF 1
              have f2 := HS5.out.resF 2
              have f3 := HS5.out.resF 3
              have f4 := HS5.out.resF 4
              have HOD := Lib.hid HS5.out.fin
              go_region
              go_wp2_with fail
              refine bodyPost_ret (v := .tuple #[.agg #[.int .i64 s.nb, .int .i64 (s.nn + 1), .int .i64 s.ns, .slice ba s.books.length bc, .slice va (s.notes.length + 1) vc], .int .i64 (s.nn), .int .i64 0]) ?_ rfl ?_
              · rw [results_cell_tmp2 (P := Tryd.prog) rfl]
                go_simp
              · refine ret_okM (D := w.heap.size + 1) (s := { s with nn := s.nn + 1, notes := s.notes ++ [⟨s.nn, id, t, [], []⟩] }) HE.out ?_ HMQ.out
                repeat' (first | with_reducible exact HOD.out | with_reducible refine OwnD2.drew ?_ | with_reducible refine OwnD2.set ?_ (by omega) _ _)
end Go.Proofs.YtnajccljdjllgaaDoor
set_option linter.unusedVariables false
set_option linter.unusedSimpArgs false
namespace Go.Proofs.YtnajccljdjllgaaDoor
open Go.RowKit Go.Lib
set_option maxRecDepth 100000 in
set_option maxHeartbeats 4000000 in
theorem retitle_any (s : Shelf) (bv nv : Value) (id : Int) (t : ByteArray) (w : World) (h : ShelfR w s bv nv) (hz : TameS s) (ht : t.size ≤ 1000000000) (hT : Tabs w) :
    Calls Tryd.prog 33 #[shelfV s bv nv, .int .i64 id, .string t] w (RetC (retitleR s id t) w) := by
  have cM := fun W (g : Grow w W) => mayS_any s bv nv W (h.grow g) hz (hT.below g)
  have cN := fun W (g : Grow w W) => may_any t W ht (hT.below g)
  have cO := fun W (g : Grow w W) => own_any s bv nv W (h.grow g) hz.1
  have cK : ∀ W, Grow w W → Calls Tryd.prog 75 #[shelfV s bv nv, .int .i64 id] W fun e w' => e = .returned (.int .i64 (noteIx s id)) ∧ Grow W w' := fun W g => note_any s bv nv id W (h.grow g) (by have := hz.1.2.1; omega)
  have cT := fun q W (g : Grow w W) => titled_any s bv nv q t id W (h.grow g) (by have := hz.1.2.1; omega)
  have HH := Lib.hid h
  have hbl := hz.1.1
  have hnl := hz.1.2.1
  have hbd := idx_bd (fun x : Book => x.id == id) s.books
  have hnd := idx_bd (fun x : Note => x.id == id) s.notes
  rw [show idx (fun x : Book => x.id == id) s.books = bookIx s id from rfl] at hbd
  rw [show idx (fun x : Note => x.id == id) s.notes = noteIx s id from rfl] at hnd
  obtain ⟨a1, c1, rfl⟩ := h.1.mk
  obtain ⟨a2, c2, rfl⟩ := h.2.mk
  have HXX := Lib.hid (two_boxes2 w (shB s (.slice a1 s.books.length c1) (.slice a2 s.notes.length c2)) (shB ⟨0, 0, 0, [], []⟩ (.slice none 0 0) (.slice none 0 0)))
  clear h hz hT
  unfold shelfV at *
  go_enter Tryd.func33, Tryd.ntmps33
  go_upto_region 1 with (fail)
  generalize hV : (w.alloc (.cells #[.int .i64 s.nb, .int .i64 s.nn, .int .i64 s.ns, .slice a1 s.books.length c1, .slice a2 s.notes.length c2] 28)).alloc (.cells #[.int .i64 0, .int .i64 0, .int .i64 0, .slice none 0 0, .slice none 0 0] 28) = V
  have gV : Grow w V := by rw [← hV]; exact ((Grow.refl w).alloc _).alloc _
  have HBX : Hid (V.heap[w.heap.size]? = some (shB s (.slice a1 s.books.length c1) (.slice a2 s.notes.length c2))) := by rw [← hV]; exact Lib.hid HXX.out.1
  have HRX : Hid (V.heap[w.heap.size + 1]? = some (shB ⟨0, 0, 0, [], []⟩ (.slice none 0 0) (.slice none 0 0))) := by rw [← hV]; exact Lib.hid HXX.out.2
  obtain ⟨⟨p0, p1, p2, p3, p4⟩, hpz⟩ := n5 HBX.out
  clear hV
  have cM1 := cM V gV
  cases hm : mayS s with
  | false =>
    have HM := Lib.hid hm
    rw [hm] at cM1
    clear hm cO
    go_wp2_with fail
    refine cM1.mono ?_
    rintro e w1 ⟨rfl, g1⟩
    clear cM1 p0 p1 p2 p3 p4
    have HE := Lib.hid (show retitleR s id t = bad 2 from res_bad (by unfold retitleE; rw [if_pos HM.out]) (by decide) _ _)
    obtain ⟨⟨e0, e1, e2, e3, e4⟩, hez⟩ := n5 (g1.blk HRX.out)
    have f0 := frozen_of_row _ (w.heap.size + 1) 0 _ _ (g1.blk HRX.out)
    have f1 := frozen_of_row _ (w.heap.size + 1) 1 _ _ (g1.blk HRX.out)
    have f2 := frozen_of_row _ (w.heap.size + 1) 2 _ _ (g1.blk HRX.out)
    have f3 := frozen_of_row _ (w.heap.size + 1) 3 _ _ (g1.blk HRX.out)
    have f4 := frozen_of_row _ (w.heap.size + 1) 4 _ _ (g1.blk HRX.out)
    go_wp2_with fail
    refine bodyPost_ret (v := .tuple #[.agg #[.int .i64 0, .int .i64 0, .int .i64 0, .slice none 0 0, .slice none 0 0], .int .i64 2]) ?_ rfl ?_
    · rw [results_cell_tmp rfl]
      go_simp
    · refine ret_badC HE.out ?_
      repeat' (first | with_reducible exact gV.trans g1 | with_reducible refine Grow.set ?_ (by first | (simp; done) | (simp; omega)) _)
  | true =>
    have HM := Lib.hid hm
    rw [hm] at cM1
    clear hm
    go_wp2_with fail
    refine cM1.mono ?_
    rintro e w1 ⟨rfl, g1⟩
    clear cM1 p0 p1 p2 p3 p4
    obtain ⟨⟨p0, p1, p2, p3, p4⟩, hpz⟩ := n5 (g1.blk HBX.out)
    have cK1 := cK _ (gV.trans g1)
    by_cases hi : noteIx s id < 0
    · have HI := Lib.hid hi
      clear cO cT cN
      go_wp2_with fail
      refine cK1.mono ?_
      rintro e w2 ⟨rfl, g2⟩
      have gg := g1.trans g2
      clear cK1 g2 p0 p1 p2 p3 p4 hpz
      have HE := Lib.hid (show retitleR s id t = bad 4 from res_bad (by unfold retitleE; rw [if_neg (by rw [HM.out]; simp), if_pos HI.out]) (by decide) _ _)
      obtain ⟨⟨e0, e1, e2, e3, e4⟩, hez⟩ := n5 (gg.blk HRX.out)
      have f0 := frozen_of_row _ (w.heap.size + 1) 0 _ _ (gg.blk HRX.out)
      have f1 := frozen_of_row _ (w.heap.size + 1) 1 _ _ (gg.blk HRX.out)
      have f2 := frozen_of_row _ (w.heap.size + 1) 2 _ _ (gg.blk HRX.out)
      have f3 := frozen_of_row _ (w.heap.size + 1) 3 _ _ (gg.blk HRX.out)
      have f4 := frozen_of_row _ (w.heap.size + 1) 4 _ _ (gg.blk HRX.out)
      go_wp2_with fail
      refine bodyPost_ret (v := .tuple #[.agg #[.int .i64 0, .int .i64 0, .int .i64 0, .slice none 0 0, .slice none 0 0], .int .i64 4]) ?_ rfl ?_
      · rw [results_cell_tmp rfl]
        go_simp
      · refine ret_badC HE.out ?_
        repeat' (first | with_reducible exact gV.trans gg | with_reducible refine Grow.set ?_ (by first | (simp; done) | (simp; omega)) _)
    · have HI := Lib.hid hi
      obtain ⟨i, hii⟩ : ∃ i : Nat, noteIx s id = i := ⟨(noteIx s id).toNat, by omega⟩
      have HII := Lib.hid hii
      have HNO := Lib.hid (noteOf_get (s := s) (id := id) (by omega))
      rw [hii] at cK1 hi hnd
      have hil : (i : Int) < s.notes.length := by omega
      have hil2 : i < s.notes.length := by omega
      clear hii hnd
      go_wp2_with fail
      refine cK1.mono ?_
      rintro e w2 ⟨rfl, g2⟩
      have gg := g1.trans g2
      clear cK1 g2 p0 p1 p2 p3 p4 hpz
      obtain ⟨⟨p0, p1, p2, p3, p4⟩, hpz⟩ := n5 (gg.blk HBX.out)
      have cN1 := cN _ (gV.trans gg)
      cases hn : mayB t with
      | false =>
        have HN := Lib.hid hn
        rw [hn] at cN1
        clear hn cO
        go_wp2_with fail
        refine cN1.mono ?_
        rintro e wq ⟨rfl, g2⟩
        have gh := gg.trans g2
        clear cN1 p0 p1 p2 p3 p4
        have HE := Lib.hid (show retitleR s id t = bad 6 from res_bad (by unfold retitleE; rw [if_neg (by rw [HM.out]; simp), if_neg (by have := HI.out; omega), if_pos HN.out]) (by decide) _ _)
        obtain ⟨⟨e0, e1, e2, e3, e4⟩, hez⟩ := n5 (gh.blk HRX.out)
        have f0 := frozen_of_row _ (w.heap.size + 1) 0 _ _ (gh.blk HRX.out)
        have f1 := frozen_of_row _ (w.heap.size + 1) 1 _ _ (gh.blk HRX.out)
        have f2 := frozen_of_row _ (w.heap.size + 1) 2 _ _ (gh.blk HRX.out)
        have f3 := frozen_of_row _ (w.heap.size + 1) 3 _ _ (gh.blk HRX.out)
        have f4 := frozen_of_row _ (w.heap.size + 1) 4 _ _ (gh.blk HRX.out)
        go_wp2_with fail
        refine bodyPost_ret (v := .tuple #[.agg #[.int .i64 0, .int .i64 0, .int .i64 0, .slice none 0 0, .slice none 0 0], .int .i64 6]) ?_ rfl ?_
        · rw [results_cell_tmp rfl]
          go_simp
        · refine ret_badC HE.out ?_
          repeat' (first | with_reducible exact gV.trans gh | with_reducible refine Grow.set ?_ (by first | (simp; done) | (simp; omega)) _)
      | true =>
        have HN := Lib.hid hn
        rw [hn] at cN1
        clear hn
        go_wp2_with fail
        refine cN1.mono ?_
        rintro e wq ⟨rfl, g2⟩
        have gh := gg.trans g2
        clear cN1 g2 p0 p1 p2 p3 p4
        obtain ⟨⟨p0, p1, p2, p3, p4⟩, hpz⟩ := n5 (gh.blk HBX.out)
        obtain ⟨x, hx⟩ : ∃ x, x = noteOf s id := ⟨_, rfl⟩
        have hxi : s.notes[i]? = some x := by
          have h9 := HNO.out.1
          rw [HII.out, Int.toNat_natCast] at h9
          rw [hx]; exact h9
        obtain ⟨nb, off, tv, sv, ea, hnb, -, n1, -, -, -, -, -⟩ := Notes.at (Notes.grow HH.out.2 (gV.trans gh)) hxi
        have hxid : x.id = id := by rw [hx]; exact HNO.out.2
        have HXI := Lib.hid hxi
        have HXID := Lib.hid hxid
        have HX := Lib.hid hx
        have kT := fun y : Gr wq => cT x.book y.W ((gV.trans gh).trans y.g)
        clear hx hxi hxid cT
        subst ea
        go_upto_region 8 with (fail)
        refine wp_region_gr (by kernel_rfl) (by kernel_rfl) ?_
        repeat (go_big_quiet_step (first | (go_at_call 73; exact Calls.gr (kT _))))
        refine wpQuiet_nil ?_
        rintro _ ⟨y, rfl⟩
        have gy := gh.trans y.g
        generalize y.W = wy at *
        clear kT p0 p1 p2 p3 p4 hpz n1 hnb y
        obtain ⟨⟨p0, p1, p2, p3, p4⟩, hpz⟩ := n5 (gy.blk HBX.out)
        cases htt : s.notes.any (titleB x.book t id) with
        | true =>
          have HTT := Lib.hid (show s.notes.any (titleB (noteOf s id).book t id) = true by rw [← HX.out]; exact htt)
          clear cO htt
          have HE := Lib.hid (show retitleR s id t = bad 7 from res_bad (by unfold retitleE; rw [if_neg (by rw [HM.out]; simp), if_neg (by have := HI.out; omega), if_neg (by rw [HN.out]; simp), if_pos HTT.out]) (by decide) _ _)
          obtain ⟨⟨e0, e1, e2, e3, e4⟩, hez⟩ := n5 (gy.blk HRX.out)
          have f0 := frozen_of_row _ (w.heap.size + 1) 0 _ _ (gy.blk HRX.out)
          have f1 := frozen_of_row _ (w.heap.size + 1) 1 _ _ (gy.blk HRX.out)
          have f2 := frozen_of_row _ (w.heap.size + 1) 2 _ _ (gy.blk HRX.out)
          have f3 := frozen_of_row _ (w.heap.size + 1) 3 _ _ (gy.blk HRX.out)
          have f4 := frozen_of_row _ (w.heap.size + 1) 4 _ _ (gy.blk HRX.out)
          go_wp2_with fail
          refine bodyPost_ret (v := .tuple #[.agg #[.int .i64 0, .int .i64 0, .int .i64 0, .slice none 0 0, .slice none 0 0], .int .i64 7]) ?_ rfl ?_
          · rw [results_cell_tmp rfl]
            go_simp
          · refine ret_badC HE.out ?_
            repeat' (first | with_reducible exact gV.trans gy | with_reducible refine Grow.set ?_ (by first | (simp; done) | (simp; omega)) _)
        | false =>
          have hez : retitleE s id t = 0 := retitleE_zero.2 ⟨HM.out, by have := HI.out; omega, HN.out, by rw [← HX.out]; exact htt⟩
          have HMY := Lib.hid (mayS_iff.1 HM.out)
          have HE := Lib.hid (show retitleR s id t = ⟨{ s with notes := updN id (fun n => { n with name := t }) s.notes }, 0, 0⟩ from resOf_ok hez _ _)
          clear htt hez
          have cO1 := cO _ (gV.trans gy)
          go_wp2_with fail
          refine cO1.mono ?_
          rintro e w3 ⟨bv', nv', Y, rfl, ho, hmap, g3⟩
          have hs : StB w w.heap.size (w.heap.size + 1) s.nb s.nn s.ns bv' nv' s.books Y (((((w3.setCell ⟨w.heap.size, 0, none⟩ (.int .i64 s.nb)).setCell ⟨w.heap.size, 1, none⟩ (.int .i64 s.nn)).setCell ⟨w.heap.size, 2, none⟩ (.int .i64 s.ns)).setCell ⟨w.heap.size, 3, none⟩ bv').setCell ⟨w.heap.size, 4, none⟩ nv') := StB.start (s := s) (D := w.heap.size + 1) gV HBX.out HRX.out gy g3 ho ⟨Nat.le_refl _, by omega, by omega⟩
          obtain ⟨ba, bc, ebv, -⟩ := ho.books.slice
          obtain ⟨na, nc, env, -⟩ := ho.notes.slice
          have hYl : Y.length = s.notes.length := by rw [← hmap, List.length_map]
          rw [hYl] at env
          have HMAP := Lib.hid hmap
          have HYL := Lib.hid hYl
          subst ebv env
          obtain ⟨⟨p0', p1', p2', p3', p4'⟩, hpz'⟩ := n5 ((gy.trans g3).blk HBX.out)
          have HF3 := Lib.hid (frozen_of_row w3 w.heap.size 0 _ _ ((gy.trans g3).blk HBX.out))
          have ff : ∀ j, w3.frozen? ⟨w.heap.size, j, none⟩ = false := fun j => frozen_of_row w3 w.heap.size j _ _ ((gy.trans g3).blk HBX.out)
          have ff0 := ff 0
          have ff1 := ff 1
          have ff2 := ff 2
          have ff3 := ff 3
          have ff4 := ff 4
          have HOW3 := Lib.hid ho
          have HG3 := Lib.hid (gy.trans g3)
          have hw3 : w.heap.size < w3.heap.size := hpz'
          clear cO1 cO ho hmap g3 hYl p0 p1 p2 p3 p4 ff
          unfold shelfV
          go_upto_region 11 with (fail)
          generalize ((((w3.setCell ⟨w.heap.size, 0, none⟩ (.int .i64 s.nb)).setCell ⟨w.heap.size, 1, none⟩ (.int .i64 s.nn)).setCell ⟨w.heap.size, 2, none⟩ (.int .i64 s.ns)).setCell ⟨w.heap.size, 3, none⟩ (.slice ba s.books.length bc)).setCell ⟨w.heap.size, 4, none⟩ (.slice na s.notes.length nc) = W at *
          have HS := Lib.hid hs
          obtain ⟨⟨p0, p1, p2, p3, p4⟩, hpz⟩ := hs.five
          have hb3 := hs.boxF 3
          have hb4 := hs.boxF 4
          clear hs p0' p1' p2' p3' p4' ff0 ff1 ff2 ff3 ff4 hpz'
          obtain ⟨z, hz, hzn⟩ := nv_get HMAP.out HXI.out
          obtain ⟨b, cc, ebb, hbz, -, -, hcl⟩ := HS.out.own.note hz
          rw [HYL.out] at ebb
          injection ebb with eb1 eb2 eb3
          subst eb1 eb3
          have q1 := (hcl 2 _ rfl).1
          have qf := (hcl 2 _ rfl).2
          have HS2 := Lib.hid (HS.out.setN hz t (by rw [HYL.out]))
          have HMQ := Lib.hid (map_setN HMY.out.ninc HMAP.out hz (z := { z with n := { z.n with name := t } }) (fun n => { n with name := t }) rfl (show z.n.id = id by rw [hzn]; exact HXID.out))
          clear hcl hz hzn
          go_upto_region 12 with (fail)
          generalize W.setCell ⟨b, i * 5 + 2, none⟩ (.string t) = W2 at *
          clear p0 p1 p2 p3 p4 hpz hb3 hb4 HS q1 qf
          obtain ⟨⟨p0, p1, p2, p3, p4⟩, hpz⟩ := HS2.out.five
          obtain ⟨⟨e0, e1, e2, e3, e4⟩, hez⟩ := HS2.out.res5
          have f0 := HS2.out.resF 0
          have f1 := HS2.out.resF 1
          have f2 := HS2.out.resF 2
          have f3 := HS2.out.resF 3
          have f4 := HS2.out.resF 4
          have HOD := Lib.hid HS2.out.fin
          go_wp2_with fail
          refine bodyPost_ret (v := .tuple #[.agg #[.int .i64 s.nb, .int .i64 s.nn, .int .i64 s.ns, .slice ba s.books.length bc, .slice (some ⟨b, 0, none⟩) s.notes.length nc], .int .i64 0]) ?_ rfl ?_
          · rw [results_cell_tmp rfl]
            go_simp
          · refine ret_okC (D := w.heap.size + 1) (s := { s with notes := updN id (fun n => { n with name := t }) s.notes }) HE.out ?_ HMQ.out
            repeat' (first | with_reducible exact HOD.out | with_reducible refine OwnD2.drew ?_ | with_reducible refine OwnD2.set ?_ (by omega) _ _)
end Go.Proofs.YtnajccljdjllgaaDoor
set_option linter.unusedVariables false
set_option linter.unusedSimpArgs false
namespace Go.Proofs.YtnajccljdjllgaaDoor
open Go.RowKit Go.Lib
set_option maxRecDepth 100000 in
set_option maxHeartbeats 4000000 in
theorem move_any (s : Shelf) (bv nv : Value) (id q : Int) (w : World) (h : ShelfR w s bv nv) (hz : TameS s) (hT : Tabs w) :
    Calls Tryd.prog 35 #[shelfV s bv nv, .int .i64 id, .int .i64 q] w (RetC (moveR s id q) w) := by
  have cM := fun W (g : Grow w W) => mayS_any s bv nv W (h.grow g) hz (hT.below g)
  have cO := fun W (g : Grow w W) => own_any s bv nv W (h.grow g) hz.1
  have cK : ∀ W, Grow w W → Calls Tryd.prog 75 #[shelfV s bv nv, .int .i64 id] W fun e w' => e = .returned (.int .i64 (noteIx s id)) ∧ Grow W w' := fun W g => note_any s bv nv id W (h.grow g) (by have := hz.1.2.1; omega)
  have cB : ∀ W, Grow w W → Calls Tryd.prog 67 #[shelfV s bv nv, .int .i64 q] W fun e w' => e = .returned (.int .i64 (bookIx s q)) ∧ Grow W w' := fun W g => book_any s bv nv q W (h.grow g) (by have := hz.1.1; omega)
  have cT := fun t W (g : Grow w W) => titled_any s bv nv q t id W (h.grow g) (by have := hz.1.2.1; omega)
  have HH := Lib.hid h
  have hbl := hz.1.1
  have hnl := hz.1.2.1
  have hbd := idx_bd (fun x : Book => x.id == id) s.books
  have hnd := idx_bd (fun x : Note => x.id == id) s.notes
  rw [show idx (fun x : Book => x.id == id) s.books = bookIx s id from rfl] at hbd
  rw [show idx (fun x : Note => x.id == id) s.notes = noteIx s id from rfl] at hnd
  obtain ⟨a1, c1, rfl⟩ := h.1.mk
  obtain ⟨a2, c2, rfl⟩ := h.2.mk
  have HXX := Lib.hid (two_boxes2 w (shB s (.slice a1 s.books.length c1) (.slice a2 s.notes.length c2)) (shB ⟨0, 0, 0, [], []⟩ (.slice none 0 0) (.slice none 0 0)))
  clear h hz hT
  unfold shelfV at *
  go_enter Tryd.func35, Tryd.ntmps35
  go_upto_region 1 with (fail)
  generalize hV : (w.alloc (.cells #[.int .i64 s.nb, .int .i64 s.nn, .int .i64 s.ns, .slice a1 s.books.length c1, .slice a2 s.notes.length c2] 28)).alloc (.cells #[.int .i64 0, .int .i64 0, .int .i64 0, .slice none 0 0, .slice none 0 0] 28) = V
  have gV : Grow w V := by rw [← hV]; exact ((Grow.refl w).alloc _).alloc _
  have HBX : Hid (V.heap[w.heap.size]? = some (shB s (.slice a1 s.books.length c1) (.slice a2 s.notes.length c2))) := by rw [← hV]; exact Lib.hid HXX.out.1
  have HRX : Hid (V.heap[w.heap.size + 1]? = some (shB ⟨0, 0, 0, [], []⟩ (.slice none 0 0) (.slice none 0 0))) := by rw [← hV]; exact Lib.hid HXX.out.2
  obtain ⟨⟨p0, p1, p2, p3, p4⟩, hpz⟩ := n5 HBX.out
  clear hV
  have cM1 := cM V gV
  cases hm : mayS s with
  | false =>
    have HM := Lib.hid hm
    rw [hm] at cM1
    clear hm cO
    go_wp2_with fail
    refine cM1.mono ?_
    rintro e w1 ⟨rfl, g1⟩
    clear cM1 p0 p1 p2 p3 p4
    have HE := Lib.hid (show moveR s id q = bad 2 from res_bad (by unfold moveE; rw [if_pos HM.out]) (by decide) _ _)
    obtain ⟨⟨e0, e1, e2, e3, e4⟩, hez⟩ := n5 (g1.blk HRX.out)
    have f0 := frozen_of_row _ (w.heap.size + 1) 0 _ _ (g1.blk HRX.out)
    have f1 := frozen_of_row _ (w.heap.size + 1) 1 _ _ (g1.blk HRX.out)
    have f2 := frozen_of_row _ (w.heap.size + 1) 2 _ _ (g1.blk HRX.out)
    have f3 := frozen_of_row _ (w.heap.size + 1) 3 _ _ (g1.blk HRX.out)
    have f4 := frozen_of_row _ (w.heap.size + 1) 4 _ _ (g1.blk HRX.out)
    go_wp2_with fail
    refine bodyPost_ret (v := .tuple #[.agg #[.int .i64 0, .int .i64 0, .int .i64 0, .slice none 0 0, .slice none 0 0], .int .i64 2]) ?_ rfl ?_
    · rw [results_cell_tmp rfl]
      go_simp
    · refine ret_badC HE.out ?_
      repeat' (first | with_reducible exact gV.trans g1 | with_reducible refine Grow.set ?_ (by first | (simp; done) | (simp; omega)) _)
  | true =>
    have HM := Lib.hid hm
    rw [hm] at cM1
    clear hm
    go_wp2_with fail
    refine cM1.mono ?_
    rintro e w1 ⟨rfl, g1⟩
    clear cM1 p0 p1 p2 p3 p4
    obtain ⟨⟨p0, p1, p2, p3, p4⟩, hpz⟩ := n5 (g1.blk HBX.out)
    have cK1 := cK _ (gV.trans g1)
    by_cases hi : noteIx s id < 0
    · have HI := Lib.hid hi
      clear cO cT cB
      go_wp2_with fail
      refine cK1.mono ?_
      rintro e w2 ⟨rfl, g2⟩
      have gg := g1.trans g2
      clear cK1 g2 p0 p1 p2 p3 p4 hpz
      have HE := Lib.hid (show moveR s id q = bad 4 from res_bad (by unfold moveE; rw [if_neg (by rw [HM.out]; simp), if_pos (.inl (by have := HI.out; omega))]) (by decide) _ _)
      obtain ⟨⟨e0, e1, e2, e3, e4⟩, hez⟩ := n5 (gg.blk HRX.out)
      have f0 := frozen_of_row _ (w.heap.size + 1) 0 _ _ (gg.blk HRX.out)
      have f1 := frozen_of_row _ (w.heap.size + 1) 1 _ _ (gg.blk HRX.out)
      have f2 := frozen_of_row _ (w.heap.size + 1) 2 _ _ (gg.blk HRX.out)
      have f3 := frozen_of_row _ (w.heap.size + 1) 3 _ _ (gg.blk HRX.out)
      have f4 := frozen_of_row _ (w.heap.size + 1) 4 _ _ (gg.blk HRX.out)
      go_wp2_with fail
      refine bodyPost_ret (v := .tuple #[.agg #[.int .i64 0, .int .i64 0, .int .i64 0, .slice none 0 0, .slice none 0 0], .int .i64 4]) ?_ rfl ?_
      · rw [results_cell_tmp rfl]
        go_simp
      · refine ret_badC HE.out ?_
        repeat' (first | with_reducible exact gV.trans gg | with_reducible refine Grow.set ?_ (by first | (simp; done) | (simp; omega)) _)
    · have HI := Lib.hid hi
      obtain ⟨i, hii⟩ : ∃ i : Nat, noteIx s id = i := ⟨(noteIx s id).toNat, by omega⟩
      have HII := Lib.hid hii
      have HNO := Lib.hid (noteOf_get (s := s) (id := id) (by omega))
      rw [hii] at cK1 hi hnd
      have hil : (i : Int) < s.notes.length := by omega
      have hil2 : i < s.notes.length := by omega
      clear hii hnd
      go_wp2_with fail
      refine cK1.mono ?_
      rintro e w2 ⟨rfl, g2⟩
      have gg := g1.trans g2
      clear cK1 g2 p0 p1 p2 p3 p4 hpz
      obtain ⟨⟨p0, p1, p2, p3, p4⟩, hpz⟩ := n5 (gg.blk HBX.out)
      have cB1 := cB _ (gV.trans gg)
      by_cases hq : bookIx s q < 0
      · have HQ := Lib.hid hq
        clear cO cT
        go_wp2_with fail
        refine cB1.mono ?_
        rintro e w3 ⟨rfl, g3⟩
        have gh := gg.trans g3
        clear cB1 g3 p0 p1 p2 p3 p4 hpz
        have HE := Lib.hid (show moveR s id q = bad 4 from res_bad (by unfold moveE; rw [if_neg (by rw [HM.out]; simp), if_pos (.inr HQ.out)]) (by decide) _ _)
        obtain ⟨⟨e0, e1, e2, e3, e4⟩, hez⟩ := n5 (gh.blk HRX.out)
        have f0 := frozen_of_row _ (w.heap.size + 1) 0 _ _ (gh.blk HRX.out)
        have f1 := frozen_of_row _ (w.heap.size + 1) 1 _ _ (gh.blk HRX.out)
        have f2 := frozen_of_row _ (w.heap.size + 1) 2 _ _ (gh.blk HRX.out)
        have f3 := frozen_of_row _ (w.heap.size + 1) 3 _ _ (gh.blk HRX.out)
        have f4 := frozen_of_row _ (w.heap.size + 1) 4 _ _ (gh.blk HRX.out)
        go_wp2_with fail
        refine bodyPost_ret (v := .tuple #[.agg #[.int .i64 0, .int .i64 0, .int .i64 0, .slice none 0 0, .slice none 0 0], .int .i64 4]) ?_ rfl ?_
        · rw [results_cell_tmp rfl]
          go_simp
        · refine ret_badC HE.out ?_
          repeat' (first | with_reducible exact gV.trans gh | with_reducible refine Grow.set ?_ (by first | (simp; done) | (simp; omega)) _)
      · have HQ := Lib.hid hq
        go_wp2_with fail
        refine cB1.mono ?_
        rintro e wq ⟨rfl, g3⟩
        have gh := gg.trans g3
        clear cB1 g3 p0 p1 p2 p3 p4 hpz
        obtain ⟨⟨p0, p1, p2, p3, p4⟩, hpz⟩ := n5 (gh.blk HBX.out)
        obtain ⟨x, hx⟩ : ∃ x, x = noteOf s id := ⟨_, rfl⟩
        have hxi : s.notes[i]? = some x := by
          have h9 := HNO.out.1
          rw [HII.out, Int.toNat_natCast] at h9
          rw [hx]; exact h9
        obtain ⟨nb, off, tv, sv, ea, hnb, -, -, n2, -, -, -, -⟩ := Notes.at (Notes.grow HH.out.2 (gV.trans gh)) hxi
        have hxid : x.id = id := by rw [hx]; exact HNO.out.2
        have HXI := Lib.hid hxi
        have HXID := Lib.hid hxid
        have HX := Lib.hid hx
        have kT := fun y : Gr wq => cT x.name y.W ((gV.trans gh).trans y.g)
        clear hx hxi hxid cT
        subst ea
        go_upto_region 6 with (fail)
        refine wp_region_gr (by kernel_rfl) (by kernel_rfl) ?_
        repeat (go_big_quiet_step (first | (go_at_call 73; exact Calls.gr (kT _))))
        refine wpQuiet_nil ?_
        rintro _ ⟨y, rfl⟩
        have gy := gh.trans y.g
        generalize y.W = wy at *
        clear kT p0 p1 p2 p3 p4 hpz n2 hnb y
        obtain ⟨⟨p0, p1, p2, p3, p4⟩, hpz⟩ := n5 (gy.blk HBX.out)
        cases htt : s.notes.any (titleB q x.name id) with
        | true =>
          have HTT := Lib.hid (show s.notes.any (titleB q (noteOf s id).name id) = true by rw [← HX.out]; exact htt)
          clear cO htt
          have HE := Lib.hid (show moveR s id q = bad 7 from res_bad (by unfold moveE; rw [if_neg (by rw [HM.out]; simp), if_neg (by have := HI.out; have := HQ.out; omega), if_pos HTT.out]) (by decide) _ _)
          obtain ⟨⟨e0, e1, e2, e3, e4⟩, hez⟩ := n5 (gy.blk HRX.out)
          have f0 := frozen_of_row _ (w.heap.size + 1) 0 _ _ (gy.blk HRX.out)
          have f1 := frozen_of_row _ (w.heap.size + 1) 1 _ _ (gy.blk HRX.out)
          have f2 := frozen_of_row _ (w.heap.size + 1) 2 _ _ (gy.blk HRX.out)
          have f3 := frozen_of_row _ (w.heap.size + 1) 3 _ _ (gy.blk HRX.out)
          have f4 := frozen_of_row _ (w.heap.size + 1) 4 _ _ (gy.blk HRX.out)
          go_wp2_with fail
          refine bodyPost_ret (v := .tuple #[.agg #[.int .i64 0, .int .i64 0, .int .i64 0, .slice none 0 0, .slice none 0 0], .int .i64 7]) ?_ rfl ?_
          · rw [results_cell_tmp rfl]
            go_simp
          · refine ret_badC HE.out ?_
            repeat' (first | with_reducible exact gV.trans gy | with_reducible refine Grow.set ?_ (by first | (simp; done) | (simp; omega)) _)
        | false =>
          have hez : moveE s id q = 0 := moveE_zero.2 ⟨HM.out, by have := HI.out; omega, by have := HQ.out; omega, by rw [← HX.out]; exact htt⟩
          have HMY := Lib.hid (mayS_iff.1 HM.out)
          have HE := Lib.hid (show moveR s id q = ⟨{ s with notes := updN id (fun n => { n with book := q }) s.notes }, 0, 0⟩ from resOf_ok hez _ _)
          clear htt hez
          have cO1 := cO _ (gV.trans gy)
          go_wp2_with fail
          refine cO1.mono ?_
          rintro e w3 ⟨bv', nv', Y, rfl, ho, hmap, g3⟩
          have hs : StB w w.heap.size (w.heap.size + 1) s.nb s.nn s.ns bv' nv' s.books Y (((((w3.setCell ⟨w.heap.size, 0, none⟩ (.int .i64 s.nb)).setCell ⟨w.heap.size, 1, none⟩ (.int .i64 s.nn)).setCell ⟨w.heap.size, 2, none⟩ (.int .i64 s.ns)).setCell ⟨w.heap.size, 3, none⟩ bv').setCell ⟨w.heap.size, 4, none⟩ nv') := StB.start (s := s) (D := w.heap.size + 1) gV HBX.out HRX.out gy g3 ho ⟨Nat.le_refl _, by omega, by omega⟩
          obtain ⟨ba, bc, ebv, -⟩ := ho.books.slice
          obtain ⟨na, nc, env, -⟩ := ho.notes.slice
          have hYl : Y.length = s.notes.length := by rw [← hmap, List.length_map]
          rw [hYl] at env
          have HMAP := Lib.hid hmap
          have HYL := Lib.hid hYl
          subst ebv env
          obtain ⟨⟨p0', p1', p2', p3', p4'⟩, hpz'⟩ := n5 ((gy.trans g3).blk HBX.out)
          have HF3 := Lib.hid (frozen_of_row w3 w.heap.size 0 _ _ ((gy.trans g3).blk HBX.out))
          have ff : ∀ j, w3.frozen? ⟨w.heap.size, j, none⟩ = false := fun j => frozen_of_row w3 w.heap.size j _ _ ((gy.trans g3).blk HBX.out)
          have ff0 := ff 0
          have ff1 := ff 1
          have ff2 := ff 2
          have ff3 := ff 3
          have ff4 := ff 4
          have HOW3 := Lib.hid ho
          have HG3 := Lib.hid (gy.trans g3)
          have hw3 : w.heap.size < w3.heap.size := hpz'
          clear cO1 cO ho hmap g3 hYl p0 p1 p2 p3 p4 ff
          unfold shelfV
          go_upto_region 9 with (fail)
          generalize ((((w3.setCell ⟨w.heap.size, 0, none⟩ (.int .i64 s.nb)).setCell ⟨w.heap.size, 1, none⟩ (.int .i64 s.nn)).setCell ⟨w.heap.size, 2, none⟩ (.int .i64 s.ns)).setCell ⟨w.heap.size, 3, none⟩ (.slice ba s.books.length bc)).setCell ⟨w.heap.size, 4, none⟩ (.slice na s.notes.length nc) = W at *
          have HS := Lib.hid hs
          obtain ⟨⟨p0, p1, p2, p3, p4⟩, hpz⟩ := hs.five
          have hb3 := hs.boxF 3
          have hb4 := hs.boxF 4
          clear hs p0' p1' p2' p3' p4' ff0 ff1 ff2 ff3 ff4 hpz'
          obtain ⟨z, hz, hzn⟩ := nv_get HMAP.out HXI.out
          obtain ⟨b, cc, ebb, hbz, -, -, hcl⟩ := HS.out.own.note hz
          rw [HYL.out] at ebb
          injection ebb with eb1 eb2 eb3
          subst eb1 eb3
          have q1 := (hcl 1 _ rfl).1
          have qf := (hcl 1 _ rfl).2
          have HS2 := Lib.hid (HS.out.setQ hz q (by rw [HYL.out]))
          have HMQ := Lib.hid (map_setN HMY.out.ninc HMAP.out hz (z := { z with n := { z.n with book := q } }) (fun n => { n with book := q }) rfl (show z.n.id = id by rw [hzn]; exact HXID.out))
          clear hcl hz hzn
          go_upto_region 10 with (fail)
          generalize W.setCell ⟨b, i * 5 + 1, none⟩ (.int .i64 q) = W2 at *
          clear p0 p1 p2 p3 p4 hpz hb3 hb4 HS q1 qf
          obtain ⟨⟨p0, p1, p2, p3, p4⟩, hpz⟩ := HS2.out.five
          obtain ⟨⟨e0, e1, e2, e3, e4⟩, hez⟩ := HS2.out.res5
          have f0 := HS2.out.resF 0
          have f1 := HS2.out.resF 1
          have f2 := HS2.out.resF 2
          have f3 := HS2.out.resF 3
          have f4 := HS2.out.resF 4
          have HOD := Lib.hid HS2.out.fin
          go_wp2_with fail
          refine bodyPost_ret (v := .tuple #[.agg #[.int .i64 s.nb, .int .i64 s.nn, .int .i64 s.ns, .slice ba s.books.length bc, .slice (some ⟨b, 0, none⟩) s.notes.length nc], .int .i64 0]) ?_ rfl ?_
          · rw [results_cell_tmp rfl]
            go_simp
          · refine ret_okC (D := w.heap.size + 1) (s := { s with notes := updN id (fun n => { n with book := q }) s.notes }) HE.out ?_ HMQ.out
            repeat' (first | with_reducible exact HOD.out | with_reducible refine OwnD2.drew ?_ | with_reducible refine OwnD2.set ?_ (by omega) _ _)
end Go.Proofs.YtnajccljdjllgaaDoor
set_option linter.unusedVariables false
set_option linter.unusedSimpArgs false
namespace Go.Proofs.YtnajccljdjllgaaDoor
open Go.RowKit Go.Lib
set_option maxRecDepth 100000 in
set_option maxHeartbeats 4000000 in
theorem discard_any (s : Shelf) (bv nv : Value) (id : Int) (w : World) (h : ShelfR w s bv nv) (hz : TameS s) (hT : Tabs w) :
    Calls Tryd.prog 37 #[shelfV s bv nv, .int .i64 id] w (RetC (discardR s id) w) := by
  have cM := fun W (g : Grow w W) => mayS_any s bv nv W (h.grow g) hz (hT.below g)
  have cO := fun W (g : Grow w W) => own_any s bv nv W (h.grow g) hz.1
  have cK : ∀ W, Grow w W → Calls Tryd.prog 75 #[shelfV s bv nv, .int .i64 id] W fun e w' => e = .returned (.int .i64 (noteIx s id)) ∧ Grow W w' := fun W g => note_any s bv nv id W (h.grow g) (by have := hz.1.2.1; omega)
  have hbl := hz.1.1
  have hnl := hz.1.2.1
  have hbd := idx_bd (fun x : Book => x.id == id) s.books
  have hnd := idx_bd (fun x : Note => x.id == id) s.notes
  rw [show idx (fun x : Book => x.id == id) s.books = bookIx s id from rfl] at hbd
  rw [show idx (fun x : Note => x.id == id) s.notes = noteIx s id from rfl] at hnd
  obtain ⟨a1, c1, rfl⟩ := h.1.mk
  obtain ⟨a2, c2, rfl⟩ := h.2.mk
  have HXX := Lib.hid (three_boxes w (shB s (.slice a1 s.books.length c1) (.slice a2 s.notes.length c2)) (.cells #[.int .i64 id] 3) (shB ⟨0, 0, 0, [], []⟩ (.slice none 0 0) (.slice none 0 0)))
  clear h hz hT
  unfold shelfV at *
  go_enter Tryd.func37, Tryd.ntmps37
  go_upto_region 1 with (fail)
  generalize hV : ((w.alloc (.cells #[.int .i64 s.nb, .int .i64 s.nn, .int .i64 s.ns, .slice a1 s.books.length c1, .slice a2 s.notes.length c2] 28)).alloc (.cells #[.int .i64 id] 3)).alloc (.cells #[.int .i64 0, .int .i64 0, .int .i64 0, .slice none 0 0, .slice none 0 0] 28) = V
  have gV : Grow w V := by rw [← hV]; exact (((Grow.refl w).alloc _).alloc _).alloc _
  have HBX : Hid (V.heap[w.heap.size]? = some (shB s (.slice a1 s.books.length c1) (.slice a2 s.notes.length c2))) := by rw [← hV]; exact Lib.hid HXX.out.1
  have HB1 : Hid (V.heap[w.heap.size + 1]? = some (.cells #[.int .i64 id] 3)) := by rw [← hV]; exact Lib.hid HXX.out.2.1
  have HRX : Hid (V.heap[w.heap.size + 1 + 1]? = some (shB ⟨0, 0, 0, [], []⟩ (.slice none 0 0) (.slice none 0 0))) := by rw [← hV]; exact Lib.hid HXX.out.2.2
  obtain ⟨⟨p0, p1, p2, p3, p4⟩, hpz⟩ := n5 HBX.out
  clear hV
  have cM1 := cM V gV
  cases hm : mayS s with
  | false =>
    have HM := Lib.hid hm
    rw [hm] at cM1
    clear hm cO
    go_wp2_with fail
    refine cM1.mono ?_
    rintro e w1 ⟨rfl, g1⟩
    clear cM1 p0 p1 p2 p3 p4
    have HE := Lib.hid (show discardR s id = bad 2 from res_bad (by unfold noteE; rw [if_pos HM.out]) (by decide) _ _)
    obtain ⟨⟨e0, e1, e2, e3, e4⟩, hez⟩ := n5 (g1.blk HRX.out)
    have f0 := frozen_of_row _ (w.heap.size + 1 + 1) 0 _ _ (g1.blk HRX.out)
    have f1 := frozen_of_row _ (w.heap.size + 1 + 1) 1 _ _ (g1.blk HRX.out)
    have f2 := frozen_of_row _ (w.heap.size + 1 + 1) 2 _ _ (g1.blk HRX.out)
    have f3 := frozen_of_row _ (w.heap.size + 1 + 1) 3 _ _ (g1.blk HRX.out)
    have f4 := frozen_of_row _ (w.heap.size + 1 + 1) 4 _ _ (g1.blk HRX.out)
    go_wp2_with fail
    refine bodyPost_ret (v := .tuple #[.agg #[.int .i64 0, .int .i64 0, .int .i64 0, .slice none 0 0, .slice none 0 0], .int .i64 2]) ?_ rfl ?_
    · rw [results_cell_tmp rfl]
      go_simp
    · refine ret_badC HE.out ?_
      repeat' (first | with_reducible exact gV.trans g1 | with_reducible refine Grow.set ?_ (by first | (simp; done) | (simp; omega)) _)
  | true =>
    have HM := Lib.hid hm
    rw [hm] at cM1
    clear hm
    go_wp2_with fail
    refine cM1.mono ?_
    rintro e w1 ⟨rfl, g1⟩
    clear cM1 p0 p1 p2 p3 p4
    obtain ⟨⟨p0, p1, p2, p3, p4⟩, hpz⟩ := n5 (g1.blk HBX.out)
    have cB1 := cK _ (gV.trans g1)
    have ib1 : w1.cell? ⟨w.heap.size + 1, 0, none⟩ = some (.int .i64 id) := (cell_of_row w1 _ 0 _ _ _ (g1.blk HB1.out)).trans rfl
    have ibz : w.heap.size + 1 < w1.heap.size := (Array.getElem?_eq_some_iff.1 (g1.blk HB1.out)).1
    by_cases hi : noteIx s id < 0
    · have HI := Lib.hid hi
      clear cO
      go_wp2_with fail
      refine cB1.mono ?_
      rintro e w2 ⟨rfl, g2⟩
      have gg := g1.trans g2
      clear cB1 g2 p0 p1 p2 p3 p4 ib1 ibz hpz
      have HE := Lib.hid (show discardR s id = bad 4 from res_bad (by unfold noteE; rw [if_neg (by rw [HM.out]; simp), if_pos (by have := HI.out; omega)]) (by decide) _ _)
      obtain ⟨⟨e0, e1, e2, e3, e4⟩, hez⟩ := n5 (gg.blk HRX.out)
      have f0 := frozen_of_row _ (w.heap.size + 1 + 1) 0 _ _ (gg.blk HRX.out)
      have f1 := frozen_of_row _ (w.heap.size + 1 + 1) 1 _ _ (gg.blk HRX.out)
      have f2 := frozen_of_row _ (w.heap.size + 1 + 1) 2 _ _ (gg.blk HRX.out)
      have f3 := frozen_of_row _ (w.heap.size + 1 + 1) 3 _ _ (gg.blk HRX.out)
      have f4 := frozen_of_row _ (w.heap.size + 1 + 1) 4 _ _ (gg.blk HRX.out)
      go_wp2_with fail
      refine bodyPost_ret (v := .tuple #[.agg #[.int .i64 0, .int .i64 0, .int .i64 0, .slice none 0 0, .slice none 0 0], .int .i64 4]) ?_ rfl ?_
      · rw [results_cell_tmp rfl]
        go_simp
      · refine ret_badC HE.out ?_
        repeat' (first | with_reducible exact gV.trans gg | with_reducible refine Grow.set ?_ (by first | (simp; done) | (simp; omega)) _)
    · have HI := Lib.hid hi
      go_wp2_with fail
      refine cB1.mono ?_
      rintro e w2 ⟨rfl, g2⟩
      have gg := g1.trans g2
      clear cB1 g2 p0 p1 p2 p3 p4 ib1 ibz hpz
      obtain ⟨⟨p0, p1, p2, p3, p4⟩, hpz⟩ := n5 (gg.blk HBX.out)
      have HE := Lib.hid (show discardR s id = ⟨{ s with notes := s.notes.filter (fun n => !(n.id == id)) }, 0, 0⟩ from resOf_ok (noteE_zero.2 ⟨HM.out, by omega⟩) _ _)
      have cO1 := cO _ (gV.trans gg)
      go_wp2_with fail
      refine cO1.mono ?_
      rintro e w3 ⟨bv', nv', Y, rfl, ho, hmap, g3⟩
      have hs : StB w w.heap.size (w.heap.size + 1 + 1) s.nb s.nn s.ns bv' nv' s.books Y (((((w3.setCell ⟨w.heap.size, 0, none⟩ (.int .i64 s.nb)).setCell ⟨w.heap.size, 1, none⟩ (.int .i64 s.nn)).setCell ⟨w.heap.size, 2, none⟩ (.int .i64 s.ns)).setCell ⟨w.heap.size, 3, none⟩ bv').setCell ⟨w.heap.size, 4, none⟩ nv') := StB.start (s := s) (D := w.heap.size + 1 + 1) gV HBX.out HRX.out gg g3 ho ⟨Nat.le_refl _, by omega, by omega⟩
      have hI1 : (((((w3.setCell ⟨w.heap.size, 0, none⟩ (.int .i64 s.nb)).setCell ⟨w.heap.size, 1, none⟩ (.int .i64 s.nn)).setCell ⟨w.heap.size, 2, none⟩ (.int .i64 s.ns)).setCell ⟨w.heap.size, 3, none⟩ bv').setCell ⟨w.heap.size, 4, none⟩ nv').heap[w.heap.size + 1]? = some (.cells #[.int .i64 id] 3) := set5_other _ _ _ _ _ (by omega) ((gg.trans g3).blk HB1.out)
      obtain ⟨ba, bc, ebv, -⟩ := ho.books.slice
      obtain ⟨na, nc, env, -⟩ := ho.notes.slice
      have hYl : Y.length = s.notes.length := by rw [← hmap, List.length_map]
      rw [hYl] at env
      have HMAP := Lib.hid hmap
      have HYL := Lib.hid hYl
      subst ebv env
      obtain ⟨⟨p0', p1', p2', p3', p4'⟩, hpz'⟩ := n5 ((gg.trans g3).blk HBX.out)
      have HF3 := Lib.hid (frozen_of_row w3 w.heap.size 0 _ _ ((gg.trans g3).blk HBX.out))
      have ff : ∀ j, w3.frozen? ⟨w.heap.size, j, none⟩ = false := fun j => frozen_of_row w3 w.heap.size j _ _ ((gg.trans g3).blk HBX.out)
      have ff0 := ff 0
      have ff1 := ff 1
      have ff2 := ff 2
      have ff3 := ff 3
      have ff4 := ff 4
      have HOW3 := Lib.hid ho
      have HG3 := Lib.hid (gg.trans g3)
      have hw3 : w.heap.size < w3.heap.size := hpz'
      clear cO1 cO ho hmap g3 hYl p0 p1 p2 p3 p4 ff
      unfold shelfV
      go_upto_region 6 with (fail)
      generalize ((((w3.setCell ⟨w.heap.size, 0, none⟩ (.int .i64 s.nb)).setCell ⟨w.heap.size, 1, none⟩ (.int .i64 s.nn)).setCell ⟨w.heap.size, 2, none⟩ (.int .i64 s.ns)).setCell ⟨w.heap.size, 3, none⟩ (.slice ba s.books.length bc)).setCell ⟨w.heap.size, 4, none⟩ (.slice na s.notes.length nc) = W at *
      have HS := Lib.hid hs
      have HI1 := Lib.hid hI1
      clear hI1
      obtain ⟨⟨p0, p1, p2, p3, p4⟩, hpz⟩ := hs.five
      have hb3 := hs.boxF 3
      have hb4 := hs.boxF 4
      clear hs p0' p1' p2' p3' p4' ff0 ff1 ff2 ff3 ff4 hpz'
      have hIz : w.heap.size + 1 < W.heap.size := (Array.getElem?_eq_some_iff.1 HI1.out).1
      have cD := discN HS.out (by rw [HYL.out]; exact hnl) HI1.out
      go_wp2_with fail
      refine cD.mono ?_
      rintro e w7 ⟨v7, rfl, hr, hg, -⟩
      obtain ⟨ya, yc, e7, -⟩ := hr.slice
      subst e7
      have HMF := Lib.hid (map_filterN HMAP.out (fun n => !(n.id == id)))
      obtain ⟨k3, f3, z3, hs4⟩ := HS.out.subN (List.filter_sublist (p := fun y : NV => !(y.n.id == id))) hr hg
      have HS3 := Lib.hid hs4
      clear cD hr hg hs4 p0 p1 p2 p3 p4 hpz hb3 hb4 hIz
      go_upto_region 7 with (fail)
      generalize w7.setCell ⟨w.heap.size, 4, none⟩ (.slice ya (Y.filter fun y => !(y.n.id == id)).length yc) = W3 at *
      clear k3 f3 z3 HS
      obtain ⟨⟨p0, p1, p2, p3, p4⟩, hpz⟩ := HS3.out.five
      obtain ⟨⟨e0, e1, e2, e3, e4⟩, hez⟩ := HS3.out.res5
      have f0 := HS3.out.resF 0
      have f1 := HS3.out.resF 1
      have f2 := HS3.out.resF 2
      have f3 := HS3.out.resF 3
      have f4 := HS3.out.resF 4
      have HOD := Lib.hid HS3.out.fin
      go_wp2_with fail
      refine bodyPost_ret (v := .tuple #[.agg #[.int .i64 s.nb, .int .i64 s.nn, .int .i64 s.ns, .slice ba s.books.length bc, .slice ya (Y.filter fun y => !(y.n.id == id)).length yc], .int .i64 0]) ?_ rfl ?_
      · rw [results_cell_tmp rfl]
        go_simp
      · refine ret_okC (D := w.heap.size + 1 + 1) (s := { s with notes := s.notes.filter (fun n => !(n.id == id)) }) HE.out ?_ HMF.out
        repeat' (first | with_reducible exact HOD.out | with_reducible refine OwnD2.drew ?_ | with_reducible refine OwnD2.set ?_ (by omega) _ _)
end Go.Proofs.YtnajccljdjllgaaDoor
