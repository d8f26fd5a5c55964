/- shelf.Books, shelf.Notes. -/
import Derived.Test.YtieohecgoaakmaaDoorRowS
import Derived.Test.YtieohecgoaakmaaDoorItemL
set_option linter.unusedVariables false
set_option linter.unusedSimpArgs false
namespace Go.Proofs.YtieohecgoaakmaaDoor
open Go.RowKit Go.Lib
theorem info_item : (Tryd.prog.info? 34).map (fun i => (i.zero, i.size, i.bytes)) = some (some (.agg #[.int .i64 0, .string ⟨#[]⟩]), 2, 24) := by kernel_rfl
/-- A list of items of the call's own. -/
def RetI (l : List Item) (w : World) (v : Value) (w' : World) : Prop := Grow w w' ∧ RowO w.heap.size 34 2 v l.length (l.flatMap itemC) w'
theorem itemC_one (x : Item) : ∀ u ∈ itemC x, u.oneCell' = true := fun u hu => by simp at hu; rcases hu with rfl | rfl <;> rfl
theorem row_add {base : Nat} {v v' : Value} {l : List Item} {x : Item} {w w' : World} (ra : AppR base 34 2 w v l.length (l.flatMap itemC) (itemC x) v' w') : RowO base 34 2 v' (l ++ [x]).length ((l ++ [x]).flatMap itemC) w' := by
  have := ra.1
  rw [List.length_append, List.flatMap_append]
  simpa using this
theorem ret_v {a b : Value} (h : a = b) : Ending.returned a = .returned b := by rw [h]
set_option maxRecDepth 100000 in
set_option maxHeartbeats 4000000 in
theorem books_any (s : Shelf) (bv nv : Value) (w : World) (h : ShelfR w s bv nv) (hz : TameS s) (hT : Tabs w) :
    Calls Tryd.prog 12 #[shelfV s bv nv] w fun e w' => ∃ v, e = .returned v ∧ RetI (booksI s) w v w' := by
  obtain ⟨i0, hi0, hz0, hz1, hz2⟩ := info_parts info_item
  have g0 : Grow w (w.alloc (.cells #[.int .i64 s.nb, .int .i64 s.nn, .int .i64 s.ns, bv, nv] 25)) := (Grow.refl w).alloc _
  have cM := mayS_any s bv nv _ (h.grow g0) hz (hT.below g0)
  have hbl := hz.1.1
  obtain ⟨a1, c1, rfl⟩ := h.1.mk
  obtain ⟨a2, c2, rfl⟩ := h.2.mk
  have HH := Lib.hid h
  have HG0 := Lib.hid g0
  clear h hz hT g0
  unfold shelfV at *
  cases hm : mayS s with
  | false =>
    have HM := Lib.hid hm
    rw [hm] at cM
    clear hm
    go_enter Tryd.func12, Tryd.ntmps12
    go_wp2_with fail
    refine cM.mono ?_
    rintro e w1 ⟨rfl, g1⟩
    go_wp2_with fail
    go_ret
    refine ⟨_, rfl, HG0.out.trans g1, ?_⟩
    rw [booksI, if_neg (by rw [HM.out]; simp)]
    exact RowO.nil
  | true =>
    have HM := Lib.hid hm
    rw [hm] at cM
    clear hm
    have HBX := Lib.hid (heap_alloc_new w (.cells #[.int .i64 s.nb, .int .i64 s.nn, .int .i64 s.ns, .slice a1 s.books.length c1, .slice a2 s.notes.length c2] 25))
    go_enter Tryd.func12, Tryd.ntmps12
    go_wp2_with fail
    refine cM.mono ?_
    rintro e w1 ⟨rfl, g1⟩
    obtain ⟨⟨p0, p1, p2, p3, p4⟩, hpz⟩ := n5 (g1.blk HBX.out)
    have gw1 := HG0.out.trans g1
    have HG1 := Lib.hid gw1
    clear cM
    go_wp2_with fail
    go_loopw [3, 12] (fun v3 v12 wx => ∃ (i : Nat) (L : List Item) (o : Option Addr) (k : Nat), v3 = .slice o i k ∧ v12 = .int .i64 i ∧ i ≤ s.books.length ∧ L = (itemsB s).take i ∧ L.length = i ∧ RowO w.heap.size 34 2 (.slice o i k) L.length (L.flatMap itemC) wx ∧ Grow w wx) (fun _ v12 _ => s.books.length - (Go.RowKit.intOf v12).toNat)
    case atStart => exact ⟨0, [], none, 0, rfl, rfl, by omega, by simp, rfl, RowO.nil, gw1⟩
    case round =>
      obtain ⟨i, L, o, k, rfl, rfl, hi, hL, hLl, hr, hg⟩ := hrel
      have HL := Lib.hid hL
      have HLL := Lib.hid hLl
      have HR := Lib.hid hr
      have HG := Lib.hid hg
      clear hL hLl
      by_cases hlt : i < s.books.length
      · have hlt' : (i : Int) < s.books.length := by omega
        obtain ⟨x, hx, -⟩ := lt_get hlt
        obtain ⟨b, off, rfl, hb, q0, q1⟩ := (Books.grow HH.out.1 hg).at hx
        have HX := Lib.hid hx
        have hgs := hg.size
        clear hx hr hg
        go_wp2_with (at_builtin; refine app_R (base := w.heap.size) (by rfl) _ _ 28 (by rfl) 34 i0 _ 2 24 Tryd.underlying28 hi0 hz0 hz1 hz2 (by rfl) (by decide) (.slice o i k) i (L.flatMap itemC) (by rfl) _ ?_ ?_ (itemC ⟨x.id, x.name⟩) rfl (itemC_one _) ?_ ?_ (by decide) ?_; (have h9 := HR.out; rw [HLL.out] at h9; exact h9.grow ((Grow.refl wr).alloc _)); (simp; omega); (simp; rfl); omega; intro v' w4 ra; obtain ⟨va, vc, e3, -⟩ := ra.1.slice; subst e3; have HRA := Lib.hid ra; clear ra)
        have hadd : RowO w.heap.size 34 2 (.slice va (i + 1) vc) (L ++ [(⟨x.id, x.name⟩ : Item)]).length ((L ++ [(⟨x.id, x.name⟩ : Item)]).flatMap itemC) w4 := row_add (l := L) (by rw [HLL.out]; exact HRA.out)
        have hgr : Grow w w4 := by
          have hrr := HR.out
          rw [HLL.out] at hrr
          exact grown_grow (HG.out.alloc _) (hrr.grow ((Grow.refl wr).alloc _)) HRA.out.2.1
        have HADD := Lib.hid hadd
        have HGR := Lib.hid hgr
        clear hadd hgr HRA
        go_wp2_with fail
        go_roundw
        case rel => exact ⟨i + 1, L ++ [⟨x.id, x.name⟩], va, vc, by go_num, by go_num, by omega, by rw [HL.out, List.take_add_one]; congr 1; unfold itemsB; rw [List.getElem?_map, HX.out]; rfl, by rw [List.length_append, HLL.out]; rfl, HADD.out, HGR.out⟩
        case measure => simp [Go.RowKit.intOf]; omega
      · have hlt' : ¬ (i : Int) < s.books.length := by omega
        have hLa : L = itemsB s := by rw [HL.out]; exact List.take_of_length_le (by unfold itemsB; rw [List.length_map]; omega)
        have cS := sortItems_any w.heap.size (.slice o i k) L wr hr (by rw [HLL.out]; omega)
        have HLA := Lib.hid hLa
        clear hr hg hLa
        go_wp2_with fail
        refine cS.mono ?_
        rintro e w5 ⟨rfl, l', hp, hs, hr', hg'⟩
        have HF := Lib.hid (show l' = booksI s by rw [booksI, if_pos HM.out]; exact sortI_of (by rw [← HLA.out]; exact hp) hs (itemsB_new (mayS_iff.1 HM.out)))
        have HR5 := Lib.hid hr'
        have HG5 := Lib.hid (grown_grow HG.out HR.out hg')
        clear cS hp hs hr' hg'
        go_wp2_with fail
        go_ret
        refine ⟨_, rfl, HG5.out, ?_⟩
        rw [← HF.out]; exact HR5.out
set_option maxRecDepth 100000 in
set_option maxHeartbeats 4000000 in
theorem notes_any (s : Shelf) (bv nv : Value) (id : Int) (w : World) (h : ShelfR w s bv nv) (hz : TameS s) (hT : Tabs w) :
    Calls Tryd.prog 13 #[shelfV s bv nv, .int .i64 id] w fun e w' => ∃ v, e = .returned (.tuple #[v, .int .i64 (dropE s id)]) ∧ RetI (notesI s id) w v w' := by
  obtain ⟨i0, hi0, hz0, hz1, hz2⟩ := info_parts info_item
  have g0 : Grow w (w.alloc (.cells #[.int .i64 s.nb, .int .i64 s.nn, .int .i64 s.ns, bv, nv] 25)) := (Grow.refl w).alloc _
  have cM := mayS_any s bv nv _ (h.grow g0) hz (hT.below g0)
  have cB : ∀ W, Grow w W → Calls Tryd.prog 38 #[shelfV s bv nv, .int .i64 id] W fun e w' => e = .returned (.int .i64 (bookIx s id)) ∧ Grow W w' := fun W g => book_any s bv nv id W (h.grow g) (by have := hz.1.1; omega)
  have hnl := hz.1.2.1
  obtain ⟨a1, c1, rfl⟩ := h.1.mk
  obtain ⟨a2, c2, rfl⟩ := h.2.mk
  have HH := Lib.hid h
  have HG0 := Lib.hid g0
  clear h hz hT g0
  unfold shelfV at *
  cases hm : mayS s with
  | false =>
    have HM := Lib.hid (show dropE s id = 2 by unfold dropE; rw [if_pos hm])
    rw [hm] at cM
    clear hm cB
    go_enter Tryd.func13, Tryd.ntmps13
    go_wp2_with fail
    refine cM.mono ?_
    rintro e w1 ⟨rfl, g1⟩
    go_wp2_with fail
    go_ret2
    refine ⟨.slice none 0 0, by rw [HM.out]; rfl, HG0.out.trans g1, ?_⟩
    rw [notesI, HM.out, if_neg (by decide)]
    exact RowO.nil
  | true =>
    have HM := Lib.hid hm
    rw [hm] at cM
    clear hm
    have HBX := Lib.hid (heap_alloc_new w (.cells #[.int .i64 s.nb, .int .i64 s.nn, .int .i64 s.ns, .slice a1 s.books.length c1, .slice a2 s.notes.length c2] 25))
    go_enter Tryd.func13, Tryd.ntmps13
    go_wp2_with fail
    refine cM.mono ?_
    rintro e w1 ⟨rfl, g1⟩
    obtain ⟨⟨p0, p1, p2, p3, p4⟩, hpz⟩ := n5 (g1.blk HBX.out)
    have gw1 := HG0.out.trans g1
    have cB1 := cB w1 gw1
    clear cM cB
    by_cases hi : bookIx s id < 0
    · have HI := Lib.hid (show dropE s id = 4 by unfold dropE; rw [if_neg (by rw [HM.out]; simp), if_pos hi])
      go_wp2_with fail
      refine cB1.mono ?_
      rintro e w2 ⟨rfl, g2⟩
      go_wp2_with fail
      go_ret2
      refine ⟨.slice none 0 0, by rw [HI.out]; rfl, gw1.trans g2, ?_⟩
      rw [notesI, HI.out, if_neg (by decide)]
      exact RowO.nil
    · have HI := Lib.hid (show dropE s id = 0 from dropE_zero.2 ⟨HM.out, by omega⟩)
      go_wp2_with fail
      refine cB1.mono ?_
      rintro e w2 ⟨rfl, g2⟩
      have gw2 := gw1.trans g2
      have HG2 := Lib.hid gw2
      clear cB1 p0 p1 p2 p3 p4 hpz
      obtain ⟨⟨p0, p1, p2, p3, p4⟩, hpz⟩ := n5 ((g1.trans g2).blk HBX.out)
      clear g1 g2
      go_wp2_with fail
      go_loopw [6, 21] (fun v6 v21 wx => ∃ (i n : Nat) (L : List Item) (o : Option Addr) (k : Nat), v6 = .slice o n k ∧ v21 = .int .i64 i ∧ i ≤ s.notes.length ∧ L = ((s.notes.take i).filter fun n => n.book == id).map (fun n => ⟨n.id, n.name⟩) ∧ L.length = n ∧ n ≤ i ∧ RowO w.heap.size 34 2 (.slice o n k) L.length (L.flatMap itemC) wx ∧ Grow w wx) (fun _ v21 _ => s.notes.length - (Go.RowKit.intOf v21).toNat)
      case atStart => exact ⟨0, 0, [], none, 0, rfl, rfl, by omega, by simp, rfl, by omega, RowO.nil, gw2⟩
      case round =>
        obtain ⟨i, n, L, o, k, rfl, rfl, hi', hL, hLl, hni, hr, hg⟩ := hrel
        have HL := Lib.hid hL
        have HLL := Lib.hid hLl
        have HR := Lib.hid hr
        have HG := Lib.hid hg
        clear hL hLl
        by_cases hlt : i < s.notes.length
        · have hlt' : (i : Int) < s.notes.length := by omega
          obtain ⟨x, hx, -⟩ := lt_get hlt
          obtain ⟨b, off, tv, sv, rfl, hb, q0, q1, q2, q3, q4, ht, hs⟩ := (Notes.grow HH.out.2 hg).at hx
          obtain ⟨ta, tc, etv⟩ := ht.mk
          obtain ⟨sa, sc, esv⟩ := hs.mk
          subst etv esv
          have HX := Lib.hid hx
          have hgs := hg.size
          clear hx hr hg ht hs
          cases hbk : (x.book == id) with
          | true =>
            have HBK := Lib.hid hbk
            go_wp2_with (at_builtin; refine app_R (base := w.heap.size) (by rfl) _ _ 28 (by rfl) 34 i0 _ 2 24 Tryd.underlying28 hi0 hz0 hz1 hz2 (by rfl) (by decide) (.slice o n k) n (L.flatMap itemC) (by rfl) _ ?_ ?_ (itemC ⟨x.id, x.name⟩) rfl (itemC_one _) ?_ ?_ (by decide) ?_; (have h9 := HR.out; rw [HLL.out] at h9; exact h9.grow ((Grow.refl wr).alloc _)); (simp; omega); (simp; rfl); omega; intro v' w4 ra; obtain ⟨va, vc, e3, -⟩ := ra.1.slice; subst e3; have HRA := Lib.hid ra; clear ra)
            have hadd : RowO w.heap.size 34 2 (.slice va (n + 1) vc) (L ++ [(⟨x.id, x.name⟩ : Item)]).length ((L ++ [(⟨x.id, x.name⟩ : Item)]).flatMap itemC) w4 := row_add (l := L) (by rw [HLL.out]; exact HRA.out)
            have hgr : Grow w w4 := by
              have hrr := HR.out
              rw [HLL.out] at hrr
              exact grown_grow (HG.out.alloc _) (hrr.grow ((Grow.refl wr).alloc _)) HRA.out.2.1
            have HADD := Lib.hid hadd
            have HGR := Lib.hid hgr
            clear hadd hgr HRA hbk
            go_wp2_with fail
            go_roundw
            case rel => exact ⟨i + 1, n + 1, L ++ [⟨x.id, x.name⟩], va, vc, by go_num, by go_num, by omega, by rw [HL.out, filter_next HX.out, if_pos HBK.out, List.map_append]; rfl, by rw [List.length_append, HLL.out]; rfl, by omega, HADD.out, HGR.out⟩
            case measure => simp [Go.RowKit.intOf]; omega
          | false =>
            have HBK := Lib.hid hbk
            go_wp2_with fail
            go_roundw
            case rel => exact ⟨i + 1, n, L, o, k, rfl, by go_num, by omega, by rw [HL.out, filter_next HX.out, if_neg (by rw [HBK.out]; simp), List.append_nil], HLL.out, by omega, HR.out.grow ((Grow.refl wr).alloc _), HG.out.alloc _⟩
            case measure => simp [Go.RowKit.intOf]; omega
        · have hlt' : ¬ (i : Int) < s.notes.length := by omega
          have hLa : L = itemsN s id := by rw [HL.out, List.take_of_length_le (by omega)]; rfl
          have cS := sortItems_any w.heap.size (.slice o n k) L wr hr (by rw [HLL.out]; omega)
          have HLA := Lib.hid hLa
          clear hr hg hLa
          go_wp2_with fail
          refine cS.mono ?_
          rintro e w5 ⟨rfl, l', hp, hs, hr', hg'⟩
          have HF := Lib.hid (show l' = notesI s id by rw [notesI, if_pos HI.out]; exact sortI_of (by rw [← HLA.out]; exact hp) hs (itemsN_new (mayS_iff.1 HM.out) id))
          have HR5 := Lib.hid hr'
          have HG5 := Lib.hid (grown_grow HG.out HR.out hg')
          clear cS hp hs hr' hg'
          go_wp2_with fail
          go_ret2
          refine ⟨.slice o n k, by rw [HI.out]; rfl, HG5.out, ?_⟩
          rw [← HF.out]; exact HR5.out
end Go.Proofs.YtieohecgoaakmaaDoor
