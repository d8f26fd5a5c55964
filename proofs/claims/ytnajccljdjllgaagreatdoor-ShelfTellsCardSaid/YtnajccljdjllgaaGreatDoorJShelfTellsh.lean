/- The walk of jotterlaw17.both. An argument's cells, read: slices of whatever reads. An argument's cells, read as a shelf. Acts on a shelf, as arguments. Items, ordered by their names: cmp.Compare of texts, shelf.byName. Rows of the call's own under the library's sorts and deletions: items, texts, numbers. The library's sort at items, by shelf.byName. Items sorted by their names: plain words. Lists of items: how they read, SameItems. shelf.Books, shelf.Notes. SameItems, Empty; the awake of chapter 17. The awake of chapter 17. What was answered is written over: rows of texts. What was answered is written over: rows of numbers, books. -/
import Derived.Test.YtnajccljdjllgaaGreatDoorJShelfTellsd
import Derived.Test.YtnajccljdjllgaaGreatDoorJShelfTellse
import Derived.Test.YtnajccljdjllgaaGreatDoorJShelfTellsf
import Derived.Test.YtnajccljdjllgaaGreatDoorJShelfTellsg
import Derived.Deep.RegionLaw
import Derived.Deep.RegionHeld3
import Derived.Test.YtnajccljdjllgaaGreatDoorJShelfTellsa
import Derived.ProofKit
import Derived.ChangeArms
import Derived.ChangeShapes
import Derived.WideShapes
import Derived.Test.YtnajccljdjllgaaGreatDoorJShelfTellsc
import Derived.Test.YtnajccljdjllgaaGreatDoorJShelfTellsb
import Derived.Test.YtnajccljdjllgaaGreatDoorShelf2
import Derived.Laws.StructEq
import Derived.StillTailTactics
import Derived.Deep.QuietTactic
import Derived.BigQuiet
set_option linter.unusedVariables false
set_option linter.unusedSimpArgs false
namespace Go.Proofs.YtnajccljdjllgaaGreatDoor
open Go.RowKit Go.Lib
theorem add_tame (s : Shelf) (id : Int) (t : ByteArray) : TameS (addR s id t).s := tame_res add_may
theorem retitle_tame (s : Shelf) (id : Int) (t : ByteArray) : TameS (retitleR s id t).s := tame_res retitle_may
def act17R (s : Shelf) (x a b : Int) (t : ByteArray) : Res := if x = 0 then makeR s t else if x = 1 then renameR s a t else if x = 2 then dropR s a else if x = 3 then addR s a t else if x = 4 then retitleR s a t else if x = 5 then moveR s a b else if x = 6 then discardR s a else ⟨zS, 0, 0⟩
theorem act17R_tame (s : Shelf) (x a b : Int) (t : ByteArray) : TameS (act17R s x a b t).s := by
  unfold act17R
  repeat' split
  · exact make_tame s t
  · exact rename_tame s a t
  · exact drop_tame s a
  · exact add_tame s a t
  · exact retitle_tame s a t
  · exact move_tame s a b
  · exact discard_tame s a
  · exact zS_tame
theorem boxes17 (w : World) (o0 : Obj) (o1 : Obj) (o2 : Obj) (o3 : Obj) (o4 : Obj) (o5 : Obj) : (((((((w.alloc o0).alloc o1).alloc o2).alloc o3).alloc o4).alloc o5)).heap[w.heap.size]? = some o0 ∧ (((((((w.alloc o0).alloc o1).alloc o2).alloc o3).alloc o4).alloc o5)).heap[w.heap.size + 1]? = some o1 ∧ (((((((w.alloc o0).alloc o1).alloc o2).alloc o3).alloc o4).alloc o5)).heap[w.heap.size + 2]? = some o2 ∧ (((((((w.alloc o0).alloc o1).alloc o2).alloc o3).alloc o4).alloc o5)).heap[w.heap.size + 3]? = some o3 ∧ (((((((w.alloc o0).alloc o1).alloc o2).alloc o3).alloc o4).alloc o5)).heap[w.heap.size + 4]? = some o4 ∧ (((((((w.alloc o0).alloc o1).alloc o2).alloc o3).alloc o4).alloc o5)).heap[w.heap.size + 5]? = some o5 := by
  refine ⟨?_, ?_, ?_, ?_, ?_, ?_⟩
  · have h := heap_alloc_new (w) o0
    rw [show (w).heap.size = w.heap.size by simp] at h
    exact (((((((Grow.refl _).alloc o1).alloc o2).alloc o3).alloc o4).alloc o5) : Grow _ _).blk h
  · have h := heap_alloc_new ((w.alloc o0)) o1
    rw [show ((w.alloc o0)).heap.size = w.heap.size + 1 by simp] at h
    exact ((((((Grow.refl _).alloc o2).alloc o3).alloc o4).alloc o5) : Grow _ _).blk h
  · have h := heap_alloc_new (((w.alloc o0).alloc o1)) o2
    rw [show (((w.alloc o0).alloc o1)).heap.size = w.heap.size + 2 by simp] at h
    exact (((((Grow.refl _).alloc o3).alloc o4).alloc o5) : Grow _ _).blk h
  · have h := heap_alloc_new ((((w.alloc o0).alloc o1).alloc o2)) o3
    rw [show ((((w.alloc o0).alloc o1).alloc o2)).heap.size = w.heap.size + 3 by simp] at h
    exact ((((Grow.refl _).alloc o4).alloc o5) : Grow _ _).blk h
  · have h := heap_alloc_new (((((w.alloc o0).alloc o1).alloc o2).alloc o3)) o4
    rw [show (((((w.alloc o0).alloc o1).alloc o2).alloc o3)).heap.size = w.heap.size + 4 by simp] at h
    exact (((Grow.refl _).alloc o5) : Grow _ _).blk h
  · have h := heap_alloc_new ((((((w.alloc o0).alloc o1).alloc o2).alloc o3).alloc o4)) o5
    rw [show ((((((w.alloc o0).alloc o1).alloc o2).alloc o3).alloc o4)).heap.size = w.heap.size + 5 by simp] at h
    exact h
set_option maxRecDepth 100000 in
set_option maxHeartbeats 8000000 in
theorem both17_any (s : Shelf) (bv nv : Value) (x a b : Int) (t : ByteArray) (w : World) (h : ShelfR w s bv nv) (hz : TameS s) (ht : t.size ≤ 1000000000) (hT : Tabs w) :
    Calls Tryz.prog 8 #[shelfV s bv nv, .agg #[.int .i64 x, .int .i64 a, .int .i64 b, .string t]] w (RetB (act17R s x a b t).s w) := by
  obtain ⟨S, N, E, hR⟩ : ∃ S N E, act17R s x a b t = ⟨S, N, E⟩ := ⟨_, _, _, rfl⟩
  have HTS := Lib.hid (show TameS S by have := act17R_tame s x a b t; rw [hR] at this; exact this)
  rw [hR]
  have HR := Lib.hid hR
  have HH := Lib.hid h
  have HZ := Lib.hid hz
  have HTB := Lib.hid hT
  obtain ⟨a1, c1, rfl⟩ := h.1.mk
  obtain ⟨a2, c2, rfl⟩ := h.2.mk
  have HXX := Lib.hid (boxes17 w (.cells #[.int .i64 s.nb, .int .i64 s.nn, .int .i64 s.ns, .slice a1 s.books.length c1, .slice a2 s.notes.length c2] 25) (.cells #[.int .i64 x, .int .i64 a, .int .i64 b, .string t] 27) (.cells #[.int .i64 0, .int .i64 0, .int .i64 0, .slice none 0 0, .slice none 0 0] 25) (.cells #[.int .i64 0, .int .i64 0, .int .i64 0, .slice none 0 0, .slice none 0 0] 25) (.cells #[.int .i64 0, .int .i64 0, .int .i64 0, .slice none 0 0, .slice none 0 0] 25) (.cells #[.int .i64 0, .int .i64 0, .int .i64 0, .slice none 0 0, .slice none 0 0] 25))
  clear h hz hT hR
  unfold shelfV
  go_enter Tryz.func8, Tryz.ntmps8
  go_upto_region 2 with (fail)
  generalize hV : ((((((w.alloc (.cells #[.int .i64 s.nb, .int .i64 s.nn, .int .i64 s.ns, .slice a1 s.books.length c1, .slice a2 s.notes.length c2] 25)).alloc (.cells #[.int .i64 x, .int .i64 a, .int .i64 b, .string t] 27)).alloc (.cells #[.int .i64 0, .int .i64 0, .int .i64 0, .slice none 0 0, .slice none 0 0] 25)).alloc (.cells #[.int .i64 0, .int .i64 0, .int .i64 0, .slice none 0 0, .slice none 0 0] 25)).alloc (.cells #[.int .i64 0, .int .i64 0, .int .i64 0, .slice none 0 0, .slice none 0 0] 25)).alloc (.cells #[.int .i64 0, .int .i64 0, .int .i64 0, .slice none 0 0, .slice none 0 0] 25)) = V
  have gV : Grow w V := by rw [← hV]; exact (((((((Grow.refl w).alloc _).alloc _).alloc _).alloc _).alloc _).alloc _)
  have HB0 : Hid (V.heap[w.heap.size]? = some (.cells #[.int .i64 s.nb, .int .i64 s.nn, .int .i64 s.ns, .slice a1 s.books.length c1, .slice a2 s.notes.length c2] 25)) := by rw [← hV]; exact Lib.hid HXX.out.1
  have HB1 : Hid (V.heap[w.heap.size + 1]? = some (.cells #[.int .i64 x, .int .i64 a, .int .i64 b, .string t] 27)) := by rw [← hV]; exact Lib.hid HXX.out.2.1
  have HB2 : Hid (V.heap[w.heap.size + 2]? = some (.cells #[.int .i64 0, .int .i64 0, .int .i64 0, .slice none 0 0, .slice none 0 0] 25)) := by rw [← hV]; exact Lib.hid HXX.out.2.2.1
  have HB3 : Hid (V.heap[w.heap.size + 3]? = some (.cells #[.int .i64 0, .int .i64 0, .int .i64 0, .slice none 0 0, .slice none 0 0] 25)) := by rw [← hV]; exact Lib.hid HXX.out.2.2.2.1
  have HB4 : Hid (V.heap[w.heap.size + 4]? = some (.cells #[.int .i64 0, .int .i64 0, .int .i64 0, .slice none 0 0, .slice none 0 0] 25)) := by rw [← hV]; exact Lib.hid HXX.out.2.2.2.2.1
  have HB5 : Hid (V.heap[w.heap.size + 5]? = some (.cells #[.int .i64 0, .int .i64 0, .int .i64 0, .slice none 0 0, .slice none 0 0] 25)) := by rw [← hV]; exact Lib.hid HXX.out.2.2.2.2.2
  clear hV HXX
  obtain ⟨⟨p0, p1, p2, p3, p4⟩, hpz⟩ := n5 HB0.out
  obtain ⟨⟨q0, q1, q2, q3⟩, hqz⟩ := n4 HB1.out
  go_upto_block 0 with (fail)
  go_cut [9, 10, 11, 12] (fun v9 v10 v11 v12 wx => ∃ xa xc ya yc Y b2 n2, v9 = .int .i64 N ∧ v10 = .int .i64 N ∧ v11 = .int .i64 E ∧ v12 = .int .i64 E ∧ BothSt w (w.heap.size + 4) (w.heap.size + 5) (w.heap.size + 2) (w.heap.size + 3) S (.slice xa S.books.length xc) (.slice ya S.notes.length yc) Y b2 n2 wx)
  case first =>
    by_cases hx0 : x = 0
    · subst hx0
      have hR1 : makeR s t = ⟨S, N, E⟩ := by have h9 := HR.out; unfold act17R at h9; simpa using h9
      have c := (make_any s _ _  t V (HH.out.grow gV) HZ.out ht (HTB.out.below gV)).mono fun _ _ => RetM.one hR1
      unfold shelfV at c
      go_wp2_with fail
      refine c.mono ?_
      clear c
      rintro e w1 ⟨xa, xc, ya, yc, Y, rfl, ho, hm, g1⟩
      obtain ⟨k1, k2, k3, k4⟩ := both_one gV HB4.out (by omega) g1 ho
      obtain ⟨⟨e0, e1, e2, e3, e4⟩, ez⟩ := n5 (g1.blk HB4.out)
      have f0 := frozen_of_row w1 (w.heap.size + 4) 0 _ _ (g1.blk HB4.out)
      have f1 := frozen_of_row w1 (w.heap.size + 4) 1 _ _ (g1.blk HB4.out)
      have f2 := frozen_of_row w1 (w.heap.size + 4) 2 _ _ (g1.blk HB4.out)
      have f3 := frozen_of_row w1 (w.heap.size + 4) 3 _ _ (g1.blk HB4.out)
      have f4 := frozen_of_row w1 (w.heap.size + 4) 4 _ _ (g1.blk HB4.out)
      unfold set5w at k1 k2 k3 k4
      clear p0 p1 p2 p3 p4 hpz q0 q1 q2 q3 hqz
      go_upto_region 7 with (fail)
      generalize ((((w1.setCell ⟨w.heap.size + 4, 0, none⟩ (.int .i64 S.nb)).setCell ⟨w.heap.size + 4, 1, none⟩ (.int .i64 S.nn)).setCell ⟨w.heap.size + 4, 2, none⟩ (.int .i64 S.ns)).setCell ⟨w.heap.size + 4, 3, none⟩ (.slice xa S.books.length xc)).setCell ⟨w.heap.size + 4, 4, none⟩ (.slice ya S.notes.length yc) = W1 at *
      have KA := Lib.hid k1
      have KG := Lib.hid k2
      have KO := Lib.hid k3
      have KB0 := Lib.hid (k4 _ _ (by omega) HB0.out)
      have KB1 := Lib.hid (k4 _ _ (by omega) HB1.out)
      have KB := Lib.hid (k4 _ _ (by omega) HB5.out)
      have KC := Lib.hid (k4 _ _ (by omega) HB2.out)
      have KD := Lib.hid (k4 _ _ (by omega) HB3.out)
      have KM := Lib.hid hm
      clear k1 k2 k3 k4 ho hm g1 e0 e1 e2 e3 e4 ez f0 f1 f2 f3 f4
      obtain ⟨⟨p0, p1, p2, p3, p4⟩, hpz⟩ := n5 KB0.out
      obtain ⟨⟨q0, q1, q2, q3⟩, hqz⟩ := n4 KB1.out
      have c := (refMake_any s _ _  t W1 (HH.out.grow KG.out) HZ.out ht (HTB.out.below KG.out)).mono fun _ _ => RetM.one hR1
      unfold shelfV at c
      go_wp2_with fail
      refine c.mono ?_
      clear c
      rintro e w2 ⟨xa2, xc2, ya2, yc2, Y2, rfl, ho, hm, g2⟩
      have k := both_two (A := w.heap.size + 4) (B := w.heap.size + 5) (C := w.heap.size + 2) (D := w.heap.size + 3) KG.out KA.out KB.out KC.out KD.out (by omega) ⟨by omega, by omega, by omega⟩ KO.out KM.out g2 ho hm
      obtain ⟨⟨e0, e1, e2, e3, e4⟩, ez⟩ := n5 (g2.blk KB.out)
      have f0 := frozen_of_row w2 (w.heap.size + 5) 0 _ _ (g2.blk KB.out)
      have f1 := frozen_of_row w2 (w.heap.size + 5) 1 _ _ (g2.blk KB.out)
      have f2 := frozen_of_row w2 (w.heap.size + 5) 2 _ _ (g2.blk KB.out)
      have f3 := frozen_of_row w2 (w.heap.size + 5) 3 _ _ (g2.blk KB.out)
      have f4 := frozen_of_row w2 (w.heap.size + 5) 4 _ _ (g2.blk KB.out)
      have KK := Lib.hid k
      clear p0 p1 p2 p3 p4 hpz q0 q1 q2 q3 hqz k ho hm g2
      go_wp2_with fail
      go_meet
      exact ⟨xa, xc, ya, yc, Y, _, _, rfl, rfl, rfl, rfl, KK.out⟩
    · have hx0' := hx0
      by_cases hx1 : x = 1
      · subst hx1
        have hR1 : renameR s a t = ⟨S, N, E⟩ := by have h9 := HR.out; unfold act17R at h9; simpa using h9
        have hN : N = 0 := by have h9 := congrArg Res.n hR1; rw [show (renameR s a t).n = 0 from resOf_n0 _ _] at h9; exact h9.symm
        have c := (rename_any s _ _ a t V (HH.out.grow gV) HZ.out ht (HTB.out.below gV)).mono fun _ _ => RetC.one hR1
        unfold shelfV at c
        go_wp2_with fail
        refine c.mono ?_
        clear c
        rintro e w1 ⟨xa, xc, ya, yc, Y, rfl, ho, hm, g1⟩
        obtain ⟨k1, k2, k3, k4⟩ := both_one gV HB4.out (by omega) g1 ho
        obtain ⟨⟨e0, e1, e2, e3, e4⟩, ez⟩ := n5 (g1.blk HB4.out)
        have f0 := frozen_of_row w1 (w.heap.size + 4) 0 _ _ (g1.blk HB4.out)
        have f1 := frozen_of_row w1 (w.heap.size + 4) 1 _ _ (g1.blk HB4.out)
        have f2 := frozen_of_row w1 (w.heap.size + 4) 2 _ _ (g1.blk HB4.out)
        have f3 := frozen_of_row w1 (w.heap.size + 4) 3 _ _ (g1.blk HB4.out)
        have f4 := frozen_of_row w1 (w.heap.size + 4) 4 _ _ (g1.blk HB4.out)
        unfold set5w at k1 k2 k3 k4
        clear p0 p1 p2 p3 p4 hpz q0 q1 q2 q3 hqz
        go_upto_region 10 with (fail)
        generalize ((((w1.setCell ⟨w.heap.size + 4, 0, none⟩ (.int .i64 S.nb)).setCell ⟨w.heap.size + 4, 1, none⟩ (.int .i64 S.nn)).setCell ⟨w.heap.size + 4, 2, none⟩ (.int .i64 S.ns)).setCell ⟨w.heap.size + 4, 3, none⟩ (.slice xa S.books.length xc)).setCell ⟨w.heap.size + 4, 4, none⟩ (.slice ya S.notes.length yc) = W1 at *
        have KA := Lib.hid k1
        have KG := Lib.hid k2
        have KO := Lib.hid k3
        have KB0 := Lib.hid (k4 _ _ (by omega) HB0.out)
        have KB1 := Lib.hid (k4 _ _ (by omega) HB1.out)
        have KB := Lib.hid (k4 _ _ (by omega) HB5.out)
        have KC := Lib.hid (k4 _ _ (by omega) HB2.out)
        have KD := Lib.hid (k4 _ _ (by omega) HB3.out)
        have KM := Lib.hid hm
        clear k1 k2 k3 k4 ho hm g1 e0 e1 e2 e3 e4 ez f0 f1 f2 f3 f4
        obtain ⟨⟨p0, p1, p2, p3, p4⟩, hpz⟩ := n5 KB0.out
        obtain ⟨⟨q0, q1, q2, q3⟩, hqz⟩ := n4 KB1.out
        have c := (refRename_any s _ _ a t W1 (HH.out.grow KG.out) HZ.out ht (HTB.out.below KG.out)).mono fun _ _ => RetC.one hR1
        unfold shelfV at c
        go_wp2_with fail
        refine c.mono ?_
        clear c
        rintro e w2 ⟨xa2, xc2, ya2, yc2, Y2, rfl, ho, hm, g2⟩
        have k := both_two (A := w.heap.size + 4) (B := w.heap.size + 5) (C := w.heap.size + 2) (D := w.heap.size + 3) KG.out KA.out KB.out KC.out KD.out (by omega) ⟨by omega, by omega, by omega⟩ KO.out KM.out g2 ho hm
        obtain ⟨⟨e0, e1, e2, e3, e4⟩, ez⟩ := n5 (g2.blk KB.out)
        have f0 := frozen_of_row w2 (w.heap.size + 5) 0 _ _ (g2.blk KB.out)
        have f1 := frozen_of_row w2 (w.heap.size + 5) 1 _ _ (g2.blk KB.out)
        have f2 := frozen_of_row w2 (w.heap.size + 5) 2 _ _ (g2.blk KB.out)
        have f3 := frozen_of_row w2 (w.heap.size + 5) 3 _ _ (g2.blk KB.out)
        have f4 := frozen_of_row w2 (w.heap.size + 5) 4 _ _ (g2.blk KB.out)
        have KK := Lib.hid k
        clear p0 p1 p2 p3 p4 hpz q0 q1 q2 q3 hqz k ho hm g2
        go_wp2_with fail
        go_meet
        exact ⟨xa, xc, ya, yc, Y, _, _, by rw [hN], by rw [hN], rfl, rfl, KK.out⟩
      · have hx1' := hx1
        by_cases hx2 : x = 2
        · subst hx2
          have hR1 : dropR s a = ⟨S, N, E⟩ := by have h9 := HR.out; unfold act17R at h9; simpa using h9
          have hN : N = 0 := by have h9 := congrArg Res.n hR1; rw [show (dropR s a).n = 0 from resOf_n0 _ _] at h9; exact h9.symm
          have c := (drop_any s _ _ a V (HH.out.grow gV) HZ.out (HTB.out.below gV)).mono fun _ _ => RetC.one hR1
          unfold shelfV at c
          go_wp2_with fail
          refine c.mono ?_
          clear c
          rintro e w1 ⟨xa, xc, ya, yc, Y, rfl, ho, hm, g1⟩
          obtain ⟨k1, k2, k3, k4⟩ := both_one gV HB4.out (by omega) g1 ho
          obtain ⟨⟨e0, e1, e2, e3, e4⟩, ez⟩ := n5 (g1.blk HB4.out)
          have f0 := frozen_of_row w1 (w.heap.size + 4) 0 _ _ (g1.blk HB4.out)
          have f1 := frozen_of_row w1 (w.heap.size + 4) 1 _ _ (g1.blk HB4.out)
          have f2 := frozen_of_row w1 (w.heap.size + 4) 2 _ _ (g1.blk HB4.out)
          have f3 := frozen_of_row w1 (w.heap.size + 4) 3 _ _ (g1.blk HB4.out)
          have f4 := frozen_of_row w1 (w.heap.size + 4) 4 _ _ (g1.blk HB4.out)
          unfold set5w at k1 k2 k3 k4
          clear p0 p1 p2 p3 p4 hpz q0 q1 q2 q3 hqz
          go_upto_region 13 with (fail)
          generalize ((((w1.setCell ⟨w.heap.size + 4, 0, none⟩ (.int .i64 S.nb)).setCell ⟨w.heap.size + 4, 1, none⟩ (.int .i64 S.nn)).setCell ⟨w.heap.size + 4, 2, none⟩ (.int .i64 S.ns)).setCell ⟨w.heap.size + 4, 3, none⟩ (.slice xa S.books.length xc)).setCell ⟨w.heap.size + 4, 4, none⟩ (.slice ya S.notes.length yc) = W1 at *
          have KA := Lib.hid k1
          have KG := Lib.hid k2
          have KO := Lib.hid k3
          have KB0 := Lib.hid (k4 _ _ (by omega) HB0.out)
          have KB1 := Lib.hid (k4 _ _ (by omega) HB1.out)
          have KB := Lib.hid (k4 _ _ (by omega) HB5.out)
          have KC := Lib.hid (k4 _ _ (by omega) HB2.out)
          have KD := Lib.hid (k4 _ _ (by omega) HB3.out)
          have KM := Lib.hid hm
          clear k1 k2 k3 k4 ho hm g1 e0 e1 e2 e3 e4 ez f0 f1 f2 f3 f4
          obtain ⟨⟨p0, p1, p2, p3, p4⟩, hpz⟩ := n5 KB0.out
          obtain ⟨⟨q0, q1, q2, q3⟩, hqz⟩ := n4 KB1.out
          have c := (refDrop_any s _ _ a W1 (HH.out.grow KG.out) HZ.out (HTB.out.below KG.out)).mono fun _ _ => RetC.one hR1
          unfold shelfV at c
          go_wp2_with fail
          refine c.mono ?_
          clear c
          rintro e w2 ⟨xa2, xc2, ya2, yc2, Y2, rfl, ho, hm, g2⟩
          have k := both_two (A := w.heap.size + 4) (B := w.heap.size + 5) (C := w.heap.size + 2) (D := w.heap.size + 3) KG.out KA.out KB.out KC.out KD.out (by omega) ⟨by omega, by omega, by omega⟩ KO.out KM.out g2 ho hm
          obtain ⟨⟨e0, e1, e2, e3, e4⟩, ez⟩ := n5 (g2.blk KB.out)
          have f0 := frozen_of_row w2 (w.heap.size + 5) 0 _ _ (g2.blk KB.out)
          have f1 := frozen_of_row w2 (w.heap.size + 5) 1 _ _ (g2.blk KB.out)
          have f2 := frozen_of_row w2 (w.heap.size + 5) 2 _ _ (g2.blk KB.out)
          have f3 := frozen_of_row w2 (w.heap.size + 5) 3 _ _ (g2.blk KB.out)
          have f4 := frozen_of_row w2 (w.heap.size + 5) 4 _ _ (g2.blk KB.out)
          have KK := Lib.hid k
          clear p0 p1 p2 p3 p4 hpz q0 q1 q2 q3 hqz k ho hm g2
          go_wp2_with fail
          go_meet
          exact ⟨xa, xc, ya, yc, Y, _, _, by rw [hN], by rw [hN], rfl, rfl, KK.out⟩
        · have hx2' := hx2
          by_cases hx3 : x = 3
          · subst hx3
            have hR1 : addR s a t = ⟨S, N, E⟩ := by have h9 := HR.out; unfold act17R at h9; simpa using h9
            have c := (add_any s _ _ a t V (HH.out.grow gV) HZ.out ht (HTB.out.below gV)).mono fun _ _ => RetM.one hR1
            unfold shelfV at c
            go_wp2_with fail
            refine c.mono ?_
            clear c
            rintro e w1 ⟨xa, xc, ya, yc, Y, rfl, ho, hm, g1⟩
            obtain ⟨k1, k2, k3, k4⟩ := both_one gV HB4.out (by omega) g1 ho
            obtain ⟨⟨e0, e1, e2, e3, e4⟩, ez⟩ := n5 (g1.blk HB4.out)
            have f0 := frozen_of_row w1 (w.heap.size + 4) 0 _ _ (g1.blk HB4.out)
            have f1 := frozen_of_row w1 (w.heap.size + 4) 1 _ _ (g1.blk HB4.out)
            have f2 := frozen_of_row w1 (w.heap.size + 4) 2 _ _ (g1.blk HB4.out)
            have f3 := frozen_of_row w1 (w.heap.size + 4) 3 _ _ (g1.blk HB4.out)
            have f4 := frozen_of_row w1 (w.heap.size + 4) 4 _ _ (g1.blk HB4.out)
            unfold set5w at k1 k2 k3 k4
            clear p0 p1 p2 p3 p4 hpz q0 q1 q2 q3 hqz
            go_upto_region 16 with (fail)
            generalize ((((w1.setCell ⟨w.heap.size + 4, 0, none⟩ (.int .i64 S.nb)).setCell ⟨w.heap.size + 4, 1, none⟩ (.int .i64 S.nn)).setCell ⟨w.heap.size + 4, 2, none⟩ (.int .i64 S.ns)).setCell ⟨w.heap.size + 4, 3, none⟩ (.slice xa S.books.length xc)).setCell ⟨w.heap.size + 4, 4, none⟩ (.slice ya S.notes.length yc) = W1 at *
            have KA := Lib.hid k1
            have KG := Lib.hid k2
            have KO := Lib.hid k3
            have KB0 := Lib.hid (k4 _ _ (by omega) HB0.out)
            have KB1 := Lib.hid (k4 _ _ (by omega) HB1.out)
            have KB := Lib.hid (k4 _ _ (by omega) HB5.out)
            have KC := Lib.hid (k4 _ _ (by omega) HB2.out)
            have KD := Lib.hid (k4 _ _ (by omega) HB3.out)
            have KM := Lib.hid hm
            clear k1 k2 k3 k4 ho hm g1 e0 e1 e2 e3 e4 ez f0 f1 f2 f3 f4
            obtain ⟨⟨p0, p1, p2, p3, p4⟩, hpz⟩ := n5 KB0.out
            obtain ⟨⟨q0, q1, q2, q3⟩, hqz⟩ := n4 KB1.out
            have c := (refAdd_any s _ _ a t W1 (HH.out.grow KG.out) HZ.out ht (HTB.out.below KG.out)).mono fun _ _ => RetM.one hR1
            unfold shelfV at c
            go_wp2_with fail
            refine c.mono ?_
            clear c
            rintro e w2 ⟨xa2, xc2, ya2, yc2, Y2, rfl, ho, hm, g2⟩
            have k := both_two (A := w.heap.size + 4) (B := w.heap.size + 5) (C := w.heap.size + 2) (D := w.heap.size + 3) KG.out KA.out KB.out KC.out KD.out (by omega) ⟨by omega, by omega, by omega⟩ KO.out KM.out g2 ho hm
            obtain ⟨⟨e0, e1, e2, e3, e4⟩, ez⟩ := n5 (g2.blk KB.out)
            have f0 := frozen_of_row w2 (w.heap.size + 5) 0 _ _ (g2.blk KB.out)
            have f1 := frozen_of_row w2 (w.heap.size + 5) 1 _ _ (g2.blk KB.out)
            have f2 := frozen_of_row w2 (w.heap.size + 5) 2 _ _ (g2.blk KB.out)
            have f3 := frozen_of_row w2 (w.heap.size + 5) 3 _ _ (g2.blk KB.out)
            have f4 := frozen_of_row w2 (w.heap.size + 5) 4 _ _ (g2.blk KB.out)
            have KK := Lib.hid k
            clear p0 p1 p2 p3 p4 hpz q0 q1 q2 q3 hqz k ho hm g2
            go_wp2_with fail
            go_meet
            exact ⟨xa, xc, ya, yc, Y, _, _, rfl, rfl, rfl, rfl, KK.out⟩
          · have hx3' := hx3
            by_cases hx4 : x = 4
            · subst hx4
              have hR1 : retitleR s a t = ⟨S, N, E⟩ := by have h9 := HR.out; unfold act17R at h9; simpa using h9
              have hN : N = 0 := by have h9 := congrArg Res.n hR1; rw [show (retitleR s a t).n = 0 from resOf_n0 _ _] at h9; exact h9.symm
              have c := (retitle_any s _ _ a t V (HH.out.grow gV) HZ.out ht (HTB.out.below gV)).mono fun _ _ => RetC.one hR1
              unfold shelfV at c
              go_wp2_with fail
              refine c.mono ?_
              clear c
              rintro e w1 ⟨xa, xc, ya, yc, Y, rfl, ho, hm, g1⟩
              obtain ⟨k1, k2, k3, k4⟩ := both_one gV HB4.out (by omega) g1 ho
              obtain ⟨⟨e0, e1, e2, e3, e4⟩, ez⟩ := n5 (g1.blk HB4.out)
              have f0 := frozen_of_row w1 (w.heap.size + 4) 0 _ _ (g1.blk HB4.out)
              have f1 := frozen_of_row w1 (w.heap.size + 4) 1 _ _ (g1.blk HB4.out)
              have f2 := frozen_of_row w1 (w.heap.size + 4) 2 _ _ (g1.blk HB4.out)
              have f3 := frozen_of_row w1 (w.heap.size + 4) 3 _ _ (g1.blk HB4.out)
              have f4 := frozen_of_row w1 (w.heap.size + 4) 4 _ _ (g1.blk HB4.out)
              unfold set5w at k1 k2 k3 k4
              clear p0 p1 p2 p3 p4 hpz q0 q1 q2 q3 hqz
              go_upto_region 19 with (fail)
              generalize ((((w1.setCell ⟨w.heap.size + 4, 0, none⟩ (.int .i64 S.nb)).setCell ⟨w.heap.size + 4, 1, none⟩ (.int .i64 S.nn)).setCell ⟨w.heap.size + 4, 2, none⟩ (.int .i64 S.ns)).setCell ⟨w.heap.size + 4, 3, none⟩ (.slice xa S.books.length xc)).setCell ⟨w.heap.size + 4, 4, none⟩ (.slice ya S.notes.length yc) = W1 at *
              have KA := Lib.hid k1
              have KG := Lib.hid k2
              have KO := Lib.hid k3
              have KB0 := Lib.hid (k4 _ _ (by omega) HB0.out)
              have KB1 := Lib.hid (k4 _ _ (by omega) HB1.out)
              have KB := Lib.hid (k4 _ _ (by omega) HB5.out)
              have KC := Lib.hid (k4 _ _ (by omega) HB2.out)
              have KD := Lib.hid (k4 _ _ (by omega) HB3.out)
              have KM := Lib.hid hm
              clear k1 k2 k3 k4 ho hm g1 e0 e1 e2 e3 e4 ez f0 f1 f2 f3 f4
              obtain ⟨⟨p0, p1, p2, p3, p4⟩, hpz⟩ := n5 KB0.out
              obtain ⟨⟨q0, q1, q2, q3⟩, hqz⟩ := n4 KB1.out
              have c := (refRetitle_any s _ _ a t W1 (HH.out.grow KG.out) HZ.out ht (HTB.out.below KG.out)).mono fun _ _ => RetC.one hR1
              unfold shelfV at c
              go_wp2_with fail
              refine c.mono ?_
              clear c
              rintro e w2 ⟨xa2, xc2, ya2, yc2, Y2, rfl, ho, hm, g2⟩
              have k := both_two (A := w.heap.size + 4) (B := w.heap.size + 5) (C := w.heap.size + 2) (D := w.heap.size + 3) KG.out KA.out KB.out KC.out KD.out (by omega) ⟨by omega, by omega, by omega⟩ KO.out KM.out g2 ho hm
              obtain ⟨⟨e0, e1, e2, e3, e4⟩, ez⟩ := n5 (g2.blk KB.out)
              have f0 := frozen_of_row w2 (w.heap.size + 5) 0 _ _ (g2.blk KB.out)
              have f1 := frozen_of_row w2 (w.heap.size + 5) 1 _ _ (g2.blk KB.out)
              have f2 := frozen_of_row w2 (w.heap.size + 5) 2 _ _ (g2.blk KB.out)
              have f3 := frozen_of_row w2 (w.heap.size + 5) 3 _ _ (g2.blk KB.out)
              have f4 := frozen_of_row w2 (w.heap.size + 5) 4 _ _ (g2.blk KB.out)
              have KK := Lib.hid k
              clear p0 p1 p2 p3 p4 hpz q0 q1 q2 q3 hqz k ho hm g2
              go_wp2_with fail
              go_meet
              exact ⟨xa, xc, ya, yc, Y, _, _, by rw [hN], by rw [hN], rfl, rfl, KK.out⟩
            · have hx4' := hx4
              by_cases hx5 : x = 5
              · subst hx5
                have hR1 : moveR s a b = ⟨S, N, E⟩ := by have h9 := HR.out; unfold act17R at h9; simpa using h9
                have hN : N = 0 := by have h9 := congrArg Res.n hR1; rw [show (moveR s a b).n = 0 from resOf_n0 _ _] at h9; exact h9.symm
                have c := (move_any s _ _ a b V (HH.out.grow gV) HZ.out (HTB.out.below gV)).mono fun _ _ => RetC.one hR1
                unfold shelfV at c
                go_wp2_with fail
                refine c.mono ?_
                clear c
                rintro e w1 ⟨xa, xc, ya, yc, Y, rfl, ho, hm, g1⟩
                obtain ⟨k1, k2, k3, k4⟩ := both_one gV HB4.out (by omega) g1 ho
                obtain ⟨⟨e0, e1, e2, e3, e4⟩, ez⟩ := n5 (g1.blk HB4.out)
                have f0 := frozen_of_row w1 (w.heap.size + 4) 0 _ _ (g1.blk HB4.out)
                have f1 := frozen_of_row w1 (w.heap.size + 4) 1 _ _ (g1.blk HB4.out)
                have f2 := frozen_of_row w1 (w.heap.size + 4) 2 _ _ (g1.blk HB4.out)
                have f3 := frozen_of_row w1 (w.heap.size + 4) 3 _ _ (g1.blk HB4.out)
                have f4 := frozen_of_row w1 (w.heap.size + 4) 4 _ _ (g1.blk HB4.out)
                unfold set5w at k1 k2 k3 k4
                clear p0 p1 p2 p3 p4 hpz q0 q1 q2 q3 hqz
                go_upto_region 22 with (fail)
                generalize ((((w1.setCell ⟨w.heap.size + 4, 0, none⟩ (.int .i64 S.nb)).setCell ⟨w.heap.size + 4, 1, none⟩ (.int .i64 S.nn)).setCell ⟨w.heap.size + 4, 2, none⟩ (.int .i64 S.ns)).setCell ⟨w.heap.size + 4, 3, none⟩ (.slice xa S.books.length xc)).setCell ⟨w.heap.size + 4, 4, none⟩ (.slice ya S.notes.length yc) = W1 at *
                have KA := Lib.hid k1
                have KG := Lib.hid k2
                have KO := Lib.hid k3
                have KB0 := Lib.hid (k4 _ _ (by omega) HB0.out)
                have KB1 := Lib.hid (k4 _ _ (by omega) HB1.out)
                have KB := Lib.hid (k4 _ _ (by omega) HB5.out)
                have KC := Lib.hid (k4 _ _ (by omega) HB2.out)
                have KD := Lib.hid (k4 _ _ (by omega) HB3.out)
                have KM := Lib.hid hm
                clear k1 k2 k3 k4 ho hm g1 e0 e1 e2 e3 e4 ez f0 f1 f2 f3 f4
                obtain ⟨⟨p0, p1, p2, p3, p4⟩, hpz⟩ := n5 KB0.out
                obtain ⟨⟨q0, q1, q2, q3⟩, hqz⟩ := n4 KB1.out
                have c := (refMove_any s _ _ a b W1 (HH.out.grow KG.out) HZ.out (HTB.out.below KG.out)).mono fun _ _ => RetC.one hR1
                unfold shelfV at c
                go_wp2_with fail
                refine c.mono ?_
                clear c
                rintro e w2 ⟨xa2, xc2, ya2, yc2, Y2, rfl, ho, hm, g2⟩
                have k := both_two (A := w.heap.size + 4) (B := w.heap.size + 5) (C := w.heap.size + 2) (D := w.heap.size + 3) KG.out KA.out KB.out KC.out KD.out (by omega) ⟨by omega, by omega, by omega⟩ KO.out KM.out g2 ho hm
                obtain ⟨⟨e0, e1, e2, e3, e4⟩, ez⟩ := n5 (g2.blk KB.out)
                have f0 := frozen_of_row w2 (w.heap.size + 5) 0 _ _ (g2.blk KB.out)
                have f1 := frozen_of_row w2 (w.heap.size + 5) 1 _ _ (g2.blk KB.out)
                have f2 := frozen_of_row w2 (w.heap.size + 5) 2 _ _ (g2.blk KB.out)
                have f3 := frozen_of_row w2 (w.heap.size + 5) 3 _ _ (g2.blk KB.out)
                have f4 := frozen_of_row w2 (w.heap.size + 5) 4 _ _ (g2.blk KB.out)
                have KK := Lib.hid k
                clear p0 p1 p2 p3 p4 hpz q0 q1 q2 q3 hqz k ho hm g2
                go_wp2_with fail
                go_meet
                exact ⟨xa, xc, ya, yc, Y, _, _, by rw [hN], by rw [hN], rfl, rfl, KK.out⟩
              · have hx5' := hx5
                by_cases hx6 : x = 6
                · subst hx6
                  have hR1 : discardR s a = ⟨S, N, E⟩ := by have h9 := HR.out; unfold act17R at h9; simpa using h9
                  have hN : N = 0 := by have h9 := congrArg Res.n hR1; rw [show (discardR s a).n = 0 from resOf_n0 _ _] at h9; exact h9.symm
                  have c := (discard_any s _ _ a V (HH.out.grow gV) HZ.out (HTB.out.below gV)).mono fun _ _ => RetC.one hR1
                  unfold shelfV at c
                  go_wp2_with fail
                  refine c.mono ?_
                  clear c
                  rintro e w1 ⟨xa, xc, ya, yc, Y, rfl, ho, hm, g1⟩
                  obtain ⟨k1, k2, k3, k4⟩ := both_one gV HB4.out (by omega) g1 ho
                  obtain ⟨⟨e0, e1, e2, e3, e4⟩, ez⟩ := n5 (g1.blk HB4.out)
                  have f0 := frozen_of_row w1 (w.heap.size + 4) 0 _ _ (g1.blk HB4.out)
                  have f1 := frozen_of_row w1 (w.heap.size + 4) 1 _ _ (g1.blk HB4.out)
                  have f2 := frozen_of_row w1 (w.heap.size + 4) 2 _ _ (g1.blk HB4.out)
                  have f3 := frozen_of_row w1 (w.heap.size + 4) 3 _ _ (g1.blk HB4.out)
                  have f4 := frozen_of_row w1 (w.heap.size + 4) 4 _ _ (g1.blk HB4.out)
                  unfold set5w at k1 k2 k3 k4
                  clear p0 p1 p2 p3 p4 hpz q0 q1 q2 q3 hqz
                  go_upto_region 25 with (fail)
                  generalize ((((w1.setCell ⟨w.heap.size + 4, 0, none⟩ (.int .i64 S.nb)).setCell ⟨w.heap.size + 4, 1, none⟩ (.int .i64 S.nn)).setCell ⟨w.heap.size + 4, 2, none⟩ (.int .i64 S.ns)).setCell ⟨w.heap.size + 4, 3, none⟩ (.slice xa S.books.length xc)).setCell ⟨w.heap.size + 4, 4, none⟩ (.slice ya S.notes.length yc) = W1 at *
                  have KA := Lib.hid k1
                  have KG := Lib.hid k2
                  have KO := Lib.hid k3
                  have KB0 := Lib.hid (k4 _ _ (by omega) HB0.out)
                  have KB1 := Lib.hid (k4 _ _ (by omega) HB1.out)
                  have KB := Lib.hid (k4 _ _ (by omega) HB5.out)
                  have KC := Lib.hid (k4 _ _ (by omega) HB2.out)
                  have KD := Lib.hid (k4 _ _ (by omega) HB3.out)
                  have KM := Lib.hid hm
                  clear k1 k2 k3 k4 ho hm g1 e0 e1 e2 e3 e4 ez f0 f1 f2 f3 f4
                  obtain ⟨⟨p0, p1, p2, p3, p4⟩, hpz⟩ := n5 KB0.out
                  obtain ⟨⟨q0, q1, q2, q3⟩, hqz⟩ := n4 KB1.out
                  have c := (refDiscard_any s _ _ a W1 (HH.out.grow KG.out) HZ.out (HTB.out.below KG.out)).mono fun _ _ => RetC.one hR1
                  unfold shelfV at c
                  go_wp2_with fail
                  refine c.mono ?_
                  clear c
                  rintro e w2 ⟨xa2, xc2, ya2, yc2, Y2, rfl, ho, hm, g2⟩
                  have k := both_two (A := w.heap.size + 4) (B := w.heap.size + 5) (C := w.heap.size + 2) (D := w.heap.size + 3) KG.out KA.out KB.out KC.out KD.out (by omega) ⟨by omega, by omega, by omega⟩ KO.out KM.out g2 ho hm
                  obtain ⟨⟨e0, e1, e2, e3, e4⟩, ez⟩ := n5 (g2.blk KB.out)
                  have f0 := frozen_of_row w2 (w.heap.size + 5) 0 _ _ (g2.blk KB.out)
                  have f1 := frozen_of_row w2 (w.heap.size + 5) 1 _ _ (g2.blk KB.out)
                  have f2 := frozen_of_row w2 (w.heap.size + 5) 2 _ _ (g2.blk KB.out)
                  have f3 := frozen_of_row w2 (w.heap.size + 5) 3 _ _ (g2.blk KB.out)
                  have f4 := frozen_of_row w2 (w.heap.size + 5) 4 _ _ (g2.blk KB.out)
                  have KK := Lib.hid k
                  clear p0 p1 p2 p3 p4 hpz q0 q1 q2 q3 hqz k ho hm g2
                  go_wp2_with fail
                  go_meet
                  exact ⟨xa, xc, ya, yc, Y, _, _, by rw [hN], by rw [hN], rfl, rfl, KK.out⟩
                · have hx6' := hx6
                  have hR1 : (⟨zS, 0, 0⟩ : Res) = ⟨S, N, E⟩ := by have h9 := HR.out; unfold act17R at h9; rw [if_neg hx0, if_neg hx1, if_neg hx2, if_neg hx3, if_neg hx4, if_neg hx5, if_neg hx6] at h9; exact h9
                  obtain ⟨rfl, rfl, rfl⟩ : zS = S ∧ (0 : Int) = N ∧ (0 : Int) = E := by injection hR1 with h1 h2 h3; exact ⟨h1, h2, h3⟩
                  go_wp2_with fail
                  go_meet
                  exact ⟨none, 0, none, 0, [], _, _, rfl, rfl, rfl, rfl, ⟨gV, HB4.out, HB5.out, HB2.out, HB3.out, OwnS.nil, rfl, ⟨Reads.nil, Reads.nil⟩⟩⟩
  case rest =>
    obtain ⟨xa, xc, ya, yc, Y, b2, n2, rfl, rfl, rfl, rfl, hb⟩ := hcut
    generalize wc = W at *
    have HB := Lib.hid hb
    have HEN := Lib.hid hb.ends
    have HRS := Lib.hid (own_shelf hb.own hb.map)
    obtain ⟨b2a, b2c, eb2⟩ := hb.two.1.mk
    obtain ⟨n2a, n2c, en2⟩ := hb.two.2.mk
    subst eb2 en2
    have HR2 := Lib.hid hb.two
    obtain ⟨⟨p0, p1, p2, p3, p4⟩, hpz⟩ := n5 hb.a
    obtain ⟨⟨q0, q1, q2, q3, q4⟩, hqz⟩ := n5 hb.b
    obtain ⟨⟨c0, c1', c2', c3, c4⟩, hcz⟩ := n5 hb.c
    have HMAP := Lib.hid hb.map
    have cS := fun W' (g : Grow W W') => sameShelf_any S S _ _ _ _ W' (HRS.out.grow g) (HR2.out.grow g) HTS.out.1
    simp only [rsame] at cS
    have cNu := numOf_any E
    have hee : (E == E) = true := beq_self_eq_true E
    have hnn : (N == N) = true := beq_self_eq_true N
    unfold shelfV at cS
    obtain ⟨⟨d0, d1, d2, d3, d4⟩, hdz⟩ := n5 hb.d
    have fc0 := frozen_of_row W (w.heap.size + 2) 0 _ _ hb.c
    have fc1 := frozen_of_row W (w.heap.size + 2) 1 _ _ hb.c
    have fc2 := frozen_of_row W (w.heap.size + 2) 2 _ _ hb.c
    have fc3 := frozen_of_row W (w.heap.size + 2) 3 _ _ hb.c
    have fc4 := frozen_of_row W (w.heap.size + 2) 4 _ _ hb.c
    have fd0 := frozen_of_row W (w.heap.size + 3) 0 _ _ hb.d
    have fd1 := frozen_of_row W (w.heap.size + 3) 1 _ _ hb.d
    have fd2 := frozen_of_row W (w.heap.size + 3) 2 _ _ hb.d
    have fd3 := frozen_of_row W (w.heap.size + 3) 3 _ _ hb.d
    have fd4 := frozen_of_row W (w.heap.size + 3) 4 _ _ hb.d
    clear hb
    have key : ∀ W', Grow W W' → W'.cell? ⟨w.heap.size + 4, 0, none⟩ = some (.int .i64 S.nb) ∧ W'.cell? ⟨w.heap.size + 4, 1, none⟩ = some (.int .i64 S.nn) ∧ W'.cell? ⟨w.heap.size + 4, 2, none⟩ = some (.int .i64 S.ns) ∧ W'.cell? ⟨w.heap.size + 4, 3, none⟩ = some (.slice xa S.books.length xc) ∧ W'.cell? ⟨w.heap.size + 4, 4, none⟩ = some (.slice ya S.notes.length yc) ∧ W'.cell? ⟨w.heap.size + 5, 0, none⟩ = some (.int .i64 S.nb) ∧ W'.cell? ⟨w.heap.size + 5, 1, none⟩ = some (.int .i64 S.nn) ∧ W'.cell? ⟨w.heap.size + 5, 2, none⟩ = some (.int .i64 S.ns) ∧ W'.cell? ⟨w.heap.size + 5, 3, none⟩ = some (.slice b2a S.books.length b2c) ∧ W'.cell? ⟨w.heap.size + 5, 4, none⟩ = some (.slice n2a S.notes.length n2c) := fun W' gW => by
      obtain ⟨⟨p0, p1, p2, p3, p4⟩, -⟩ := n5 (gW.blk HB.out.a)
      obtain ⟨⟨q0, q1, q2, q3, q4⟩, -⟩ := n5 (gW.blk HB.out.b)
      exact ⟨p0, p1, p2, p3, p4, q0, q1, q2, q3, q4⟩
    have HK := Lib.hid key
    have s0 := key _ (Grow.refl W).drew
    clear key
    go_wp2_with fail
    go_region_held3 (fun w' => w'.cell? ⟨w.heap.size + 4, 0, none⟩ = some (.int .i64 S.nb) ∧ w'.cell? ⟨w.heap.size + 4, 1, none⟩ = some (.int .i64 S.nn) ∧ w'.cell? ⟨w.heap.size + 4, 2, none⟩ = some (.int .i64 S.ns) ∧ w'.cell? ⟨w.heap.size + 4, 3, none⟩ = some (.slice xa S.books.length xc) ∧ w'.cell? ⟨w.heap.size + 4, 4, none⟩ = some (.slice ya S.notes.length yc) ∧ w'.cell? ⟨w.heap.size + 5, 0, none⟩ = some (.int .i64 S.nb) ∧ w'.cell? ⟨w.heap.size + 5, 1, none⟩ = some (.int .i64 S.nn) ∧ w'.cell? ⟨w.heap.size + 5, 2, none⟩ = some (.int .i64 S.ns) ∧ w'.cell? ⟨w.heap.size + 5, 3, none⟩ = some (.slice b2a S.books.length b2c) ∧ w'.cell? ⟨w.heap.size + 5, 4, none⟩ = some (.slice n2a S.notes.length n2c))
      (first | with_reducible exact s1 | with_reducible exact s0 | (obtain ⟨z0, z1, z2, z3, z4, z5, z6, z7, z8, z9⟩ := s1; simp [go_sem, z0, z1, z2, z3, z4, z5, z6, z7, z8, z9]))
      (first
        | (go_at_call 19; refine (cNu _).mono ?_; rintro e w3 ⟨rfl, rfl⟩)
        | (go_at_call 24; refine (cS _ (Grow.refl W).drew).mono ?_; rintro e w3 ⟨rfl, g3⟩; have gx := Grow.trans (Grow.refl W).drew g3; have s1 := HK.out _ gx; obtain ⟨⟨t0, t1, t2, t3, t4⟩, tz⟩ := n5 (gx.blk HB.out.c); have gc0 := frozen_of_row w3 (w.heap.size + 2) 0 _ _ (gx.blk HB.out.c); have gc1 := frozen_of_row w3 (w.heap.size + 2) 1 _ _ (gx.blk HB.out.c); have gc2 := frozen_of_row w3 (w.heap.size + 2) 2 _ _ (gx.blk HB.out.c); have gc3 := frozen_of_row w3 (w.heap.size + 2) 3 _ _ (gx.blk HB.out.c); have gc4 := frozen_of_row w3 (w.heap.size + 2) 4 _ _ (gx.blk HB.out.c); obtain ⟨⟨v0, v1, v2, v3, v4⟩, vz⟩ := n5 (gx.blk HB.out.d); have gd0 := frozen_of_row w3 (w.heap.size + 3) 0 _ _ (gx.blk HB.out.d); have gd1 := frozen_of_row w3 (w.heap.size + 3) 1 _ _ (gx.blk HB.out.d); have gd2 := frozen_of_row w3 (w.heap.size + 3) 2 _ _ (gx.blk HB.out.d); have gd3 := frozen_of_row w3 (w.heap.size + 3) 3 _ _ (gx.blk HB.out.d); have gd4 := frozen_of_row w3 (w.heap.size + 3) 4 _ _ (gx.blk HB.out.d); have HE3 := Lib.hid (HEN.out.more gx)))
    all_goals
      go_wp2_with fail
      refine bodyPost_ret (v := .tuple #[.agg #[.int .i64 S.nb, .int .i64 S.nn, .int .i64 S.ns, .slice xa S.books.length xc, .slice ya S.notes.length yc], .agg #[.int .i64 S.nb, .int .i64 S.nn, .int .i64 S.ns, .slice b2a S.books.length b2c, .slice n2a S.notes.length n2c], .bool true]) ?_ rfl ?_
      · rw [results_cct (P := Tryz.prog) rfl]
        go_simp
      · have hfin : ∀ W', OwnE w (.slice xa S.books.length xc) (.slice ya S.notes.length yc) S.books Y [w.heap.size + 2, w.heap.size + 3] W' → RetB S w (.returned (.tuple #[.agg #[.int .i64 S.nb, .int .i64 S.nn, .int .i64 S.ns, .slice xa S.books.length xc, .slice ya S.notes.length yc], .agg #[.int .i64 S.nb, .int .i64 S.nn, .int .i64 S.ns, .slice b2a S.books.length b2c, .slice n2a S.notes.length n2c], .bool true])) W' := fun W' h => ⟨xa, xc, ya, yc, Y, _, _, _, _, rfl, h.2.1, HMAP.out, h.1⟩
        refine hfin _ ?_
        repeat' (first | with_reducible exact HE3.out | with_reducible refine OwnE.drew ?_ | with_reducible refine OwnE.set ?_ (by simp) (by omega) _ _)
end Go.Proofs.YtnajccljdjllgaaGreatDoor
set_option linter.unusedVariables false
set_option linter.unusedSimpArgs false
namespace Go.Proofs.YtnajccljdjllgaaGreatDoor
open Go.RowKit Go.Lib
instance : Inhabited ByteArray := ⟨⟨#[]⟩⟩
section
variable {H : Type} {enc : TypeId × Value → H} {P : Program} {w : World} {spare : Nat → Bool} {held : Bool}
theorem cells_get {a : Addr} {n : Nat} {cs : List Value} (h : w.cells? 0 a n = some cs) : cs.length = n ∧ ∀ (j : Nat) v, cs[j]? = some v → w.cell? (a.add j) = some v := by
  unfold World.cells? at h
  rw [if_pos (Nat.zero_le _)] at h
  have hl : cs.length = n := by simpa using mapM_some_length h
  refine ⟨hl, fun j v hv => ?_⟩
  obtain ⟨hj, _⟩ := List.getElem?_eq_some_iff.1 hv
  have := mapM_some_get h j j (by rw [List.getElem?_range (by omega)])
  rw [this, hv]
theorem slice_reads {α : Type} [Inhabited α] {R : World → α → List Value → Prop} {t e : TypeId} {k : Nat} (ht : P.underlying t = some (.slice e)) (hk : P.cellsOf e = k) (hk0 : 0 < k)
    (hE : ∀ n cs y, DataW.trod enc P w 0 spare held n e cs = some y → ∃ x : α, R w x cs) {fuel : Nat} {cs : List Value} {x : DataW H × List MemPlace} (h : DataW.trod enc P w 0 spare held fuel t cs = some x) :
    ∃ v l, cs = [v] ∧ Reads R k w v l ∧ l.length ≤ maxLen ∧ ∀ x ∈ l, ∃ cs', R w x cs' := by
  rcases DataW.trod_slice ht h with ⟨rfl, _⟩ | ⟨a, len, cap, elems, rest, n, _, rfl, -, -, hl, hm, hlen, hel, -⟩
  · exact ⟨_, [], rfl, Reads.nil, Nat.zero_le _, fun x hx => by cases hx⟩
  have hx : ∀ i, ∃ x : α, i < len → ∃ cs', w.cells? 0 (a.add (i * k)) k = some cs' ∧ R w x cs' := fun i => by
    by_cases hi : i < len
    · have h1 := hel i hi
      rw [hk, List.getElem?_eq_getElem (by omega)] at h1
      obtain ⟨cs', h2, h3⟩ := Option.bind_eq_some_iff.1 h1
      obtain ⟨x, hr⟩ := hE n cs' _ h3
      exact ⟨x, fun _ => ⟨cs', h2, hr⟩⟩
    · exact ⟨default, fun h => absurd h hi⟩
  obtain ⟨X, hX⟩ := Classical.axiomOfChoice hx
  refine ⟨_, (List.range len).map X, rfl, ⟨some a, cap, by simp, by simpa using hl, fun hp => ?_⟩, by simp; omega, fun x hx => ?_⟩
  rotate_left
  · obtain ⟨i, hi, rfl⟩ := List.mem_map.1 hx
    obtain ⟨cs', -, h2⟩ := hX i (List.mem_range.1 hi)
    exact ⟨cs', h2⟩
  have hp' : 0 < len := by simpa using hp
  obtain ⟨cs0, h0, -⟩ := hX 0 hp'
  obtain ⟨hl0, hc0⟩ := cells_get h0
  obtain ⟨v0, hv0⟩ : ∃ v, cs0[0]? = some v := ⟨_, List.getElem?_eq_getElem (by omega)⟩
  have g0 := hc0 0 v0 hv0
  have e0 : (a.add (0 * k)).add 0 = a := by simp [Addr.add]
  rw [e0] at g0
  have hsp := World.cell?_spot g0
  obtain ⟨b, off, spot⟩ := a
  simp only at hsp
  subst hsp
  refine ⟨b, off, rfl, World.block_lt_of_cell? w _ g0, fun i hi => ?_⟩
  have hi' : i < len := by simpa using hi
  obtain ⟨cs', h1, h2⟩ := hX i hi'
  obtain ⟨h3, h4⟩ := cells_get h1
  refine ⟨cs', h3, fun x hx => ?_, fun j v hj => ?_⟩
  · rw [List.getElem?_map, List.getElem?_range hi'] at hx
    injection hx with hx
    rw [← hx]; exact h2
  · have := h4 j v hj
    have e : ((⟨b, off, none⟩ : Addr).add (i * k)).add j = ⟨b, off + i * k + j, none⟩ := by
      unfold Addr.add; split <;> split <;> simp_all
    rwa [e] at this
theorem Reads.imp {α : Type} {R R' : World → α → List Value → Prop} {k : Nat} {v : Value} {l : List α} (hR : ∀ x cs, R w x cs → R' w x cs) (h : Reads R k w v l) : Reads R' k w v l := by
  obtain ⟨a, c, e, hc, h⟩ := h
  exact ⟨a, c, e, hc, h.imp fun i hi cs hr x hx => hR x cs (hr x hx)⟩
end
set_option maxRecDepth 100000 in
theorem wf_inv {n : Int} (h : (Lit.int .i64 n).wf = true) : Wf n := by
  unfold Lit.wf at h
  have e1 : IntKind.i64.min = -9223372036854775808 := rfl
  simp at h
  rw [e1] at h
  exact h
/-- A slice that is an argument. -/
theorem slice_arg {α : Type} [Inhabited α] {H : Type} {enc : TypeId × Value → H} {P : Program} {w : World} {spare : Nat → Bool} {held : Bool} {R : World → α → List Value → Prop} {t e : TypeId} {k : Nat} (ht : P.underlying t = some (.slice e)) (hk : P.cellsOf e = k) (hk0 : 0 < k)
    (hE : ∀ n cs y, DataW.trod enc P w 0 spare held n e cs = some y → ∃ x : α, R w x cs) {v : Value} {d : DataW H} {ps : List MemPlace} {r : Reach} {b0 : Nat} (hv : Value.okWide P w r b0 t v) (h : DataW.Trod enc P w 0 spare held t v d ps) :
    ∃ l, Reads R k w v l ∧ l.length ≤ maxLen ∧ ∀ x ∈ l, ∃ cs', R w x cs' := by
  obtain ⟨a, len, cap, rfl⟩ := Go.WideShapes.okWide_slice ht hv
  obtain ⟨fuel, hf⟩ := h
  obtain ⟨v, l, e, h1, h2, h3⟩ := slice_reads ht hk hk0 hE hf
  have e' : [Value.slice a len cap] = [v] := e
  injection e' with e'
  subst e'
  exact ⟨l, h1, h2, h3⟩
end Go.Proofs.YtnajccljdjllgaaGreatDoor
set_option linter.unusedVariables false
set_option linter.unusedSimpArgs false
namespace Go.Proofs.YtnajccljdjllgaaGreatDoor
open Go.RowKit Go.Lib
section
variable {H : Type} {enc : TypeId × Value → H} {w : World} {spare : Nat → Bool} {held : Bool}
theorem cI : Tryz.prog.cellsOf 3 = 1 := by kernel_rfl
theorem cS : Tryz.prog.cellsOf 9 = 1 := by kernel_rfl
theorem cBs : Tryz.prog.cellsOf 22 = 1 := by kernel_rfl
theorem cNs : Tryz.prog.cellsOf 23 = 1 := by kernel_rfl
theorem cTs : Tryz.prog.cellsOf 43 = 1 := by kernel_rfl
theorem cIs : Tryz.prog.cellsOf 44 = 1 := by kernel_rfl
theorem cB : Tryz.prog.cellsOf 58 = 2 := by kernel_rfl
theorem cN : Tryz.prog.cellsOf 46 = 5 := by kernel_rfl
theorem cH : Tryz.prog.cellsOf 25 = 5 := by kernel_rfl
set_option maxRecDepth 100000 in
theorem texts_read {fuel : Nat} {cs : List Value} {x : DataW H × List MemPlace} (h : DataW.trod enc Tryz.prog w 0 spare held fuel 43 cs = some x) : ∃ v l, cs = [v] ∧ Texts w v l ∧ l.length ≤ maxLen := by
  obtain ⟨v, l, h1, h2, h3, -⟩ := slice_reads (R := TextR) Tryz.underlying43 cS (by decide) (fun n cs y hy => by
    obtain ⟨s, rfl, -, -⟩ := DataW.trod_string Tryz.underlying9 hy
    exact ⟨s, rfl⟩) h
  exact ⟨v, l, h1, h2, h3⟩
set_option maxRecDepth 100000 in
theorem ints_read {fuel : Nat} {cs : List Value} {x : DataW H × List MemPlace} (h : DataW.trod enc Tryz.prog w 0 spare held fuel 44 cs = some x) : ∃ v l, cs = [v] ∧ Ints w v l ∧ l.length ≤ maxLen ∧ ∀ y ∈ l, Wf y := by
  obtain ⟨v, l, h1, h2, h3, h4⟩ := slice_reads (R := fun w x cs => IntR w x cs ∧ Wf x) Tryz.underlying44 cI (by decide) (fun n cs y hy => by
    obtain ⟨s, rfl, -, hw⟩ := DataW.trod_int Tryz.underlying3 hy
    exact ⟨s, rfl, wf_inv hw⟩) h
  exact ⟨v, l, h1, h2.imp (fun x cs h => h.1), h3, fun y hy => by obtain ⟨_, _, h⟩ := h4 y hy; exact h⟩
set_option maxRecDepth 100000 in
theorem book_read {fuel : Nat} {cs : List Value} {x : DataW H × List MemPlace} (h : DataW.trod enc Tryz.prog w 0 spare held fuel 58 cs = some x) : ∃ b : Book, BookR w b cs := by
  obtain ⟨xs, m, -, -, hl, hlen, hf⟩ := DataW.trod_struct Tryz.underlying58 h
  rw [cB] at hl
  match cs, hl with
  | [u0, u1], _ =>
    have h0 := hf 0 _ rfl
    have h1 := hf 1 _ rfl
    change DataW.trod enc Tryz.prog w 0 spare held m 3 (([u0, u1].drop 0).take (Tryz.prog.cellsOf 3)) = _ at h0
    change DataW.trod enc Tryz.prog w 0 spare held m 9 (([u0, u1].drop 1).take (Tryz.prog.cellsOf 9)) = _ at h1
    rw [cI, List.getElem?_eq_getElem (by rw [hlen]; decide)] at h0
    rw [cS, List.getElem?_eq_getElem (by rw [hlen]; decide)] at h1
    obtain ⟨n, e0, -, -⟩ := DataW.trod_int Tryz.underlying3 h0
    obtain ⟨s, e1, -, -⟩ := DataW.trod_string Tryz.underlying9 h1
    refine ⟨⟨n, s⟩, ?_⟩
    have e0' : [u0] = [Value.int .i64 n] := e0
    have e1' : [u1] = [Value.string s] := e1
    unfold BookR
    injection e0' with e0'
    injection e1' with e1'
    rw [e0', e1']
def NoteG (w : World) (x : Note) (cs : List Value) : Prop := NoteR w x cs ∧ x.tags.length ≤ maxLen ∧ ∀ y ∈ x.sheets, Wf y
set_option maxRecDepth 100000 in
theorem note_read {fuel : Nat} {cs : List Value} {x : DataW H × List MemPlace} (h : DataW.trod enc Tryz.prog w 0 spare held fuel 46 cs = some x) : ∃ b : Note, NoteG w b cs := by
  obtain ⟨xs, m, -, -, hl, hlen, hf⟩ := DataW.trod_struct Tryz.underlying46 h
  rw [cN] at hl
  match cs, hl with
  | [u0, u1, u2, u3, u4], _ =>
    have h0 := hf 0 _ rfl
    have h1 := hf 1 _ rfl
    have h2 := hf 2 _ rfl
    have h3 := hf 3 _ rfl
    have h4 := hf 4 _ rfl
    change DataW.trod enc Tryz.prog w 0 spare held m 3 (([u0, u1, u2, u3, u4].drop 0).take (Tryz.prog.cellsOf 3)) = _ at h0
    change DataW.trod enc Tryz.prog w 0 spare held m 3 (([u0, u1, u2, u3, u4].drop 1).take (Tryz.prog.cellsOf 3)) = _ at h1
    change DataW.trod enc Tryz.prog w 0 spare held m 9 (([u0, u1, u2, u3, u4].drop 2).take (Tryz.prog.cellsOf 9)) = _ at h2
    change DataW.trod enc Tryz.prog w 0 spare held m 43 (([u0, u1, u2, u3, u4].drop 3).take (Tryz.prog.cellsOf 43)) = _ at h3
    change DataW.trod enc Tryz.prog w 0 spare held m 44 (([u0, u1, u2, u3, u4].drop 4).take (Tryz.prog.cellsOf 44)) = _ at h4
    rw [cI, List.getElem?_eq_getElem (by rw [hlen]; decide)] at h0 h1
    rw [cS, List.getElem?_eq_getElem (by rw [hlen]; decide)] at h2
    rw [cTs, List.getElem?_eq_getElem (by rw [hlen]; decide)] at h3
    rw [cIs, List.getElem?_eq_getElem (by rw [hlen]; decide)] at h4
    obtain ⟨n, e0, -, -⟩ := DataW.trod_int Tryz.underlying3 h0
    obtain ⟨k, e1, -, -⟩ := DataW.trod_int Tryz.underlying3 h1
    obtain ⟨s, e2, -, -⟩ := DataW.trod_string Tryz.underlying9 h2
    obtain ⟨tv, tl, e3, ht, htl⟩ := texts_read h3
    obtain ⟨sv, sl, e4, hs, hsl, hw⟩ := ints_read h4
    have e0' : [u0] = [Value.int .i64 n] := e0
    have e1' : [u1] = [Value.int .i64 k] := e1
    have e2' : [u2] = [Value.string s] := e2
    have e3' : [u3] = [tv] := e3
    have e4' : [u4] = [sv] := e4
    injection e0' with e0'
    injection e1' with e1'
    injection e2' with e2'
    injection e3' with e3'
    injection e4' with e4'
    subst e0' e1' e2' e3' e4'
    exact ⟨⟨n, k, s, tl, sl⟩, ⟨_, _, rfl, ht, hs⟩, htl, hw⟩
set_option maxRecDepth 100000 in
/-- What an argument that is a shelf gives. -/
theorem shelf_read {fuel : Nat} {v : Value} {x : DataW H × List MemPlace} (hv : ∃ cs, v = .agg cs) (h : DataW.trod enc Tryz.prog w 0 spare held fuel 25 v.cells.toList = some x) :
    ∃ (s : Shelf) (bv nv : Value), v = shelfV s bv nv ∧ ShelfR w s bv nv ∧ s.books.length ≤ maxLen ∧ s.notes.length ≤ maxLen ∧ (∀ n ∈ s.notes, n.tags.length ≤ maxLen) ∧ (∀ n ∈ s.notes, ∀ y ∈ n.sheets, Wf y) ∧ Wf s.nb ∧ Wf s.nn ∧ Wf s.ns := by
  obtain ⟨cs, rfl⟩ := hv
  obtain ⟨xs, m, -, -, hl, hlen, hf⟩ := DataW.trod_struct Tryz.underlying25 h
  rw [cH] at hl
  have hcs : (Value.agg cs).cells.toList = cs.toList := rfl
  rw [hcs] at hl hf
  obtain ⟨cs⟩ := cs
  match cs, hl with
  | [u0, u1, u2, u3, u4], _ =>
    have h0 := hf 0 _ rfl
    have h1 := hf 1 _ rfl
    have h2 := hf 2 _ rfl
    have h3 := hf 3 _ rfl
    have h4 := hf 4 _ rfl
    change DataW.trod enc Tryz.prog w 0 spare held m 3 (([u0, u1, u2, u3, u4].drop 0).take (Tryz.prog.cellsOf 3)) = _ at h0
    change DataW.trod enc Tryz.prog w 0 spare held m 3 (([u0, u1, u2, u3, u4].drop 1).take (Tryz.prog.cellsOf 3)) = _ at h1
    change DataW.trod enc Tryz.prog w 0 spare held m 3 (([u0, u1, u2, u3, u4].drop 2).take (Tryz.prog.cellsOf 3)) = _ at h2
    change DataW.trod enc Tryz.prog w 0 spare held m 22 (([u0, u1, u2, u3, u4].drop 3).take (Tryz.prog.cellsOf 22)) = _ at h3
    change DataW.trod enc Tryz.prog w 0 spare held m 23 (([u0, u1, u2, u3, u4].drop 4).take (Tryz.prog.cellsOf 23)) = _ at h4
    rw [cI, List.getElem?_eq_getElem (by rw [hlen]; decide)] at h0 h1 h2
    rw [cBs, List.getElem?_eq_getElem (by rw [hlen]; decide)] at h3
    rw [cNs, List.getElem?_eq_getElem (by rw [hlen]; decide)] at h4
    obtain ⟨n, e0, -, w0⟩ := DataW.trod_int Tryz.underlying3 h0
    obtain ⟨k, e1, -, w1⟩ := DataW.trod_int Tryz.underlying3 h1
    obtain ⟨q, e2, -, w2⟩ := DataW.trod_int Tryz.underlying3 h2
    obtain ⟨bv, bl, e3, hb, hbl, -⟩ := slice_reads (R := BookR) Tryz.underlying22 cB (by decide) (fun _ _ _ hy => book_read hy) h3
    obtain ⟨nv, nl, e4, hn, hnl, hng⟩ := slice_reads (R := NoteG) Tryz.underlying23 cN (by decide) (fun _ _ _ hy => note_read hy) h4
    have e0' : [u0] = [Value.int .i64 n] := e0
    have e1' : [u1] = [Value.int .i64 k] := e1
    have e2' : [u2] = [Value.int .i64 q] := e2
    have e3' : [u3] = [bv] := e3
    have e4' : [u4] = [nv] := e4
    injection e0' with e0'
    injection e1' with e1'
    injection e2' with e2'
    injection e3' with e3'
    injection e4' with e4'
    subst e0' e1' e2' e3' e4'
    exact ⟨⟨n, k, q, bl, nl⟩, _, _, rfl, ⟨hb, hn.imp (fun x cs h => h.1)⟩, hbl, hnl, fun x hx => by obtain ⟨_, _, h, _⟩ := hng x hx; exact h, fun x hx => by obtain ⟨_, _, _, h⟩ := hng x hx; exact h, wf_inv w0, wf_inv w1, wf_inv w2⟩
/-- A shelf that is an argument. -/
structure ShelfArg (w : World) (s : Shelf) (bv nv : Value) : Prop where
  rows : ShelfR w s bv nv
  ints : ∀ n ∈ s.notes, ∀ y ∈ n.sheets, Wf y
  tags : ∀ n ∈ s.notes, n.tags.length ≤ 9223372036854775807
  nums : Wf s.nb ∧ Wf s.nn ∧ Wf s.ns
set_option maxRecDepth 100000 in
theorem shelf_arg {v : Value} {d : DataW H} {ps : List MemPlace} {r : Reach} {b0 : Nat} (hv : Value.okWide Tryz.prog w r b0 25 v) (h : DataW.Trod enc Tryz.prog w 0 spare held 25 v d ps) :
    ∃ (s : Shelf) (bv nv : Value), v = shelfV s bv nv ∧ ShelfArg w s bv nv := by
  obtain ⟨cs, e, -⟩ := Go.WideShapes.okWide_struct Tryz.underlying25 hv
  obtain ⟨fuel, hf⟩ := h
  obtain ⟨s, bv, nv, h1, h2, -, -, h5, h6, h7, h8, h9⟩ := shelf_read ⟨cs, e⟩ hf
  exact ⟨s, bv, nv, h1, h2, h6, fun n hn => Nat.le_trans (h5 n hn) (by decide), h7, h8, h9⟩
end
end Go.Proofs.YtnajccljdjllgaaGreatDoor
set_option linter.unusedVariables false
set_option linter.unusedSimpArgs false
namespace Go.Proofs.YtnajccljdjllgaaGreatDoor
open Go.RowKit Go.Lib
structure ActS where
  d : Int
  a : Int
  b : Int
  t : ByteArray
instance : Inhabited ActS := ⟨⟨0, 0, 0, ⟨#[]⟩⟩⟩
abbrev cellsActS (y : ActS) : List Value := [.int .i64 y.d, .int .i64 y.a, .int .i64 y.b, .string y.t]
def ActSR (_ : World) (y : ActS) (cs : List Value) : Prop := cs = cellsActS y
abbrev ActsS := Reads ActSR 4
theorem ActsS.grow {w W : World} {v : Value} {l : List ActS} (h : ActsS w v l) (g : Grow w W) : ActsS W v l := Reads.grow (w := w) (W := W) (fun _ _ h => h) h g
theorem ActsS.at {w : World} {a : Option Addr} {n c : Nat} {l : List ActS} (h : ActsS w (.slice a n c) l) {i : Nat} {y : ActS} (hx : l[i]? = some y) :
    ∃ b off, a = some ⟨b, off, none⟩ ∧ b < w.heap.size ∧ w.cell? ⟨b, off + i * 4, none⟩ = some (.int .i64 y.d) ∧ w.cell? ⟨b, off + i * 4 + 1, none⟩ = some (.int .i64 y.a) ∧ w.cell? ⟨b, off + i * 4 + 2, none⟩ = some (.int .i64 y.b) ∧ w.cell? ⟨b, off + i * 4 + 3, none⟩ = some (.string y.t) := by
  obtain ⟨b, off, e, hb, cs, h1, h2, h3⟩ := Reads.at h hx
  unfold ActSR at h2
  subst h2
  exact ⟨b, off, e, hb, h3 0 _ rfl, h3 1 _ rfl, h3 2 _ rfl, h3 3 _ rfl⟩
/-- Is there more than is gone through? -/
def greatA (most : Nat) (l : List ActS) : Bool := (decide (l.length ≤ most) && l.any fun x => decide (60 < x.t.size)) || decide (most < l.length)
theorem greatA_no {most : Nat} {l : List ActS} (h : greatA most l = false) : l.length ≤ most ∧ ∀ x ∈ l, x.t.size ≤ 60 := by
  unfold greatA at h
  rw [Bool.or_eq_false_iff, decide_eq_false_iff_not] at h
  have h1 : l.length ≤ most := by omega
  have h2 := h.1
  rw [decide_eq_true h1, Bool.true_and, List.any_eq_false] at h2
  exact ⟨h1, fun x hx => by have := h2 x hx; simp at this; omega⟩
set_option maxRecDepth 100000 in
set_option maxHeartbeats 1000000 in
theorem great17_any (v : Value) (l : List ActS) (m : Nat) (w : World) (h : ActsS w v l) (hm : m ≤ 1000) :
    Calls Tryz.prog 5 #[v, .int .i64 m] w fun e w' => e = .returned (.bool (greatA m l)) ∧ w' = w := by
  obtain ⟨a1, c1, rfl⟩ := h.mk
  have HH := Lib.hid h
  clear h
  go_enter Tryz.func5, Tryz.ntmps5
  go_wp2_with fail
  by_cases hl : l.length ≤ m
  · have hl' : (l.length : Int) ≤ m := by omega
    go_loop [5] (fun v5 => ∃ j : Nat, v5 = .int .i64 j ∧ j ≤ l.length ∧ ∀ (k : Nat) x, k < j → l[k]? = some x → x.t.size ≤ 60) (fun v5 => l.length - (intOf v5).toNat)
    case atStart => exact ⟨0, rfl, by omega, fun k x h => absurd h (by omega)⟩
    case round =>
      obtain ⟨j, rfl, hj, hall⟩ := hrel
      have HA := Lib.hid hall
      clear hall
      by_cases hlt : j < l.length
      · have hlt' : (j : Int) < l.length := by omega
        obtain ⟨x, hx, -⟩ := lt_get hlt
        obtain ⟨bb, off, rfl, hbb, -, -, -, p3⟩ := HH.out.at hx
        have HX := Lib.hid hx
        clear hx
        by_cases hp : 60 < x.t.size
        · have hp' : (60 : Int) < x.t.size := by omega
          have HR := Lib.hid (show greatA m l = true by unfold greatA; rw [decide_eq_true hl, Bool.true_and, List.any_eq_true.2 ⟨x, List.mem_of_getElem? HX.out, decide_eq_true hp⟩]; rfl)
          go_wp2_with fail
          go_ret
          exact ⟨ret_bool HR.out.symm, rfl⟩
        · have HP := Lib.hid hp
          have hp' : ¬ (60 : Int) < x.t.size := by omega
          go_wp2_with fail
          go_round
          case rel => exact ⟨j + 1, by go_num, by omega, fun k y hk hy => by
            rcases (by omega : k < j ∨ k = j) with h3 | rfl
            · exact HA.out k y h3 hy
            · rw [HX.out] at hy; injection hy with hy; rw [← hy]; have := HP.out; omega⟩
          case measure => simp [intOf]; omega
      · have hlt' : ¬ (j : Int) < l.length := by omega
        have hm2 : ¬ (m : Int) < l.length := by omega
        have HR := Lib.hid (show greatA m l = false by
          unfold greatA
          rw [decide_eq_false (show ¬ m < l.length by omega), Bool.or_false, Bool.and_eq_false_iff]
          exact .inr (List.any_eq_false.2 fun x hx => by
            obtain ⟨k, hk⟩ := List.getElem?_of_mem hx
            have := HA.out k x (by have := (List.getElem?_eq_some_iff.1 hk).1; omega) hk
            rw [decide_eq_true_eq]; omega))
        go_wp2_with fail
        go_ret
        exact ⟨ret_bool HR.out.symm, rfl⟩
  · have hl' : ¬ (l.length : Int) ≤ m := by omega
    have hm2 : (m : Int) < l.length := by omega
    have HR := Lib.hid (show greatA m l = true by unfold greatA; rw [decide_eq_true (show m < l.length by omega), Bool.or_true])
    go_loop [5] (fun v5 => v5 = .int .i64 0) (fun _ => 0)
    case atStart => exact rfl
    case round =>
      obtain rfl := hrel
      have h0 : 0 < l.length := by omega
      have h0' : (0 : Int) < l.length := by omega
      go_wp2_with fail
      go_ret
      exact ⟨ret_bool HR.out.symm, rfl⟩
section
variable {H : Type} {enc : TypeId × Value → H} {w : World} {spare : Nat → Bool} {held : Bool}
theorem cAs : Tryz.prog.cellsOf 27 = 4 := by kernel_rfl
set_option maxRecDepth 100000 in
theorem actS_read {fuel : Nat} {cs : List Value} {x : DataW H × List MemPlace} (h : DataW.trod enc Tryz.prog w 0 spare held fuel 27 cs = some x) : ∃ b : ActS, ActSR w b cs := by
  obtain ⟨xs, m, -, -, hl, hlen, hf⟩ := DataW.trod_struct Tryz.underlying27 h
  rw [cAs] at hl
  match cs, hl with
  | [u0, u1, u2, u3], _ =>
    have h0 := hf 0 _ rfl
    have h1 := hf 1 _ rfl
    have h2 := hf 2 _ rfl
    have h3 := hf 3 _ rfl
    change DataW.trod enc Tryz.prog w 0 spare held m 3 (([u0, u1, u2, u3].drop 0).take (Tryz.prog.cellsOf 3)) = _ at h0
    change DataW.trod enc Tryz.prog w 0 spare held m 3 (([u0, u1, u2, u3].drop 1).take (Tryz.prog.cellsOf 3)) = _ at h1
    change DataW.trod enc Tryz.prog w 0 spare held m 3 (([u0, u1, u2, u3].drop 2).take (Tryz.prog.cellsOf 3)) = _ at h2
    change DataW.trod enc Tryz.prog w 0 spare held m 9 (([u0, u1, u2, u3].drop 3).take (Tryz.prog.cellsOf 9)) = _ at h3
    rw [cI, List.getElem?_eq_getElem (by rw [hlen]; decide)] at h0 h1 h2
    rw [cS, List.getElem?_eq_getElem (by rw [hlen]; decide)] at h3
    obtain ⟨n0, e0, -, w0⟩ := DataW.trod_int Tryz.underlying3 h0
    obtain ⟨n1, e1, -, w1⟩ := DataW.trod_int Tryz.underlying3 h1
    obtain ⟨n2, e2, -, w2⟩ := DataW.trod_int Tryz.underlying3 h2
    obtain ⟨n3, e3, -, -⟩ := DataW.trod_string Tryz.underlying9 h3
    have e0' : [u0] = [Value.int .i64 n0] := e0
    have e1' : [u1] = [Value.int .i64 n1] := e1
    have e2' : [u2] = [Value.int .i64 n2] := e2
    have e3' : [u3] = [Value.string n3] := e3
    injection e0' with e0'
    injection e1' with e1'
    injection e2' with e2'
    injection e3' with e3'
    subst e0' e1' e2' e3'
    exact ⟨⟨n0, n1, n2, n3⟩, rfl⟩
set_option maxRecDepth 100000 in
theorem actsS_arg {v : Value} {d : DataW H} {ps : List MemPlace} {r : Reach} {b0 : Nat} (hv : Value.okWide Tryz.prog w r b0 30 v) (h : DataW.Trod enc Tryz.prog w 0 spare held 30 v d ps) :
    ∃ l, ActsS w v l ∧ l.length ≤ maxLen := by
  obtain ⟨l, h1, h2, -⟩ := slice_arg (R := ActSR) Tryz.underlying30 cAs (by decide) (fun _ _ _ hy => actS_read hy) hv h
  exact ⟨l, h1, h2⟩
set_option maxRecDepth 100000 in
theorem actS_arg {v : Value} {d : DataW H} {ps : List MemPlace} {r : Reach} {b0 : Nat} (hv : Value.okWide Tryz.prog w r b0 27 v) (h : DataW.Trod enc Tryz.prog w 0 spare held 27 v d ps) :
    ∃ y : ActS, v = .agg (cellsActS y).toArray := by
  obtain ⟨cs, e, -⟩ := Go.WideShapes.okWide_struct Tryz.underlying27 hv
  subst e
  obtain ⟨fuel, hh⟩ := h
  obtain ⟨b, hb⟩ := actS_read hh
  refine ⟨b, ?_⟩
  unfold ActSR at hb
  have : cs.toList = cellsActS b := hb
  rw [← this]
end
end Go.Proofs.YtnajccljdjllgaaGreatDoor
set_option linter.unusedVariables false
set_option linter.unusedSimpArgs false
namespace Go.Proofs.YtnajccljdjllgaaGreatDoor
open Go.RowKit Go.Lib
structure Item where
  id : Int
  name : ByteArray
instance : Inhabited Item := ⟨⟨0, ⟨#[]⟩⟩⟩
abbrev itemC (x : Item) : List Value := [.int .i64 x.id, .string x.name]
def itemV (x : Item) : Value := .agg #[.int .i64 x.id, .string x.name]
def ItemR (_ : World) (x : Item) (cs : List Value) : Prop := cs = itemC x
abbrev Items := Reads ItemR 2
/-- Three ways. -/
def cmpS (a b : ByteArray) : Int := if ltS a b then -1 else if ltS b a then 1 else 0
set_option maxRecDepth 100000 in
theorem nan_any (a : ByteArray) (w : World) : Calls Tryz.prog 102 #[.string a] w fun e w' => e = .returned (.bool false) ∧ w = w' := by
  go_enter Tryz.func102, Tryz.ntmps102
  go_wp2_with fail
  go_ret
  exact ⟨ret_bool (by simp), rfl⟩
set_option maxRecDepth 100000 in
theorem cmpS_any (a b : ByteArray) (w : World) : Calls Tryz.prog 79 #[.string a, .string b] w fun e w' => e = .returned (.int .i64 (cmpS a b)) ∧ w = w' := by
  have c1 := nan_any a
  have c2 := nan_any b
  cases h1 : ltS a b
  · have l1 : Op.bytesLess a.toList b.toList = false := h1
    cases h2 : ltS b a
    · have l2 : Op.bytesLess b.toList a.toList = false := h2
      have l3 : (a.toList == b.toList) = true := by rw [ltS_total h1 h2]; simp
      have HR := Lib.hid (show cmpS a b = 0 by unfold cmpS; rw [h1, h2]; rfl)
      clear h1 h2
      go_enter Tryz.func79, Tryz.ntmps79
      go_wp2_with fail
      refine (c1 _).mono ?_
      rintro e w1 ⟨rfl, rfl⟩
      go_wp2_with fail
      refine (c2 _).mono ?_
      rintro e w1 ⟨rfl, rfl⟩
      go_wp2_with fail
      go_ret
      exact ⟨ret_int HR.out.symm, rfl⟩
    · have l2 : Op.bytesLess b.toList a.toList = true := h2
      have l3 : (a.toList == b.toList) = false := by
        rw [beq_eq_false_iff_ne]
        intro e
        rw [eq_of_tl e, ltS_irrefl] at h2; cases h2
      have HR := Lib.hid (show cmpS a b = 1 by unfold cmpS; rw [h1, h2]; rfl)
      clear h1 h2
      go_enter Tryz.func79, Tryz.ntmps79
      go_wp2_with fail
      refine (c1 _).mono ?_
      rintro e w1 ⟨rfl, rfl⟩
      go_wp2_with fail
      refine (c2 _).mono ?_
      rintro e w1 ⟨rfl, rfl⟩
      go_wp2_with fail
      go_ret
      exact ⟨ret_int HR.out.symm, rfl⟩
  · have l1 : Op.bytesLess a.toList b.toList = true := h1
    have HR := Lib.hid (show cmpS a b = -1 by unfold cmpS; rw [h1]; rfl)
    clear h1
    go_enter Tryz.func79, Tryz.ntmps79
    go_wp2_with fail
    refine (c1 _).mono ?_
    rintro e w1 ⟨rfl, rfl⟩
    go_wp2_with fail
    refine (c2 _).mono ?_
    rintro e w1 ⟨rfl, rfl⟩
    go_wp2_with fail
    go_ret
    exact ⟨ret_int HR.out.symm, rfl⟩
end Go.Proofs.YtnajccljdjllgaaGreatDoor
set_option linter.unusedVariables false
set_option linter.unusedSimpArgs false
namespace Go.Proofs.YtnajccljdjllgaaGreatDoor
open Go.RowKit Go.Lib Go.Sort
/-- A block's cells are laid anew. -/
theorem mapB {base k n c b : Nat} {e : TypeId} {xs xs' : List Value} {w : World} (h : RowO base e k (.slice (some ⟨b, 0, none⟩) n (c + 1)) n xs w) (f : Array Value → Array Value) (hs : ∀ cs, (f cs).size = cs.size)
    (hx : ∀ cs : Array Value, cs.toList.take (n * k) = xs → n * k ≤ cs.size → (f cs).toList.take (n * k) = xs') (hl : xs'.length = n * k) :
    RowO base e k (.slice (some ⟨b, 0, none⟩) n (c + 1)) n xs' (mapBlock w b f) ∧ Turned b w (mapBlock w b f) := by
  have ht : Turned b w (mapBlock w b f) := ⟨rfl, rfl, rfl, by unfold mapBlock; simp, fun i _ hb => by unfold mapBlock; simp [Array.getElem?_modify, Ne.symm hb]⟩
  rcases h with ⟨h1, ⟨h2, -⟩ | ⟨g, cap, cur, e2, h3, h4, h5, h6, h7, h8⟩⟩ | ⟨-, -, a, e2⟩
  · cases h2
  · injection e2 with e2 e3 e4
    injection e2 with e2
    injection e2 with e2
    subst e2 e4
    have hm : n * k ≤ (c + 1) * k := Nat.mul_le_mul_right k h5
    refine ⟨.inl ⟨hl, .inr ⟨b, c + 1, f cur, rfl, h3, ?_, h5, h6, by rw [hs, h7], hx cur h8 (by omega)⟩⟩, ht⟩
    unfold mapBlock
    simp [Array.getElem?_modify, h4, onCells]
  · injection e2 with _ _ e2
    omega
theorem putCells_size {α : Type} [Inhabited α] (enc : α → Value) (off : Nat) (d : Array α) (c : Array Value) : (putCells enc off d c).size = c.size := by unfold putCells; simp
theorem putCells_take {α : Type} [Inhabited α] (enc : α → Value) (d : Array α) (c : Array Value) (h : d.size ≤ c.size) : (putCells enc 0 d c).toList.take d.size = d.toList.map enc := by
  apply List.ext_getElem?
  intro j
  rw [List.getElem?_take]
  by_cases hj : j < d.size
  · rw [if_pos hj, Array.getElem?_toList, List.getElem?_map, Array.getElem?_toList]
    unfold putCells
    rw [Array.getElem?_mapIdx, Array.getElem?_eq_getElem (by omega), Array.getElem?_eq_getElem hj]
    simp [hj]
  · rw [if_neg hj, List.getElem?_eq_none (by simp; omega)]
theorem grow_turned (b : Nat) (w : World) (os : Array Obj) : Turned b w (grow w os) := ⟨rfl, rfl, rfl, by unfold grow; simp, fun i hi _ => by unfold grow; exact Array.getElem?_append_left hi⟩
theorem ahead_turned (b : Nat) (w : World) (n : Nat) : Turned b w (Sort.ahead w n) := ⟨rfl, rfl, rfl, by simp, fun i hi _ => by simp⟩
/-- A row is laid anew by a sort. -/
theorem row_sorted {α : Type} [Inhabited α] (enc : α → Value) {base k n c b : Nat} {e : TypeId} {xs : List Value} {w : World} (h : RowO base e k (.slice (some ⟨b, 0, none⟩) n (c + 1)) n xs w) (hlt : b < w.heap.size) (d : Array α) (hd : d.size = n * k) (m : Nat) (os : Array Obj) :
    RowO base e k (.slice (some ⟨b, 0, none⟩) n (c + 1)) n (d.toList.map enc) (grow (putRow enc (Sort.ahead w m) b 0 d) os) ∧ Turned b w (grow (putRow enc (Sort.ahead w m) b 0 d) os) := by
  have t0 := ahead_turned b w m
  have h0 : RowO base e k (.slice (some ⟨b, 0, none⟩) n (c + 1)) n xs (Sort.ahead w m) := h.kept_of fun g _ => by simp
  obtain ⟨h1, t1⟩ := mapB (xs' := d.toList.map enc) h0 (putCells enc 0 d) (putCells_size enc 0 d) (fun cs _ hc => by rw [← hd]; exact putCells_take enc d cs (by omega)) (by simp [hd])
  have t2 := grow_turned b (putRow enc (Sort.ahead w m) b 0 d) os
  refine ⟨h1.kept_of fun g hg => ?_, (t0.trans t1).trans t2⟩
  have := h1.blk_lt hg
  unfold grow
  exact Array.getElem?_append_left this
/-! Items, by name. -/
theorem ltOf_item (a b : Item) : ltOf (fun x y : Item => cmpS x.name y.name) a b = ltS a.name b.name := by
  unfold ltOf cmpS
  cases h1 : ltS a.name b.name
  · cases h2 : ltS b.name a.name <;> simp [h1, h2]
  · simp [h1]
theorem ltS_ntrans {a b c : ByteArray} (h1 : ltS a b = false) (h2 : ltS b c = false) : ltS a c = false := by
  cases h : ltS a c with
  | false => rfl
  | true =>
    cases h3 : ltS b a with
    | true => rw [ltS_trans h3 h] at h2; cases h2
    | false =>
      have := ltS_total h1 h3
      subst this
      rw [h] at h2; cases h2
theorem item_swo : SWO (ltOf (fun x y : Item => cmpS x.name y.name)) :=
  ⟨fun x => by rw [ltOf_item]; exact ltS_irrefl _, fun x y z h1 h2 => by rw [ltOf_item] at *; exact ltS_trans h1 h2, fun x y z h1 h2 => by rw [ltOf_item] at *; exact ltS_ntrans h1 h2⟩
theorem flatK_item (l : List Item) : (flatK itemC 2 l.toArray).toList = l.flatMap itemC := by
  apply List.ext_getElem?
  intro j
  have hl : (l.flatMap itemC).length = l.length * 2 := flat_len itemC (fun _ => rfl) l
  by_cases hj : j < l.length * 2
  · have hd : j = j / 2 * 2 + j % 2 := by omega
    have hq : j / 2 < l.length := by omega
    have hm : j % 2 < 2 := Nat.mod_lt _ (by decide)
    have g1 := flat_get itemC (fun _ => rfl) l (j / 2) (j % 2) l[j / 2] (List.getElem?_eq_getElem hq) hm
    rw [← hd] at g1
    rw [g1, Array.getElem?_toList, Array.getElem?_eq_getElem (by simp; omega)]
    have := get_flatK itemC 2 l.toArray j (by simpa using hj)
    rw [getElem!_pos _ _ (by simp; omega)] at this
    rw [this]
    have e1 : l.toArray[j / 2]! = l[j / 2] := by simp [hq]
    rw [e1]
    have hm2 : j % 2 < (itemC l[j / 2]).length := hm
    rw [List.getElem?_eq_getElem hm2, List.getElem!_eq_getElem?_getD, List.getElem?_eq_getElem hm2]
    rfl
  · rw [List.getElem?_eq_none (by simp; omega), List.getElem?_eq_none (by omega)]
/-- What a row of items holds, to the sort. -/
theorem holds_of_row {α : Type} [Inhabited α] (enc : α → Value) {base n c b k : Nat} {e : TypeId} {w : World} {d : Array α} (h : RowO base e k (.slice (some ⟨b, 0, none⟩) n c) n (d.toList.map enc) w) : Holds enc w b 0 d := fun j hj => by
  have hc : (d.toList.map enc)[j]? = some (enc d[j]!) := by
    have e : d[j]! = d[j]'hj := by simp [hj]
    rw [e, List.getElem?_map, Array.getElem?_toList, Array.getElem?_eq_getElem hj]; rfl
  obtain ⟨b', c', e1, h1, h2, -⟩ := h.cell hc
  injection e1 with e1
  injection e1 with e1
  injection e1 with e1
  subst e1
  rw [Nat.zero_add]
  exact ⟨h1, h2⟩
end Go.Proofs.YtnajccljdjllgaaGreatDoor
set_option linter.unusedVariables false
set_option linter.unusedSimpArgs false
namespace Go.Proofs.YtnajccljdjllgaaGreatDoor
open Go.RowKit Go.Lib Go.Sort
set_option maxRecDepth 100000 in
theorem byName_any (x y : Item) (w : World) : Calls Tryz.prog 50 #[.agg #[.int .i64 x.id, .string x.name], .agg #[.int .i64 y.id, .string y.name]] w fun e w' => e = .returned (.int .i64 (cmpS x.name y.name)) ∧ ∃ os, w' = grow w os := by
  have c1 := cmpS_any x.name y.name
  go_enter Tryz.func50, Tryz.ntmps50
  go_wp2_with fail
  refine (c1 _).mono ?_
  rintro e w1 ⟨rfl, rfl⟩
  go_wp2_with fail
  go_ret
  refine ⟨rfl, #[.cells #[.int .i64 x.id, .string x.name] 63] ++ #[.cells #[.int .i64 y.id, .string y.name] 63], ?_⟩
  rw [alloc_eq_grow, alloc_eq_grow, grow_grow]
set_option maxRecDepth 100000 in
theorem sortItems_any (base : Nat) (v : Value) (l : List Item) (w : World) (h : RowO base 63 2 v l.length (l.flatMap itemC) w) (hz : l.length ≤ 1000000) :
    Calls Tryz.prog 49 #[v, .func (.func 50) #[] #[]] w fun e w' => e = .returned (.tuple #[]) ∧ ∃ l' : List Item, l'.Perm l ∧ l'.Pairwise (fun a b => ltS b.name a.name = false) ∧ RowO base 63 2 v l'.length (l'.flatMap itemC) w' ∧ w.grownBy w' (blkOf v) := by
  obtain ⟨a, c, rfl, hc⟩ := h.slice
  by_cases h0 : l.length = 0
  · have hl : l = [] := List.eq_nil_of_length_eq_zero h0
    subst hl
    refine (AnyF.slices_SortFunc_none Tryz.sortItems a c (.func (.func 50) #[] #[]) w).mono ?_
    rintro e w' ⟨rfl, rfl⟩
    exact ⟨rfl, [], .nil, .nil, h, World.grownBy.refl _ _⟩
  · obtain ⟨b, cc, hbc⟩ : ∃ b cc, (Value.slice a l.length c) = .slice (some ⟨b, 0, none⟩) l.length (cc + 1) := by
      obtain ⟨x, hx, -⟩ := lt_get (l := l) (i := 0) (by omega)
      obtain ⟨u, hu⟩ : ∃ u, (l.flatMap itemC)[0 * 2 + 0]? = some u := ⟨_, (flat_get itemC (fun _ => rfl) l 0 0 x hx (by decide)).trans rfl⟩
      obtain ⟨b, c', e, -⟩ := h.cell hu
      injection e with e1 e2 e3
      cases c with
      | zero => omega
      | succ c => exact ⟨b, c, by rw [e1]⟩
    injection hbc with e1 e2 e3
    subst e1 e3
    have hlt := h.blk_lt (g := b) rfl
    have hK : HoldsK itemC 2 w b 0 l.toArray := holds_of_row id (k := 2) (by rw [flatK_item, List.map_id]; exact h)
    have hcmp : CmpLays Tryz.prog 50 #[] itemC 2 (fun x y : Item => cmpS x.name y.name) b 0 l.toArray.size w := fun m os dk _ x y => (byName_any x y _).mono fun e w' ⟨h1, os', h2⟩ => ⟨h1, 0, os', h2⟩
    have hS := AnyQ.slices_SortFunc Tryz.sortItems 2 (fun _ => by kernel_rfl) (fun _ => by kernel_rfl) itemC (fun _ => rfl) (fun x v hv => by simp at hv; rcases hv with rfl | rfl <;> rfl) (fun x y : Item => cmpS x.name y.name) item_swo 50 #[] b 0 (cc + 1) l.toArray w (fun _ _ => rfl) hcmp hK hlt (by simp; omega)
    rw [List.size_toArray] at hS
    refine hS.mono ?_
    rintro e w' ⟨rfl, d', m, os, ⟨hp1, -, hp3⟩, hs, rfl⟩
    rw [List.size_toArray] at hp1
    have hd : d' = d'.toList.toArray := by simp
    have hn : d'.toList.length = l.length := by simpa using hp1
    have hn2 : d'.size = l.length := hp1
    have hF : (flatK itemC 2 d').size = l.length * 2 := by rw [size_flatK, hn2]
    obtain ⟨r1, r2⟩ := row_sorted id (k := 2) h hlt (flatK itemC 2 d') hF m os
    refine ⟨rfl, d'.toList, ?_, ?_, ?_, ⟨r2.os, r2.tape, r2.output, r2.size, fun k hk hne => r2.block k hk fun e => hne (by rw [e]; rfl)⟩⟩
    · have h1 : d'.extract 0 l.length = d' := by rw [← hn2]; simp
      have h2 : l.toArray.extract 0 l.length = l.toArray := by simp
      rw [h1, h2] at hp3
      simpa using hp3
    · rw [List.pairwise_iff_getElem]
      intro i j hi hj hij
      have := hs i j (Nat.zero_le _) hij (by simpa using (show j < l.length by simpa [hn] using hj))
      have hi2 : i < d'.size := by simpa using hi
      have hj2 : j < d'.size := by simpa using hj
      have ei : d'[i]! = d'[i]'hi2 := by simp [hi2]
      have ej : d'[j]! = d'[j]'hj2 := by simp [hj2]
      rw [ltOf_item, ei, ej] at this
      simpa using this
    · rw [hn]
      rw [List.map_id] at r1
      have e3 : (flatK itemC 2 d').toList = d'.toList.flatMap itemC := by rw [hd]; simpa using flatK_item d'.toList
      rw [← e3]
      exact r1
end Go.Proofs.YtnajccljdjllgaaGreatDoor
set_option linter.unusedVariables false
set_option linter.unusedSimpArgs false
namespace Go.Proofs.YtnajccljdjllgaaGreatDoor
open Go.RowKit Go.Lib
def insI (x : Item) : List Item → List Item
  | [] => [x]
  | y :: l => if ltS y.name x.name then y :: insI x l else x :: y :: l
def sortI (l : List Item) : List Item := l.foldl (fun acc x => insI x acc) []
def itemsB (s : Shelf) : List Item := s.books.map fun b => ⟨b.id, b.name⟩
def itemsN (s : Shelf) (id : Int) : List Item := (s.notes.filter fun n => n.book == id).map fun n => ⟨n.id, n.name⟩
def booksI (s : Shelf) : List Item := if mayS s = true then sortI (itemsB s) else []
def notesI (s : Shelf) (id : Int) : List Item := if dropE s id = 0 then sortI (itemsN s id) else []
theorem insI_perm (x : Item) : ∀ l : List Item, (insI x l).Perm (x :: l)
  | [] => .refl _
  | y :: l => by
    unfold insI
    split
    · exact (List.Perm.cons y (insI_perm x l)).trans (List.Perm.swap x y l)
    · exact .refl _
theorem insI_inc {x : Item} : ∀ {l : List Item}, l.Pairwise (fun a b => ltS a.name b.name = true) → (∀ y ∈ l, y.name ≠ x.name) → (insI x l).Pairwise (fun a b => ltS a.name b.name = true)
  | [], _, _ => by simp [insI]
  | y :: l, h, hn => by
    obtain ⟨h1, h2⟩ := List.pairwise_cons.1 h
    unfold insI
    split
    · rename_i hlt
      refine List.pairwise_cons.2 ⟨fun z hz => ?_, insI_inc h2 fun z hz => hn z (List.mem_cons_of_mem _ hz)⟩
      rcases List.mem_cons.1 ((insI_perm x l).mem_iff.1 hz) with rfl | hz
      · exact hlt
      · exact h1 z hz
    · rename_i hlt
      have hxy : ltS x.name y.name = true := by
        cases e : ltS x.name y.name with
        | true => rfl
        | false => exact absurd (ltS_total (by simpa using hlt) e) (hn y (by simp))
      refine List.pairwise_cons.2 ⟨fun z hz => ?_, h⟩
      rcases List.mem_cons.1 hz with rfl | hz
      · exact hxy
      · exact ltS_trans hxy (h1 z hz)
theorem fold_perm : ∀ (l acc : List Item), (l.foldl (fun acc x => insI x acc) acc).Perm (l ++ acc)
  | [], acc => .refl _
  | x :: l, acc => by
    rw [List.foldl_cons]
    refine (fold_perm l _).trans ?_
    refine ((insI_perm x acc).append_left l).trans ?_
    exact List.perm_middle
theorem fold_inc : ∀ (l acc : List Item), acc.Pairwise (fun a b => ltS a.name b.name = true) → (∀ x ∈ l, ∀ y ∈ acc, y.name ≠ x.name) → (l.Pairwise fun a b => a.name ≠ b.name) → (l.foldl (fun acc x => insI x acc) acc).Pairwise (fun a b => ltS a.name b.name = true)
  | [], acc, h, _, _ => h
  | x :: l, acc, h, hn, hd => by
    obtain ⟨d1, d2⟩ := List.pairwise_cons.1 hd
    rw [List.foldl_cons]
    refine fold_inc l _ (insI_inc h fun y hy => hn x (by simp) y hy) (fun z hz y hy => ?_) d2
    rcases List.mem_cons.1 ((insI_perm x acc).mem_iff.1 hy) with rfl | hy
    · exact d1 z hz
    · exact hn z (List.mem_cons_of_mem _ hz) y hy
theorem sortI_perm (l : List Item) : (sortI l).Perm l := by
  have := fold_perm l []
  rw [List.append_nil] at this; exact this
theorem sortI_inc {l : List Item} (h : l.Pairwise fun a b => a.name ≠ b.name) : (sortI l).Pairwise (fun a b => ltS a.name b.name = true) := fold_inc l [] .nil (fun _ _ _ hy => by cases hy) h
/-- Strictly rising lists of the same elements are one. -/
theorem strict_eq {α : Type} {R : α → α → Prop} (ha : ∀ x y, R x y → R y x → False) : ∀ {l m : List α}, l.Perm m → l.Pairwise R → m.Pairwise R → l = m
  | [], m, hp, _, _ => (List.nil_perm.1 hp).symm
  | x :: l, [], hp, _, _ => by have := hp.length_eq; simp at this
  | x :: l, y :: m, hp, h1, h2 => by
    obtain ⟨a1, a2⟩ := List.pairwise_cons.1 h1
    obtain ⟨b1, b2⟩ := List.pairwise_cons.1 h2
    have e : x = y := by
      apply Classical.byContradiction
      intro hne
      have hx : x ∈ m := by
        rcases List.mem_cons.1 (hp.mem_iff.1 (List.mem_cons_self ..)) with h | h
        · exact absurd h hne
        · exact h
      have hy : y ∈ l := by
        rcases List.mem_cons.1 (hp.mem_iff.2 (List.mem_cons_self ..)) with h | h
        · exact absurd h.symm hne
        · exact h
      exact ha x y (a1 y hy) (b1 x hx)
    subst e
    rw [strict_eq ha hp.cons_inv a2 b2]
theorem names_ne {l m : List Item} (hp : l.Perm m) (h : m.Pairwise fun a b => a.name ≠ b.name) : l.Pairwise fun a b => a.name ≠ b.name :=
  (hp.pairwise_iff (fun h e => h e.symm)).2 h
theorem strict_of {l : List Item} (h : l.Pairwise fun a b => ltS b.name a.name = false) (hn : l.Pairwise fun a b => a.name ≠ b.name) : l.Pairwise fun a b => ltS a.name b.name = true :=
  (h.and hn).imp fun {a b} ⟨h1, h2⟩ => by
    cases e : ltS a.name b.name with
    | true => rfl
    | false => exact absurd (ltS_total e h1) h2
/-- What is sorted is the one sorted list. -/
theorem sortI_of {l l' : List Item} (hp : l'.Perm l) (hs : l'.Pairwise fun a b => ltS b.name a.name = false) (hn : l.Pairwise fun a b => a.name ≠ b.name) : l' = sortI l :=
  strict_eq (R := fun a b : Item => ltS a.name b.name = true) (fun x y h1 h2 => by rw [ltS_asymm h1] at h2; cases h2) (hp.trans (sortI_perm l).symm) (strict_of hs (names_ne hp hn)) (sortI_inc hn)
theorem itemsB_new {s : Shelf} (p : MayP s) : (itemsB s).Pairwise fun a b => a.name ≠ b.name := by
  unfold itemsB
  rw [List.pairwise_map]
  exact p.bnew
theorem itemsN_new {s : Shelf} (p : MayP s) (id : Int) : (itemsN s id).Pairwise fun a b => a.name ≠ b.name := by
  unfold itemsN
  rw [List.pairwise_map]
  have := (p.nnew.sublist (List.filter_sublist (p := fun n : Note => n.book == id)))
  refine this.imp_of_mem fun {a b} ha hb h e => h ⟨?_, e⟩
  have h1 := (List.mem_filter.1 ha).2
  have h2 := (List.mem_filter.1 hb).2
  simp only [beq_iff_eq] at h1 h2
  omega
end Go.Proofs.YtnajccljdjllgaaGreatDoor
set_option linter.unusedVariables false
set_option linter.unusedSimpArgs false
namespace Go.Proofs.YtnajccljdjllgaaGreatDoor
open Go.RowKit Go.Lib
theorem info_item : (Tryz.prog.info? 63).map (fun i => (i.zero, i.size, i.bytes)) = some (some (.agg #[.int .i64 0, .string ⟨#[]⟩]), 2, 24) := by kernel_rfl
/-- A list of items of the call's own. -/
def RetI (l : List Item) (w : World) (v : Value) (w' : World) : Prop := Grow w w' ∧ RowO w.heap.size 63 2 v l.length (l.flatMap itemC) w'
theorem itemC_one (x : Item) : ∀ u ∈ itemC x, u.oneCell' = true := fun u hu => by simp at hu; rcases hu with rfl | rfl <;> rfl
theorem row_add {base : Nat} {v v' : Value} {l : List Item} {x : Item} {w w' : World} (ra : AppR base 63 2 w v l.length (l.flatMap itemC) (itemC x) v' w') : RowO base 63 2 v' (l ++ [x]).length ((l ++ [x]).flatMap itemC) w' := by
  have := ra.1
  rw [List.length_append, List.flatMap_append]
  simpa using this
theorem ret_v {a b : Value} (h : a = b) : Ending.returned a = .returned b := by rw [h]
theorem Items.grow {w W : World} {v : Value} {l : List Item} (h : Items w v l) (g : Grow w W) : Items W v l := Reads.grow (w := w) (W := W) (fun _ _ h => h) h g
theorem Items.at {w : World} {a : Option Addr} {n c : Nat} {l : List Item} (h : Items w (.slice a n c) l) {i : Nat} {x : Item} (hx : l[i]? = some x) :
    ∃ b off, a = some ⟨b, off, none⟩ ∧ b < w.heap.size ∧ w.cell? ⟨b, off + i * 2, none⟩ = some (.int .i64 x.id) ∧ w.cell? ⟨b, off + i * 2 + 1, none⟩ = some (.string x.name) := by
  obtain ⟨b, off, e, hb, cs, h1, h2, h3⟩ := Reads.at h hx
  exact ⟨b, off, e, hb, h3 0 _ (by rw [h2]; rfl), h3 1 _ (by rw [h2]; rfl)⟩
theorem row_items {base : Nat} {v : Value} {l : List Item} {w : World} (h : RowO base 63 2 v l.length (l.flatMap itemC) w) : Items w v l := h.reads fun i x hx => flat_part itemC (fun _ => rfl) hx
theorem eqItem (x y : Item) (w : World) : (Op.equalIn 10000 63 (.agg #[.int .i64 x.id, .string x.name]) (.agg #[.int .i64 y.id, .string y.name])).run Tryz.prog w = .ok (x.id == y.id && x.name.toList == y.name.toList) w := by
  refine eq_struct (d := 9999) Tryz.underlying63 (by kernel_rfl) ?_
  refine eqf_more (by rfl) (by go_simp; rfl) (by go_simp; rfl) (by go_simp) ?_
  exact eqf_one (by rfl) (by go_simp; rfl) (by go_simp; rfl) (by go_simp)
theorem neqItem (x y : Item) (r : Bool) (h : (x.id == y.id && x.name.toList == y.name.toList) = r) (w : World) : (binOp .neq 63 (.agg #[.int .i64 x.id, .string x.name]) (.agg #[.int .i64 y.id, .string y.name])).run Tryz.prog w = .ok (.bool (!r)) w := by
  rw [run_neq_struct, eqItem, h]; rfl
theorem eqlItem (x y : Item) (r : Bool) (h : (x.id == y.id && x.name.toList == y.name.toList) = r) (w : World) : (binOp .eql 63 (.agg #[.int .i64 x.id, .string x.name]) (.agg #[.int .i64 y.id, .string y.name])).run Tryz.prog w = .ok (.bool r) w := by
  rw [run_eql_struct, eqItem, h]; rfl
set_option maxRecDepth 100000 in
theorem sameItems_any (va vb : Value) (l m : List Item) (w : World) (hl : Items w va l) (hm : Items w vb m) (hz : l.length ≤ 1000000000) :
    Calls Tryz.prog 17 #[va, vb] w fun e w' => e = .returned (.bool (same l m)) ∧ Grow w w' := by
  obtain ⟨a, c, rfl⟩ := hl.mk
  obtain ⟨a', c', rfl⟩ := hm.mk
  by_cases hlm : l.length = m.length
  · have hn : ((l.length : Int) != (m.length : Int)) = false := by rw [hlm]; simp
    have HLM := Lib.hid hlm
    clear hlm
    go_enter Tryz.func17, Tryz.ntmps17
    go_wp2
    go_loopw [5] (fun v5 wx => Grow w wx ∧ ∃ i : Nat, v5 = .int .i64 i ∧ i ≤ l.length ∧ ∀ j x y, j < i → l[j]? = some x → m[j]? = some y → x = y) (fun v5 _ => l.length - (intOf v5).toNat)
    case atStart => exact ⟨Grow.refl _, 0, rfl, by omega, fun j _ _ h => absurd h (by omega)⟩
    case round =>
      obtain ⟨hg, i, rfl, hi, hall⟩ := hrel
      have HA := Lib.hid hall
      clear hall hn
      by_cases hlt : i < l.length
      · have hlt' : (i : Int) < l.length := by omega
        have hlm' : (i : Int) < m.length := by have := HLM.out; omega
        obtain ⟨x, hx, -⟩ := lt_get hlt
        obtain ⟨y, hy, -⟩ := lt_get (l := m) (i := i) (by omega)
        obtain ⟨b, off, rfl, -, hc, hd⟩ := (hl.grow hg).at hx
        obtain ⟨b', off', rfl, -, hc', hd'⟩ := (hm.grow hg).at hy
        have HX := Lib.hid hx
        have HY := Lib.hid hy
        clear hx hy hl hm
        by_cases hxy : x = y
        · have hq := neqItem x y true (by rw [hxy]; simp)
          have HXY := Lib.hid hxy
          clear hxy
          go_wp2
          go_quiet (fail)
          go_wp2
          go_roundw
          case rel => exact ⟨hg.drewN _, i + 1, by go_num, by omega, fun j x' y' hj h1 h2 => by
            rcases (by omega : j < i ∨ j = i) with h3 | rfl
            · exact HA.out j x' y' h3 h1 h2
            · rw [HX.out] at h1; rw [HY.out] at h2; injection h1 with h1; injection h2 with h2; rw [← h1, ← h2]; exact HXY.out⟩
          case measure => simp [intOf]; omega
        · have hq : (x.id == y.id && x.name.toList == y.name.toList) = false := by
            rw [Bool.eq_false_iff]; intro e; rw [Bool.and_eq_true, beq_iff_eq, beq_iff_eq] at e
            exact hxy (by cases x; cases y; simp only [Item.mk.injEq]; exact ⟨e.1, eq_of_tl e.2⟩)
          replace hq := neqItem x y false hq
          have HR := Lib.hid (same_no (a := l) (b := m) (fun e => hxy (by have h1 := HX.out; rw [e, HY.out] at h1; injection h1 with h1; exact h1.symm)))
          clear hxy
          go_wp2
          go_quiet (fail)
          go_wp2
          go_ret
          exact ⟨ret_bool HR.out.symm, hg.drewN _⟩
      · have HR := Lib.hid (same_yes (list_same HLM.out (fun j x y h1 h2 => HA.out j x y (by have := (List.getElem?_eq_some_iff.1 h1).1; omega) h1 h2)))
        have hlt' : ¬ (i : Int) < l.length := by omega
        clear hl hm
        go_wp2
        go_ret
        exact ⟨ret_bool HR.out.symm, hg⟩
  · have hn : ((l.length : Int) != (m.length : Int)) = true := by rw [bne_iff_ne]; omega
    have HR := Lib.hid (same_no (a := l) (b := m) (fun e => hlm (by rw [e])))
    clear hlm hl hm
    go_enter Tryz.func17, Tryz.ntmps17
    go_wp2
    go_ret
    exact ⟨ret_bool HR.out.symm, Grow.refl _⟩
end Go.Proofs.YtnajccljdjllgaaGreatDoor
set_option linter.unusedVariables false
set_option linter.unusedSimpArgs false
namespace Go.Proofs.YtnajccljdjllgaaGreatDoor
open Go.RowKit Go.Lib
set_option maxRecDepth 100000 in
set_option maxHeartbeats 4000000 in
theorem books_any (s : Shelf) (bv nv : Value) (w : World) (h : ShelfR w s bv nv) (hz : TameS s) (hT : Tabs w) :
    Calls Tryz.prog 12 #[shelfV s bv nv] w fun e w' => ∃ v, e = .returned v ∧ RetI (booksI s) w v w' := by
  obtain ⟨i0, hi0, hz0, hz1, hz2⟩ := info_parts info_item
  have g0 : Grow w (w.alloc (.cells #[.int .i64 s.nb, .int .i64 s.nn, .int .i64 s.ns, bv, nv] 25)) := (Grow.refl w).alloc _
  have cM := mayS_any s bv nv _ (h.grow g0) hz (hT.below g0)
  have hbl := hz.1.1
  obtain ⟨a1, c1, rfl⟩ := h.1.mk
  obtain ⟨a2, c2, rfl⟩ := h.2.mk
  have HH := Lib.hid h
  have HG0 := Lib.hid g0
  clear h hz hT g0
  unfold shelfV at *
  cases hm : mayS s with
  | false =>
    have HM := Lib.hid hm
    rw [hm] at cM
    clear hm
    go_enter Tryz.func12, Tryz.ntmps12
    go_wp2_with fail
    refine cM.mono ?_
    rintro e w1 ⟨rfl, g1⟩
    go_wp2_with fail
    go_ret
    refine ⟨_, rfl, HG0.out.trans g1, ?_⟩
    rw [booksI, if_neg (by rw [HM.out]; simp)]
    exact RowO.nil
  | true =>
    have HM := Lib.hid hm
    rw [hm] at cM
    clear hm
    have HBX := Lib.hid (heap_alloc_new w (.cells #[.int .i64 s.nb, .int .i64 s.nn, .int .i64 s.ns, .slice a1 s.books.length c1, .slice a2 s.notes.length c2] 25))
    go_enter Tryz.func12, Tryz.ntmps12
    go_wp2_with fail
    refine cM.mono ?_
    rintro e w1 ⟨rfl, g1⟩
    obtain ⟨⟨p0, p1, p2, p3, p4⟩, hpz⟩ := n5 (g1.blk HBX.out)
    have gw1 := HG0.out.trans g1
    have HG1 := Lib.hid gw1
    clear cM
    go_wp2_with fail
    go_loopw [3, 12] (fun v3 v12 wx => ∃ (i : Nat) (L : List Item) (o : Option Addr) (k : Nat), v3 = .slice o i k ∧ v12 = .int .i64 i ∧ i ≤ s.books.length ∧ L = (itemsB s).take i ∧ L.length = i ∧ RowO w.heap.size 63 2 (.slice o i k) L.length (L.flatMap itemC) wx ∧ Grow w wx) (fun _ v12 _ => s.books.length - (Go.RowKit.intOf v12).toNat)
    case atStart => exact ⟨0, [], none, 0, rfl, rfl, by omega, by simp, rfl, RowO.nil, gw1⟩
    case round =>
      obtain ⟨i, L, o, k, rfl, rfl, hi, hL, hLl, hr, hg⟩ := hrel
      have HL := Lib.hid hL
      have HLL := Lib.hid hLl
      have HR := Lib.hid hr
      have HG := Lib.hid hg
      clear hL hLl
      by_cases hlt : i < s.books.length
      · have hlt' : (i : Int) < s.books.length := by omega
        obtain ⟨x, hx, -⟩ := lt_get hlt
        obtain ⟨b, off, rfl, hb, q0, q1⟩ := (Books.grow HH.out.1 hg).at hx
        have HX := Lib.hid hx
        have hgs := hg.size
        clear hx hr hg
        go_wp2_with (at_builtin; refine app_R (base := w.heap.size) (by rfl) _ _ 36 (by rfl) 63 i0 _ 2 24 Tryz.underlying36 hi0 hz0 hz1 hz2 (by rfl) (by decide) (.slice o i k) i (L.flatMap itemC) (by rfl) _ ?_ ?_ (itemC ⟨x.id, x.name⟩) rfl (itemC_one _) ?_ ?_ (by decide) ?_; (have h9 := HR.out; rw [HLL.out] at h9; exact h9.grow ((Grow.refl wr).alloc _)); (simp; omega); (simp; rfl); omega; intro v' w4 ra; obtain ⟨va, vc, e3, -⟩ := ra.1.slice; subst e3; have HRA := Lib.hid ra; clear ra)
        have hadd : RowO w.heap.size 63 2 (.slice va (i + 1) vc) (L ++ [(⟨x.id, x.name⟩ : Item)]).length ((L ++ [(⟨x.id, x.name⟩ : Item)]).flatMap itemC) w4 := row_add (l := L) (by rw [HLL.out]; exact HRA.out)
        have hgr : Grow w w4 := by
          have hrr := HR.out
          rw [HLL.out] at hrr
          exact grown_grow (HG.out.alloc _) (hrr.grow ((Grow.refl wr).alloc _)) HRA.out.2.1
        have HADD := Lib.hid hadd
        have HGR := Lib.hid hgr
        clear hadd hgr HRA
        go_wp2_with fail
        go_roundw
        case rel => exact ⟨i + 1, L ++ [⟨x.id, x.name⟩], va, vc, by go_num, by go_num, by omega, by rw [HL.out, List.take_add_one]; congr 1; unfold itemsB; rw [List.getElem?_map, HX.out]; rfl, by rw [List.length_append, HLL.out]; rfl, HADD.out, HGR.out⟩
        case measure => simp [Go.RowKit.intOf]; omega
      · have hlt' : ¬ (i : Int) < s.books.length := by omega
        have hLa : L = itemsB s := by rw [HL.out]; exact List.take_of_length_le (by unfold itemsB; rw [List.length_map]; omega)
        have cS := sortItems_any w.heap.size (.slice o i k) L wr hr (by rw [HLL.out]; omega)
        have HLA := Lib.hid hLa
        clear hr hg hLa
        go_wp2_with fail
        refine cS.mono ?_
        rintro e w5 ⟨rfl, l', hp, hs, hr', hg'⟩
        have HF := Lib.hid (show l' = booksI s by rw [booksI, if_pos HM.out]; exact sortI_of (by rw [← HLA.out]; exact hp) hs (itemsB_new (mayS_iff.1 HM.out)))
        have HR5 := Lib.hid hr'
        have HG5 := Lib.hid (grown_grow HG.out HR.out hg')
        clear cS hp hs hr' hg'
        go_wp2_with fail
        go_ret
        refine ⟨_, rfl, HG5.out, ?_⟩
        rw [← HF.out]; exact HR5.out
end Go.Proofs.YtnajccljdjllgaaGreatDoor
set_option linter.unusedVariables false
set_option linter.unusedSimpArgs false
namespace Go.Proofs.YtnajccljdjllgaaGreatDoor
open Go.RowKit Go.Lib
def eS : Shelf := ⟨1, 1, 1, [], []⟩
def tb : ByteArray := ⟨#[98]⟩
def ta : ByteArray := ⟨#[97]⟩
def s1 : Shelf := ⟨2, 1, 1, [⟨1, tb⟩], []⟩
def s2 : Shelf := ⟨3, 1, 1, [⟨1, tb⟩, ⟨2, ta⟩], []⟩
theorem may_eS : mayS eS = true := by decide +kernel
theorem may_s1 : mayS s1 = true := by decide +kernel
theorem may_s2 : mayS s2 = true := by decide +kernel
theorem make_1 : makeR eS tb = ⟨s1, 1, 0⟩ := by
  have : makeE eS tb = 0 := by decide +kernel
  rw [makeR, resOf_ok this]; rfl
theorem make_2 : makeR s1 ta = ⟨s2, 2, 0⟩ := by
  have : makeE s1 ta = 0 := by decide +kernel
  rw [makeR, resOf_ok this]; rfl
theorem make_3 : makeR s2 ta = ⟨zS, 0, 7⟩ := by
  have : makeE s2 ta = 7 := by decide +kernel
  rw [makeR, resOf_no (by rw [this]; decide), this]; rfl
theorem books_2 : booksI s2 = [⟨2, ta⟩, ⟨1, tb⟩] := by
  have h1 : ltS tb ta = false := by decide +kernel
  rw [booksI, if_pos may_s2]
  show insI ⟨2, ta⟩ [⟨1, tb⟩] = _
  simp only [insI, h1]; rfl
set_option maxRecDepth 100000 in
theorem empty_any (w : World) : Calls Tryz.prog 27 #[] w fun e w' => e = .returned (.agg #[.int .i64 1, .int .i64 1, .int .i64 1, .slice none 0 0, .slice none 0 0]) ∧ Grow w w' := by
  go_enter Tryz.func27, Tryz.ntmps27
  go_wp2_with fail
  refine bodyPost_ret (v := .agg #[.int .i64 1, .int .i64 1, .int .i64 1, .slice none 0 0, .slice none 0 0]) ?_ rfl ?_
  · rw [results_cell rfl]
    go_simp
  · refine ⟨rfl, ?_⟩
    repeat' (first | with_reducible exact (Grow.refl w).alloc _ | with_reducible refine Grow.set ?_ (by first | (simp; done) | (simp; omega)) _)
end Go.Proofs.YtnajccljdjllgaaGreatDoor
set_option linter.unusedVariables false
set_option linter.unusedSimpArgs false
namespace Go.Proofs.YtnajccljdjllgaaGreatDoor
open Go.RowKit Go.Lib
theorem tame_of (s : Shelf) (h : mayS s = true) : TameS s := (mayS_iff.1 h).tame
abbrev lit17 : List Item := [⟨2, ta⟩, ⟨1, tb⟩]
set_option maxRecDepth 100000 in
set_option maxHeartbeats 4000000 in
theorem awake17_any (w : World) (hT : Tabs w) : Calls Tryz.prog 6 #[] w fun e w' => e = .returned (.bool true) ∧ Grow w w' := by
  have GW := Lib.hid (Grow.refl w)
  have HTB := Lib.hid hT
  clear hT
  go_enter Tryz.func6, Tryz.ntmps6
  have c := empty_any w
  try unfold shelfV at c
  go_wp2_with fail
  refine c.mono ?_
  clear c
  rintro e U1 ⟨rfl, g⟩
  replace GW := Lib.hid (GW.out.trans g)
  clear g
  obtain ⟨a, hRES, hea⟩ : ∃ a, makeR eS tb = ⟨a, 1, 0⟩ ∧ a = s1 := ⟨s1, make_1, rfl⟩
  have HEA := Lib.hid hea
  clear hea
  have HRES_a := Lib.hid hRES
  have c0 := (make_any eS (.slice none 0 0) (.slice none 0 0) tb U1 ⟨Reads.nil, Reads.nil⟩ (tame_of eS may_eS) (by decide) (HTB.out.below GW.out)).mono fun _ _ => RetM.out hRES
  clear hRES
  have c := c0
  try unfold shelfV at c
  go_wp2_with fail
  refine c.mono ?_
  clear c c0
  rintro e U2 ⟨xa_a, xc_a, ya_a, yc_a, g, rfl, hr⟩
  go_upto_region 2 with (fail)
  generalize hV : U2.alloc (.cells #[.int .i64 a.nb, .int .i64 a.nn, .int .i64 a.ns, .slice xa_a a.books.length xc_a, .slice ya_a a.notes.length yc_a] 25) = U3
  have gV : Grow U2 U3 := by rw [← hV]; exact (Grow.refl U2).alloc _
  have HB_a : Hid (U3.heap[U2.heap.size]? = some (.cells #[.int .i64 a.nb, .int .i64 a.nn, .int .i64 a.ns, .slice xa_a a.books.length xc_a, .slice ya_a a.notes.length yc_a] 25 (0, 0))) := by rw [← hV]; exact Lib.hid (heap_alloc_new U2 _)
  clear hV
  replace GW := Lib.hid (GW.out.trans (g.trans gV))
  have HR_a := Lib.hid (ShelfR.grow hr gV)
  clear hr g gV
  obtain ⟨b, hRES, heb⟩ : ∃ b, makeR a ta = ⟨b, 2, 0⟩ ∧ b = s2 := ⟨s2, by rw [HEA.out]; exact make_2, rfl⟩
  have HEB := Lib.hid heb
  clear heb
  have HRES_b := Lib.hid hRES
  have c0 := (make_any a _ _ ta _ HR_a.out (by rw [HEA.out]; exact tame_of s1 may_s1) (by decide) (HTB.out.below GW.out)).mono fun _ _ => RetM.out hRES
  clear hRES
  have c := c0
  try unfold shelfV at c
  obtain ⟨⟨p0, p1, p2, p3, p4⟩, pz⟩ := n5 HB_a.out
  go_wp2_with fail
  refine c.mono ?_
  clear c c0
  clear p0 p1 p2 p3 p4 pz
  rintro e U4 ⟨xa_b, xc_b, ya_b, yc_b, g, rfl, hr⟩
  go_upto_region 3 with (fail)
  generalize hV : U4.alloc (.cells #[.int .i64 b.nb, .int .i64 b.nn, .int .i64 b.ns, .slice xa_b b.books.length xc_b, .slice ya_b b.notes.length yc_b] 25) = U5
  have gV : Grow U4 U5 := by rw [← hV]; exact (Grow.refl U4).alloc _
  have HB_b : Hid (U5.heap[U4.heap.size]? = some (.cells #[.int .i64 b.nb, .int .i64 b.nn, .int .i64 b.ns, .slice xa_b b.books.length xc_b, .slice ya_b b.notes.length yc_b] 25 (0, 0))) := by rw [← hV]; exact Lib.hid (heap_alloc_new U4 _)
  clear hV
  replace GW := Lib.hid (GW.out.trans (g.trans gV))
  replace HR_a := Lib.hid (HR_a.out.grow (g.trans gV))
  replace HB_a := Lib.hid (Grow.blk (g.trans gV) HB_a.out)
  have HR_b := Lib.hid (ShelfR.grow hr gV)
  clear hr g gV
  obtain ⟨z, hRES⟩ : ∃ z, makeR b ta = ⟨z, 0, 7⟩ := ⟨zS, by rw [HEB.out]; exact make_3⟩
  have HRES_z := Lib.hid hRES
  have c0 := (make_any b _ _ ta _ HR_b.out (by rw [HEB.out]; exact tame_of s2 may_s2) (by decide) (HTB.out.below GW.out)).mono fun _ _ => RetM.out hRES
  clear hRES
  have c := c0
  try unfold shelfV at c
  obtain ⟨⟨p0, p1, p2, p3, p4⟩, pz⟩ := n5 HB_b.out
  go_wp2_with fail
  refine c.mono ?_
  clear c c0
  clear p0 p1 p2 p3 p4 pz
  rintro e U6 ⟨xa_z, xc_z, ya_z, yc_z, g, rfl, hr⟩
  go_upto_region 4 with (fail)
  generalize hV : U6.alloc (.cells #[.int .i64 z.nb, .int .i64 z.nn, .int .i64 z.ns, .slice xa_z z.books.length xc_z, .slice ya_z z.notes.length yc_z] 25) = U7
  have gV : Grow U6 U7 := by rw [← hV]; exact (Grow.refl U6).alloc _
  have HB_z : Hid (U7.heap[U6.heap.size]? = some (.cells #[.int .i64 z.nb, .int .i64 z.nn, .int .i64 z.ns, .slice xa_z z.books.length xc_z, .slice ya_z z.notes.length yc_z] 25 (0, 0))) := by rw [← hV]; exact Lib.hid (heap_alloc_new U6 _)
  clear hV
  replace GW := Lib.hid (GW.out.trans (g.trans gV))
  replace HR_a := Lib.hid (HR_a.out.grow (g.trans gV))
  replace HB_a := Lib.hid (Grow.blk (g.trans gV) HB_a.out)
  replace HR_b := Lib.hid (HR_b.out.grow (g.trans gV))
  replace HB_b := Lib.hid (Grow.blk (g.trans gV) HB_b.out)
  have HR_z := Lib.hid (ShelfR.grow hr gV)
  clear hr g gV
  have c := books_any b _ _ _ HR_b.out (by rw [HEB.out]; exact tame_of s2 may_s2) (HTB.out.below GW.out)
  try unfold shelfV at c
  obtain ⟨⟨p0, p1, p2, p3, p4⟩, pz⟩ := n5 HB_b.out
  go_wp2_with fail
  refine c.mono ?_
  clear c
  clear p0 p1 p2 p3 p4 pz
  rintro e U8 ⟨v, rfl, g, hr⟩
  replace GW := Lib.hid (GW.out.trans g)
  replace HR_a := Lib.hid (HR_a.out.grow g)
  replace HB_a := Lib.hid (Grow.blk g HB_a.out)
  replace HR_b := Lib.hid (HR_b.out.grow g)
  replace HB_b := Lib.hid (Grow.blk g HB_b.out)
  replace HR_z := Lib.hid (HR_z.out.grow g)
  replace HB_z := Lib.hid (Grow.blk g HB_z.out)
  rw [HEB.out, books_2] at hr
  obtain ⟨xa, xc, ev, -⟩ := hr.slice
  subst ev
  have hri := row_items hr
  have c := sameItems_any _ _ lit17 lit17 _ (Items.grow hri ((Grow.refl _).alloc _)) (lit_reads itemC (fun _ => rfl) U8 lit17 63 (fun x => rfl)) (by decide)
  rw [same_yes rfl] at c
  obtain ⟨⟨p0, p1, p2, p3, p4⟩, pz⟩ := n5 HB_b.out
  go_wp2_with fail
  refine c.mono ?_
  clear c p0 p1 p2 p3 p4 pz
  rintro e UX ⟨rfl, gX⟩
  replace GW := Lib.hid (GW.out.trans (((Grow.refl _).alloc _).trans gX))
  replace HR_a := Lib.hid (HR_a.out.grow (((Grow.refl _).alloc _).trans gX))
  replace HB_a := Lib.hid (Grow.blk (((Grow.refl _).alloc _).trans gX) HB_a.out)
  replace HR_b := Lib.hid (HR_b.out.grow (((Grow.refl _).alloc _).trans gX))
  replace HB_b := Lib.hid (Grow.blk (((Grow.refl _).alloc _).trans gX) HB_b.out)
  replace HR_z := Lib.hid (HR_z.out.grow (((Grow.refl _).alloc _).trans gX))
  replace HB_z := Lib.hid (Grow.blk (((Grow.refl _).alloc _).trans gX) HB_z.out)
  have c := mayS_any b _ _ _ HR_b.out (by rw [HEB.out]; exact tame_of s2 may_s2) (HTB.out.below GW.out)
  try unfold shelfV at c
  obtain ⟨⟨p0, p1, p2, p3, p4⟩, pz⟩ := n5 HB_b.out
  rw [show mayS b = true by rw [HEB.out]; exact may_s2] at c
  go_wp2_with fail
  refine c.mono ?_
  clear c
  clear p0 p1 p2 p3 p4 pz
  rintro e U9 ⟨rfl, g2⟩
  replace GW := Lib.hid (GW.out.trans g2)
  replace HR_a := Lib.hid (HR_a.out.grow g2)
  replace HB_a := Lib.hid (Grow.blk g2 HB_a.out)
  replace HR_b := Lib.hid (HR_b.out.grow g2)
  replace HB_b := Lib.hid (Grow.blk g2 HB_b.out)
  replace HR_z := Lib.hid (HR_z.out.grow g2)
  replace HB_z := Lib.hid (Grow.blk g2 HB_z.out)
  go_wp2_with fail
  go_ret
  exact ⟨rfl, GW.out⟩
end Go.Proofs.YtnajccljdjllgaaGreatDoor
set_option linter.unusedVariables false
set_option linter.unusedSimpArgs false
namespace Go.Proofs.YtnajccljdjllgaaGreatDoor
open Go.RowKit Go.Lib
theorem grown_turned {b : Nat} {w w' : World} (t : Turned b w w') : w.grownBy w' (some b) := ⟨t.os, t.tape, t.output, t.size, fun k hk hne => t.block k hk (fun e => hne (by rw [e]))⟩
set_option maxRecDepth 100000 in
set_option maxHeartbeats 1000000 in
theorem overTexts_any (v : Value) (n base : Nat) (xs : List Value) (w : World) (h : RowO base 9 1 v n xs w) (hn : n ≤ 1000000000) (hb : base ≤ w.heap.size) :
    Calls Tryz.prog 22 #[v] w fun e w' => e = .returned (.tuple #[]) ∧ w.grownBy w' (blkOf v) := by
  obtain ⟨i0, hi0, hz0, hz1, hz2⟩ := info_parts info_text
  obtain ⟨a, c, rfl, hc⟩ := h.slice
  have HO := Lib.hid h
  clear h
  go_enter Tryz.func22, Tryz.ntmps22
  go_wp2_with fail
  go_loopw [2] (fun v2 wx => ∃ j : Nat, v2 = .int .i64 j ∧ j ≤ n ∧ w.grownBy wx (blkOf (.slice a n c)) ∧ ∃ ys, RowO base 9 1 (.slice a n c) n ys wx) (fun v2 _ => n - (intOf v2).toNat)
  case atStart => exact ⟨0, rfl, by omega, World.grownBy.refl _ _, xs, HO.out⟩
  case round =>
    obtain ⟨j, rfl, hj, hg, ys, hr⟩ := hrel
    have HG := Lib.hid hg
    have HR := Lib.hid hr
    have hsz := hg.size
    clear hg HO
    by_cases hlt : j < n
    · have hlt' : (j : Int) < n := by omega
      obtain ⟨u, hu⟩ : ∃ u, ys[j]? = some u := ⟨_, List.getElem?_eq_getElem (by have := hr.len; omega)⟩
      obtain ⟨b, c', e, q, qf, qz, hbk⟩ := hr.cell hu
      injection e with e1 e2 e3
      subst e1
      obtain ⟨b2, c2, e5, hb2, hr2, ht2, -⟩ := hr.stored hu (.string ⟨#[111, 118, 101, 114]⟩)
      rw [hbk] at hb2
      obtain rfl := Option.some.inj hb2
      have HR2 := Lib.hid hr2
      have HG2 := Lib.hid (World.grownBy.trans HG.out (show wr.grownBy _ (blkOf (.slice (some ⟨b, 0, none⟩) n c)) by rw [hbk]; exact grown_turned ht2))
      clear hr hu hbk e2 e3 hr2 ht2 e5 hb2
      go_wp2_with fail
      go_roundw
      case rel => exact ⟨j + 1, by go_num, by omega, HG2.out, _, HR2.out⟩
      case measure => simp [intOf]; omega
    · have hlt' : ¬ (j : Int) < n := by omega
      clear hr
      go_wp2_with (at_builtin; refine app_R (base := base) (by rfl) _ _ 43 (by rfl) 9 i0 _ 1 16 Tryz.underlying43 hi0 hz0 hz1 hz2 (by rfl) (by decide) (.slice a n c) n ys (by rfl) wr HR.out (Nat.le_trans hb hsz) [.string ⟨#[111, 118, 101, 114]⟩] rfl ?_ (by rfl) ?_ (by decide) ?_; (intro u hu; simp at hu; subst hu; rfl); omega; intro v' w4 ra; have HRA := Lib.hid ra.2.1; clear ra)
      go_end0
      exact ⟨rfl, World.grownBy.trans HG.out HRA.out⟩
end Go.Proofs.YtnajccljdjllgaaGreatDoor
set_option linter.unusedVariables false
set_option linter.unusedSimpArgs false
namespace Go.Proofs.YtnajccljdjllgaaGreatDoor
open Go.RowKit Go.Lib
set_option maxRecDepth 100000 in
set_option maxHeartbeats 1000000 in
theorem overInts_any (v : Value) (n base : Nat) (xs : List Value) (w : World) (h : RowO base 3 1 v n xs w) (hn : n ≤ 1000000000) (hb : base ≤ w.heap.size) :
    Calls Tryz.prog 23 #[v] w fun e w' => e = .returned (.tuple #[]) ∧ w.grownBy w' (blkOf v) := by
  obtain ⟨i0, hi0, hz0, hz1, hz2⟩ := info_parts info_int
  obtain ⟨a, c, rfl, hc⟩ := h.slice
  have HO := Lib.hid h
  clear h
  go_enter Tryz.func23, Tryz.ntmps23
  go_wp2_with fail
  go_loopw [2] (fun v2 wx => ∃ j : Nat, v2 = .int .i64 j ∧ j ≤ n ∧ w.grownBy wx (blkOf (.slice a n c)) ∧ ∃ ys, RowO base 3 1 (.slice a n c) n ys wx) (fun v2 _ => n - (intOf v2).toNat)
  case atStart => exact ⟨0, rfl, by omega, World.grownBy.refl _ _, xs, HO.out⟩
  case round =>
    obtain ⟨j, rfl, hj, hg, ys, hr⟩ := hrel
    have HG := Lib.hid hg
    have HR := Lib.hid hr
    have hsz := hg.size
    clear hg HO
    by_cases hlt : j < n
    · have hlt' : (j : Int) < n := by omega
      obtain ⟨u, hu⟩ : ∃ u, ys[j]? = some u := ⟨_, List.getElem?_eq_getElem (by have := hr.len; omega)⟩
      obtain ⟨b, c', e, q, qf, qz, hbk⟩ := hr.cell hu
      injection e with e1 e2 e3
      subst e1
      obtain ⟨b2, c2, e5, hb2, hr2, ht2, -⟩ := hr.stored hu (.int .i64 (-999))
      rw [hbk] at hb2
      obtain rfl := Option.some.inj hb2
      have HR2 := Lib.hid hr2
      have HG2 := Lib.hid (World.grownBy.trans HG.out (show wr.grownBy _ (blkOf (.slice (some ⟨b, 0, none⟩) n c)) by rw [hbk]; exact grown_turned ht2))
      clear hr hu hbk e2 e3 hr2 ht2 e5 hb2
      go_wp2_with fail
      go_roundw
      case rel => exact ⟨j + 1, by go_num, by omega, HG2.out, _, HR2.out⟩
      case measure => simp [intOf]; omega
    · have hlt' : ¬ (j : Int) < n := by omega
      clear hr
      go_wp2_with (at_builtin; refine app_R (base := base) (by rfl) _ _ 44 (by rfl) 3 i0 _ 1 8 Tryz.underlying44 hi0 hz0 hz1 hz2 (by rfl) (by decide) (.slice a n c) n ys (by rfl) wr HR.out (Nat.le_trans hb hsz) [.int .i64 (-999)] rfl ?_ (by rfl) ?_ (by decide) ?_; (intro u hu; simp at hu; subst hu; rfl); omega; intro v' w4 ra; have HRA := Lib.hid ra.2.1; clear ra)
      go_end0
      exact ⟨rfl, World.grownBy.trans HG.out HRA.out⟩
set_option maxRecDepth 100000 in
set_option maxHeartbeats 1000000 in
theorem overBooks_any (v : Value) (n base : Nat) (xs : List Value) (w : World) (h : RowO base 58 2 v n xs w) (hn : n ≤ 1000000000) (hb : base ≤ w.heap.size) :
    Calls Tryz.prog 48 #[v] w fun e w' => e = .returned (.tuple #[]) ∧ w.grownBy w' (blkOf v) := by
  obtain ⟨i0, hi0, hz0, hz1, hz2⟩ := info_parts info_book
  obtain ⟨a, c, rfl, hc⟩ := h.slice
  have HO := Lib.hid h
  clear h
  go_enter Tryz.func48, Tryz.ntmps48
  go_wp2_with fail
  go_loopw [2] (fun v2 wx => ∃ j : Nat, v2 = .int .i64 j ∧ j ≤ n ∧ w.grownBy wx (blkOf (.slice a n c)) ∧ ∃ ys, RowO base 58 2 (.slice a n c) n ys wx) (fun v2 _ => n - (intOf v2).toNat)
  case atStart => exact ⟨0, rfl, by omega, World.grownBy.refl _ _, xs, HO.out⟩
  case round =>
    obtain ⟨j, rfl, hj, hg, ys, hr⟩ := hrel
    have HG := Lib.hid hg
    have HR := Lib.hid hr
    have hsz := hg.size
    clear hg HO
    by_cases hlt : j < n
    · have hlt' : (j : Int) < n := by omega
      obtain ⟨u, hu⟩ : ∃ u, ys[j * 2]? = some u := ⟨_, List.getElem?_eq_getElem (by have := hr.len; omega)⟩
      obtain ⟨u', hu'⟩ : ∃ u, ys[j * 2 + 1]? = some u := ⟨_, List.getElem?_eq_getElem (by have := hr.len; omega)⟩
      obtain ⟨b, c', e, q, qf, qz, hbk⟩ := hr.cell hu
      obtain ⟨b1, c1', e1', q', qf', qz', hbk'⟩ := hr.cell hu'
      injection e with e1 e2 e3
      subst e1
      injection e1' with e4
      injection e4 with e4
      injection e4 with e4
      subst e4
      obtain ⟨b2, c2, e5, hb2, hr2, ht2, -⟩ := hr.stored hu (.int .i64 (-9))
      rw [hbk] at hb2
      obtain rfl := Option.some.inj hb2
      obtain ⟨b3, c3, e6, hb3, hr3, ht3, -⟩ := hr2.stored (show (ys.set (j * 2) (.int .i64 (-9)))[j * 2 + 1]? = some u' by rw [List.getElem?_set_ne (by omega)]; exact hu') (.string ⟨#[]⟩)
      rw [hbk] at hb3
      obtain rfl := Option.some.inj hb3
      have HR2 := Lib.hid hr3
      have HG2 := Lib.hid (World.grownBy.trans HG.out (show wr.grownBy _ (blkOf (.slice (some ⟨b, 0, none⟩) n c)) by rw [hbk]; exact grown_turned (ht2.trans ht3)))
      clear hr hu hu' hbk hbk' e2 e3 hr2 ht2 e5 hb2 hr3 ht3 e6 hb3
      go_wp2_with fail
      go_roundw
      case rel => exact ⟨j + 1, by go_num, by omega, HG2.out, _, HR2.out⟩
      case measure => simp [intOf]; omega
    · have hlt' : ¬ (j : Int) < n := by omega
      clear hr
      go_wp2_with (at_builtin; refine app_R (base := base) (by rfl) _ _ 22 (by rfl) 58 i0 _ 2 24 Tryz.underlying22 hi0 hz0 hz1 hz2 (by rfl) (by decide) (.slice a n c) n ys (by rfl) wr HR.out (Nat.le_trans hb hsz) [.int .i64 (-9), .string ⟨#[]⟩] rfl ?_ (by rfl) ?_ (by decide) ?_; (intro u hu; simp at hu; rcases hu with rfl | rfl <;> rfl); omega; intro v' w4 ra; have HRA := Lib.hid ra.2.1; clear ra)
      go_end0
      exact ⟨rfl, World.grownBy.trans HG.out HRA.out⟩
end Go.Proofs.YtnajccljdjllgaaGreatDoor
