/- The walk of the law CodingUnlike. -/
import Derived.Test.YtbdbmigkcpgmkaaDoorLawSizes
import Derived.Test.YtbdbmigkcpgmkaaDoorInj
set_option linter.unusedVariables false
set_option linter.unusedSimpArgs false
namespace Go.Proofs.YtbdbmigkcpgmkaaDoor
open Go.RowKit Go.Lib
set_option maxRecDepth 100000 in
set_option maxHeartbeats 4000000 in
theorem unlike_law (s : Shelf) (bv nv : Value) (t : Shelf) (bv' nv' : Value) (w : World) (hs : ShelfArg w s bv nv) (ht : ShelfArg w t bv' nv') (hT : Tabs w) :
    Calls Tryd.prog 10 #[shelfV s bv nv, shelfV t bv' nv'] w fun e w' => e = .returned (.bool true) ∧ Below w.heap.size w w' := by
  show Calls Tryd.prog 10 #[shelfV s bv nv, shelfV t bv' nv'] w fun e w' => e = .returned (.bool true) ∧ Grow w w'
  have cA := fun W (g : Grow w W) => awake19_any W (hT.below g)
  have cG := fun W (g : Grow w W) => great_any s bv nv W (hs.rows.grow g) hs.tags
  have dG := fun W (g : Grow w W) => great_any t bv' nv' W (ht.rows.grow g) ht.tags
  have cM := fun W (g : Grow w W) (hz : TameS s) => mayS_any s bv nv W (hs.rows.grow g) hz (hT.below g)
  have dM := fun W (g : Grow w W) (hz : TameS t) => mayS_any t bv' nv' W (ht.rows.grow g) hz (hT.below g)
  have cL := fun W (g : Grow w W) (hz : TameS s) => lay_any s bv nv W (hs.rows.grow g) hz (hT.below g)
  have dL := fun W (g : Grow w W) (hz : TameS t) => lay_any t bv' nv' W (ht.rows.grow g) hz (hT.below g)
  have cS := fun W (g : Grow w W) (hz : Tame s) => sameShelf_any s t bv nv bv' nv' W (hs.rows.grow g) (ht.rows.grow g) hz
  obtain ⟨a1, c1, rfl⟩ := hs.rows.1.mk
  obtain ⟨a2, c2, rfl⟩ := hs.rows.2.mk
  obtain ⟨a3, c3, rfl⟩ := ht.rows.1.mk
  obtain ⟨a4, c4, rfl⟩ := ht.rows.2.mk
  have HI := Lib.hid hs.ints
  have HJ := Lib.hid ht.ints
  clear hs ht
  unfold shelfV at cG dG cM dM cL dL cS ⊢
  go_enter Tryd.func10, Tryd.ntmps10
  go_upto_region 1 with (fail)
  generalize hV : (w.alloc (.cells #[.int .i64 s.nb, .int .i64 s.nn, .int .i64 s.ns, .slice a1 s.books.length c1, .slice a2 s.notes.length c2] 36)).alloc (.cells #[.int .i64 t.nb, .int .i64 t.nn, .int .i64 t.ns, .slice a3 t.books.length c3, .slice a4 t.notes.length c4] 36) = V
  have gV : Grow w V := by rw [← hV]; exact ((Grow.refl w).alloc _).alloc _
  have hx : V.heap[w.heap.size]? = some (.cells #[.int .i64 s.nb, .int .i64 s.nn, .int .i64 s.ns, .slice a1 s.books.length c1, .slice a2 s.notes.length c2] 36 (0, 0)) := by
    rw [← hV]; exact Grow.blk ((Grow.refl _).alloc _) (heap_alloc_new w _)
  have hy : V.heap[w.heap.size + 1]? = some (.cells #[.int .i64 t.nb, .int .i64 t.nn, .int .i64 t.ns, .slice a3 t.books.length c3, .slice a4 t.notes.length c4] 36 (0, 0)) := by
    rw [← hV]; exact heap_alloc2 w _ _
  clear hV
  have HX := Lib.hid hx
  have HY := Lib.hid hy
  clear hx hy
  obtain ⟨p0, p1, p2, p3, p4⟩ := box5 HX.out
  obtain ⟨q0, q1, q2, q3, q4⟩ := box5 HY.out
  go_wp2_with fail
  refine (cG V gV).mono ?_
  rintro e w1 ⟨g1, r1, rfl, hr1⟩
  have gw1 := gV.trans g1
  replace HX := Lib.hid (Grow.blk g1 HX.out)
  replace HY := Lib.hid (Grow.blk g1 HY.out)
  clear p0 p1 p2 p3 p4 q0 q1 q2 q3 q4 g1
  obtain ⟨p0, p1, p2, p3, p4⟩ := box5 HX.out
  obtain ⟨q0, q1, q2, q3, q4⟩ := box5 HY.out
  cases r1 with
  | true =>
    go_wp2_with fail
    refine (cA w1 gw1).mono ?_
    rintro e wz ⟨rfl, gz⟩
    go_wp2_with fail
    go_ret
    exact ⟨rfl, gw1.trans gz⟩
  | false =>
    have hlow := hr1 rfl
    have HZ := Lib.hid (show TameS s from ⟨hlow.tame, HI.out⟩)
    clear hlow hr1 cG
    go_wp2_with fail
    refine (dG w1 gw1).mono ?_
    rintro e w2 ⟨g2, r2, rfl, hr2⟩
    have gw2 := gw1.trans g2
    replace HX := Lib.hid (Grow.blk g2 HX.out)
    replace HY := Lib.hid (Grow.blk g2 HY.out)
    clear p0 p1 p2 p3 p4 q0 q1 q2 q3 q4 g2
    obtain ⟨p0, p1, p2, p3, p4⟩ := box5 HX.out
    obtain ⟨q0, q1, q2, q3, q4⟩ := box5 HY.out
    cases r2 with
    | true =>
      go_wp2_with fail
      refine (cA w2 gw2).mono ?_
      rintro e wz ⟨rfl, gz⟩
      go_wp2_with fail
      go_ret
      exact ⟨rfl, gw2.trans gz⟩
    | false =>
      have hlow := hr2 rfl
      have HU := Lib.hid (show TameS t from ⟨hlow.tame, HJ.out⟩)
      clear hlow hr2 dG
      go_wp2_with fail
      refine (cM w2 gw2 HZ.out).mono ?_
      rintro e w3 ⟨rfl, g3⟩
      have gw3 := gw2.trans g3
      replace HX := Lib.hid (Grow.blk g3 HX.out)
      replace HY := Lib.hid (Grow.blk g3 HY.out)
      clear p0 p1 p2 p3 p4 q0 q1 q2 q3 q4 g3
      obtain ⟨p0, p1, p2, p3, p4⟩ := box5 HX.out
      obtain ⟨q0, q1, q2, q3, q4⟩ := box5 HY.out
      cases hm : mayS s
      · clear hm
        go_wp2_with fail
        refine (cA w3 gw3).mono ?_
        rintro e wz ⟨rfl, gz⟩
        go_wp2_with fail
        go_ret
        exact ⟨rfl, gw3.trans gz⟩
      have HM := Lib.hid hm
      clear hm cM
      go_wp2_with fail
      refine (dM w3 gw3 HU.out).mono ?_
      rintro e w4 ⟨rfl, g4⟩
      have gw4 := gw3.trans g4
      replace HX := Lib.hid (Grow.blk g4 HX.out)
      replace HY := Lib.hid (Grow.blk g4 HY.out)
      clear p0 p1 p2 p3 p4 q0 q1 q2 q3 q4 g4
      obtain ⟨p0, p1, p2, p3, p4⟩ := box5 HX.out
      obtain ⟨q0, q1, q2, q3, q4⟩ := box5 HY.out
      cases hm : mayS t
      · clear hm
        go_wp2_with fail
        refine (cA w4 gw4).mono ?_
        rintro e wz ⟨rfl, gz⟩
        go_wp2_with fail
        go_ret
        exact ⟨rfl, gw4.trans gz⟩
      have HN := Lib.hid hm
      clear hm dM
      go_wp2_with fail
      refine (cL w4 gw4 HZ.out).mono ?_
      rintro e w5 hp
      rcases hp with ⟨hm0, -⟩ | ⟨-, v, rfl, hb⟩
      · rw [HM.out] at hm0; cases hm0
      have g5 := hb.grow
      have hbs := hb.bytes
      clear hb cL
      have gw5 := gw4.trans g5
      replace HX := Lib.hid (Grow.blk g5 HX.out)
      replace HY := Lib.hid (Grow.blk g5 HY.out)
      clear p0 p1 p2 p3 p4 q0 q1 q2 q3 q4 g5
      obtain ⟨p0, p1, p2, p3, p4⟩ := box5 HX.out
      obtain ⟨q0, q1, q2, q3, q4⟩ := box5 HY.out
      go_wp2_with fail
      refine (dL w5 gw5 HU.out).mono ?_
      rintro e w6 hp
      rcases hp with ⟨hm0, -⟩ | ⟨-, v', rfl, hb⟩
      · rw [HN.out] at hm0; cases hm0
      have g6 := hb.grow
      have hbt := hb.bytes
      replace hbs := Bytes.grow hbs g6
      clear hb dL
      have gw6 := gw5.trans g6
      replace HX := Lib.hid (Grow.blk g6 HX.out)
      replace HY := Lib.hid (Grow.blk g6 HY.out)
      clear p0 p1 p2 p3 p4 q0 q1 q2 q3 q4 g6
      obtain ⟨p0, p1, p2, p3, p4⟩ := box5 HX.out
      obtain ⟨q0, q1, q2, q3, q4⟩ := box5 HY.out
      have HE := lay_inj HM.out HN.out
      have z1 : w.heap.size < w6.heap.size := (Array.getElem?_eq_some_iff.1 HX.out).1
      have z2 : w.heap.size + 1 < w6.heap.size := (Array.getElem?_eq_some_iff.1 HY.out).1
      have hll : (layB s).length ≤ 1000000000 := by
        have h1 := flat_le bookB 1000004 s.books (fun x hm => bookB_le (HZ.out.1.2.2.1 x hm))
        have h2 := flat_le noteB 6000000 s.notes (fun x hm => by
          obtain ⟨i, hi, e⟩ := List.getElem_of_mem hm
          have := (mayS_small HM.out).2.2 x hm
          exact noteB_le (HZ.out.note (i := i) (by rw [List.getElem?_eq_getElem hi, e])) this.1 this.2)
        have n1 := (mayS_small HM.out).1
        have n2 := (mayS_small HM.out).2.1
        have h3 := Nat.mul_le_mul_right 1000004 n1
        have h4 := Nat.mul_le_mul_right 6000000 n2
        rw [layB_length]; omega
      have kB := fun y : Gr w6 => sameBytes_any v v' (layB s) (layB t) y.W (Bytes.grow hbs y.g) (Bytes.grow hbt y.g) hll
      rw [HE] at kB
      have kS := fun y : Gr w6 => cS y.W (gw6.trans y.g) HZ.out.1
      have kA := fun y : Gr w6 => cA y.W (gw6.trans y.g)
      clear HE cS cA hbs hbt hll
      generalize same s t = B at *
      go_upto_region 5 with (fail)
      refine wp_region_gr (by kernel_rfl) (by kernel_rfl) ?_
      repeat (go_big_quiet_step (first | (go_at_call 25; exact Calls.gr (kB _)) | (go_at_call 34; exact Calls.gr (kS _)) | (go_at_call 22; exact Calls.gr (kA _))))
      refine wpQuiet_nil ?_
      rintro _ ⟨y, rfl⟩
      go_wp2_with fail
      go_ret
      exact ⟨ret_bool (by cases B <;> rfl), gw6.trans y.g⟩
end Go.Proofs.YtbdbmigkcpgmkaaDoor
