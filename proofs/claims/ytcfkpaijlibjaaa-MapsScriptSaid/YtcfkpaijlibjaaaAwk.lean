/- The awake of chapter 13's law. -/
import Derived.Test.YtcfkpaijlibjaaaAwm
import Derived.Deep.DrawnRows
import Derived.Deep.RegionLaw
set_option linter.unusedVariables false
set_option linter.unusedSimpArgs false
namespace Go.Proofs.Ytcfkpaijlibjaaa
open Go.RowKit Go.Lib Go.Maps
def RetNew2 (g : Geo) (w : World) (e : Ending) (w' : World) : Prop := ∃ B a h, e = .returned (.pointer (some ⟨B, 0, none⟩)) ∧ (w.heap.size ≤ B ∧ w.heap.size ≤ a ∧ w.heap.size ≤ h) ∧ MSt w' B a h g 0 noA noH ∧ Grow w w'
set_option maxRecDepth 100000 in
theorem new_yes2 (g : Geo) (w : World) (h : mayG g = true) : Calls Try.prog 20 #[geoV g] w (RetNew2 g w) := by
  have c := fun W => mayG_any g W
  have hmm := @run_makeMap Try.prog
  have HX := Lib.hid (heap_alloc_new w (geoO g))
  rw [h] at c
  clear h
  go_enter Try.func20, Try.ntmps20
  go_wp2_with fail
  refine (c _).mono ?_
  rintro e w1 ⟨rfl, g1⟩
  obtain ⟨b0, b1, b2, b3, b4⟩ := geo5 (g1.blk HX.out)
  go_wp2_with fail
  go_ret
  have hg : Grow w w1 := ((Grow.refl w).alloc _).trans g1
  have hs := hg.size
  exact ⟨w1.heap.size + 2, w1.heap.size, w1.heap.size + 1, rfl, ⟨by omega, by omega, by omega⟩, three_new w1 g, ((hg.alloc _).alloc _).alloc _⟩
theorem wf3 : Wf 3 := by unfold Wf; omega
theorem wf4 : Wf 4 := by unfold Wf; omega
theorem wfp : WfP ⟨1, 2⟩ := ⟨by unfold Wf; show _ ∧ _; constructor <;> decide, by unfold Wf; show _ ∧ _; constructor <;> decide⟩
set_option maxRecDepth 100000 in
set_option maxHeartbeats 4000000 in
theorem awake13_any (w : World) : Calls Try.prog 21 #[] w fun e w' => e = .returned (.bool true) ∧ Grow w w' := by
  go_enter Try.func21, Try.ntmps21
  go_wp2_with fail
  refine (small_any w).mono ?_
  rintro e w1 ⟨rfl, g1⟩
  go_wp2_with fail
  refine (new_yes2 smallG w1 small_may).mono ?_
  rintro e w2 ⟨B, a, h, rfl, hB, s2, g2⟩
  go_upto_region 5 with (fail)
  generalize hV : w2.alloc (.cells #[.int .i64 1, .int .i64 2] 28) = V
  have gV : Grow w2 V := by rw [← hV]; exact (Grow.refl w2).alloc _
  have hbx : V.heap[w2.heap.size]? = some (.cells #[.int .i64 1, .int .i64 2] 28 (0, 0)) := by rw [← hV]; exact heap_alloc_new w2 _
  have HBX := Lib.hid hbx
  have s3 := (s2.grow gV).grow (Grow.refl V).drew
  have HS3 := Lib.hid s3
  have hV2 : w2.heap.size < V.heap.size := (Array.getElem?_eq_some_iff.1 hbx).1
  have ha2 : a < w2.heap.size := s2.2.1.lt
  have hh2 : h < w2.heap.size := s2.2.2.1.lt
  obtain ⟨q0, q1⟩ := box2 hbx
  have HB := Lib.hid hB
  have gw2 := g1.trans g2
  have HSz := Lib.hid g1.size
  clear hV hbx s3 s2 hB g1 g2
  go_cut [3, 4] (fun v3 v4 wx => v3 = .bool true ∧ v4 = .bool false ∧ Turn2 a h V wx ∧ MSt wx B a h smallG 2 (putA noA 3 ⟨1, 2⟩) (putH noA noH 3 ⟨1, 2⟩))
  case first =>
    have tok1 : True := trivial
    have tok2 : True := trivial
    go_region_law ((first
      | (go_simp; go_at_call 23; have _t := tok1; refine (put_map HS3.out 3 ⟨1, 2⟩ wf3 wfp (fun q hq => by cases hq) (by omega)).mono ?_; rintro e w5 ⟨he, t5, m5, -⟩; rw [ok3] at he; subst he; have M5 := Lib.hid (m5 ok3); have T5 := Lib.hid t5; have hb5 := (t5.block w2.heap.size (by show w2.heap.size < V.heap.size; omega) (by omega) (by omega)).trans HBX.out; obtain ⟨r0, r1⟩ := box2 hb5; clear m5 t5 hb5 tok1)
      | (go_simp; go_at_call 23; have _t := tok2; refine (put_map M5.out 4 ⟨1, 2⟩ wf4 wfp (fun q hq => by cases hq) (by omega)).mono ?_; rintro e w6 ⟨he, t6, -, m6⟩; rw [no4] at he; subst he; have M6 := Lib.hid (m6 no4); have T6 := Lib.hid t6; clear m6 t6 tok2)))
    all_goals
      go_wp2_with fail
      go_meet
      exact ⟨rfl, rfl, ((Turn2.of_grow (Grow.refl V).drew).trans T5.out).trans T6.out, M6.out⟩
  case rest =>
    obtain ⟨rfl, rfl, t6, s6⟩ := hcut
    have gw : Grow w wc := t6.grow (gw2.trans gV) (by have := HSz.out; have := HB.out; omega) (by have := HSz.out; have := HB.out; omega)
    have hb6 := (t6.block w2.heap.size hV2 (by omega) (by omega)).trans HBX.out
    have HB6 := Lib.hid hb6
    have HS6 := Lib.hid s6
    have cAt := at_map s6 3 wf3
    rw [show putA noA 3 ⟨1, 2⟩ 3 = some ⟨1, 2⟩ from rfl] at cAt
    simp only [Option.getD_some, Option.isSome_some] at cAt
    clear t6 s6 hb6 q0 q1
    go_wp2_with fail
    refine cAt.mono ?_
    rintro e w7 ⟨rfl, g7⟩
    clear cAt
    have g7' := g7.alloc (plO 1 2)
    obtain ⟨q0, q1⟩ := box2 (g7'.blk HB6.out)
    have hb7 := heap_alloc_new w7 (plO 1 2)
    have HB7 := Lib.hid hb7
    have s7 := HS6.out.grow g7'
    have HS7 := Lib.hid s7
    have HG7 := Lib.hid g7'
    have cWh := who_map s7 ⟨1, 2⟩ wfp
    rw [show putH noA noH 3 ⟨1, 2⟩ ⟨1, 2⟩ = some 3 from rfl] at cWh
    simp only [Option.getD_some, Option.isSome_some] at cWh
    clear s7 hb7 g7'
    go_wp2_with fail
    refine cWh.mono ?_
    rintro e w8 ⟨rfl, g8⟩
    clear cWh q0 q1
    obtain ⟨q0, q1⟩ := box2 ((HG7.out.trans g8).blk HB6.out)
    obtain ⟨r0, r1⟩ := box2 (g8.blk HB7.out)
    have hq : ∀ W : World, (binOp .eql 28 (.agg #[.int .i64 1, .int .i64 2]) (.agg #[.int .i64 1, .int .i64 2])).run Try.prog W = .ok (.bool true) W := fun W => by rw [run_eql_struct, eqPlace 1 2 1 2 9998 W]; rfl
    have HS8 := Lib.hid (HS7.out.grow g8)
    go_wp2_with fail
    refine (live_map HS8.out 1 (by omega)).mono ?_
    rintro e w9 ⟨g9, ps, hnd, hps, hwp, rfl⟩
    have hone : ps = [⟨1, 2⟩] := by
      have hm : ∀ q ∈ ps, q = ⟨1, 2⟩ := fun q hq => by
        have h1 := (hps q (hwp q hq)).1 hq
        unfold putH dropH noA noH at h1
        by_cases e : q = ⟨1, 2⟩
        · exact e
        · rw [if_neg e] at h1; cases h1
      have h2 : (⟨1, 2⟩ : Pl) ∈ ps := (hps _ wfp).2 rfl
      match ps, hnd, hm, h2 with
      | [x], _, hm, _ => rw [hm x (by simp)]
      | x :: y :: r, hnd, hm, _ =>
        have e1 := hm x (by simp)
        have e2 := hm y (by simp)
        rw [e1, e2] at hnd
        simp at hnd
    subst hone
    have HS9 := Lib.hid (HS8.out.grow g9)
    clear hnd hps hwp
    go_wp2_with fail
    refine (pages_map HS9.out (by omega)).mono ?_
    rintro e w10 ⟨v, ks, rfl, k1, k2, k3, k4, k5⟩
    have hks : ks = [3] := by
      have hm : ∀ q ∈ ks, q = 3 := fun q hq => by
        have h1 := ((k2 q).1 hq).2
        unfold putA dropA noA at h1
        by_cases e : q = 3
        · exact e
        · rw [if_neg e, if_neg e] at h1; cases h1
      have h2 : (3 : Int) ∈ ks := (k2 3).2 ⟨wf3, rfl⟩
      match ks, k1, hm, h2 with
      | [x], _, hm, _ => rw [hm x (by simp)]
      | x :: y :: r, k1, hm, _ =>
        have e1 := hm x (by simp)
        have e2 := hm y (by simp)
        rw [e1, e2] at k1
        simp at k1
    subst hks
    have HK := Lib.hid k3
    clear k1 k2 k3 k5
    go_wp2_with fail
    have hlit : Ints (w10.alloc (.cells #[.int .i64 3] 3)) (.slice (some ⟨w10.heap.size, 0, none⟩) 1 1) [3] := lit_reads (R := IntR) (fun x => [.int .i64 x]) (fun _ => rfl) w10 [3] 3 (fun _ => rfl)
    refine (sameInts_any v _ [3] [3] _ (Ints.grow HK.out ((Grow.refl w10).alloc _)) hlit (by simp)).mono ?_
    rw [same_yes rfl]
    rintro e w11 ⟨rfl, g11⟩
    go_wp2_with fail
    refine (new_no ⟨0, 0, 0, 0, 0⟩ w11 none_may).mono ?_
    rintro e w12 ⟨rfl, g12⟩
    go_wp2_with fail
    go_ret
    exact ⟨rfl, ((((((gw.trans HG7.out).trans g8).trans g9).trans k4).alloc _).trans g11).trans g12⟩
end Go.Proofs.Ytcfkpaijlibjaaa
