/- The walk of coding.Read. -/
import Derived.Test.YtbdbmigkcpgmkaaDoorLay
import Derived.Test.YtbdbmigkcpgmkaaDoorRd
import Derived.Test.YtbdbmigkcpgmkaaDoorScope
import Derived.Deep.LoopGhost
set_option linter.unusedVariables false
set_option linter.unusedSimpArgs false
namespace Go.Proofs.YtbdbmigkcpgmkaaDoor
open Go.RowKit Go.Lib
theorem heap_alloc2 (w : World) (A B : Obj) : ((w.alloc A).alloc B).heap[w.heap.size + 1]? = some B := by
  have h := heap_alloc_new (w.alloc A) B
  have e : (w.alloc A).heap.size = w.heap.size + 1 := by simp
  rw [e] at h; exact h
set_option maxRecDepth 100000 in
set_option maxHeartbeats 4000000 in
theorem read_nil (w : World) :
    Calls Tryd.prog 31 #[.slice none 0 0] w fun e w' => e = .returned (.tuple #[.agg #[.int .i64 0, .int .i64 0, .int .i64 0, .slice none 0 0, .slice none 0 0], .int .i64 5]) ∧ Grow w w' := by
  go_enter Tryd.func31, Tryd.ntmps31
  go_wp2_with fail
  refine wp_scope_fuel 4 ?_
  go_wp2_with fail
  generalize hW : (w.alloc (.cells #[.int .i64 0, .int .i64 0, .int .i64 0, .slice none 0 0, .slice none 0 0] 36)).alloc (.cells #[.slice none 0 0, .bool false] 75) = W
  have hR : Rd w (w.heap.size + 1) [] false W := ⟨by rw [← hW]; exact ((Grow.refl w).alloc _).alloc _, by omega, .slice none 0 0, by rw [← hW]; exact heap_alloc2 w _ _, Reads.nil⟩
  have hz : W.heap.size = w.heap.size + 2 := by rw [← hW]; simp
  have hd : W.heap[w.heap.size]? = some (.cells #[.int .i64 0, .int .i64 0, .int .i64 0, .slice none 0 0, .slice none 0 0] 36 (0, 0)) := by
    rw [← hW]; exact (Below.block ((Grow.refl (w.alloc _)).alloc _) _ (by simp)).trans (heap_alloc_new w _)
  clear hW
  refine (numF_any w _ _ _ 3 W hR (by decide) (by decide)).mono ?_
  rintro e w1 ⟨rfl, t1, hR1⟩
  go_wp2_with fail
  refine (numF_any w _ _ _ 3 w1 hR1 (by decide) (by decide)).mono ?_
  rintro e w2 ⟨rfl, t2, hR2⟩
  go_wp2_with fail
  refine (numF_any w _ _ _ 3 w2 hR2 (by decide) (by decide)).mono ?_
  rintro e w3 ⟨rfl, t3, hR3⟩
  go_wp2_with fail
  refine (numF_any w _ _ _ 1 _ (Rd.grown hR3 ((Grow.refl w3).alloc _)) (by decide) (by decide)).mono ?_
  rintro e w4 ⟨rfl, t4, hR4⟩
  have hcb : w4.cell? ⟨w.heap.size + 1, 1, none⟩ = some (.bool true) := hR4.cell
  have hd4 : w4.heap[w.heap.size]? = W.heap[w.heap.size]? := by
    have hs3 : w.heap.size < w3.heap.size := by have := t3.size; have := t2.size; have := t1.size; omega
    rw [t4.block _ (by simp; omega) (by omega), Below.block ((Grow.refl w3).alloc _) _ (by have := t3.size; have := t2.size; have := t1.size; omega), t3.block _ (by have := t2.size; have := t1.size; omega) (by omega), t2.block _ (by have := t1.size; omega) (by omega), t1.block _ (by omega) (by omega)]
  replace hd := hd4.trans hd
  have e0 := (cell_of_row w4 w.heap.size 0 _ _ _ hd).trans rfl
  have f0 := frozen_of_row w4 w.heap.size 0 _ _ hd
  have e1 := (cell_of_row w4 w.heap.size 1 _ _ _ hd).trans rfl
  have f1 := frozen_of_row w4 w.heap.size 1 _ _ hd
  have e2 := (cell_of_row w4 w.heap.size 2 _ _ _ hd).trans rfl
  have f2 := frozen_of_row w4 w.heap.size 2 _ _ hd
  have e3 := (cell_of_row w4 w.heap.size 3 _ _ _ hd).trans rfl
  have f3 := frozen_of_row w4 w.heap.size 3 _ _ hd
  have e4 := (cell_of_row w4 w.heap.size 4 _ _ _ hd).trans rfl
  have f4 := frozen_of_row w4 w.heap.size 4 _ _ hd
  have hg4 := hR4.grow
  clear hR hR1 hR2 hR3 t1 t2 t3 t4 hd4 hd hR4 hz
  go_wp2_with fail
  go_step3
  go_wp2_with fail
  go_step3
  refine Exists.intro _ (And.intro rfl ?_)
  go_wp2_with fail
  (try simp only [Exit.inBlock, Exit.then])
  refine bodyPost_ret (v := .tuple #[.agg #[.int .i64 0, .int .i64 0, .int .i64 0, .slice none 0 0, .slice none 0 0], .int .i64 5]) ?_ rfl ?_
  · rw [results_cell_tmp rfl]
    go_simp
  · exact ⟨rfl, by repeat' (first | exact hg4 | refine Grow.set ?_ (by simp) _)⟩
def eleven : List UInt8 := [0, 0, 1, 0, 0, 1, 0, 0, 1, 0, 0]
def emptyS : Shelf := ⟨1, 1, 1, [], []⟩
theorem emptyS_tame : TameS emptyS := ⟨⟨by simp [emptyS], by simp [emptyS], by simp [emptyS], by simp [emptyS]⟩, by simp [emptyS]⟩
set_option maxRecDepth 100000 in
set_option maxHeartbeats 4000000 in
theorem read_eleven (v : Value) (w : World) (h : Bytes w v eleven) (hT : Tabs w) :
    Calls Tryd.prog 31 #[v] w fun e w' => e = .returned (.tuple #[.agg #[.int .i64 1, .int .i64 1, .int .i64 1, .slice none 0 0, .slice none 0 0], .int .i64 0]) ∧ Grow w w' := by
  have HV := Lib.hid h
  obtain ⟨a, c, rfl⟩ := h.mk
  clear h
  go_enter Tryd.func31, Tryd.ntmps31
  go_wp2_with fail
  refine wp_scope_fuel 4 ?_
  go_wp2_with fail
  generalize hW : (w.alloc (.cells #[.int .i64 0, .int .i64 0, .int .i64 0, .slice none 0 0, .slice none 0 0] 36)).alloc (.cells #[.slice a eleven.length c, .bool false] 75) = W
  have hR : Rd w (w.heap.size + 1) eleven false W := ⟨by rw [← hW]; exact ((Grow.refl w).alloc _).alloc _, by omega, .slice a eleven.length c, by rw [← hW]; exact heap_alloc2 w _ _, HV.out⟩
  have hz : W.heap.size = w.heap.size + 2 := by rw [← hW]; simp
  have hd : W.heap[w.heap.size]? = some (.cells #[.int .i64 0, .int .i64 0, .int .i64 0, .slice none 0 0, .slice none 0 0] 36 (0, 0)) := by
    rw [← hW]; exact (Below.block ((Grow.refl (w.alloc _)).alloc _) _ (by simp)).trans (heap_alloc_new w _)
  clear hW HV
  refine (numF_any w _ _ _ 3 W hR (by decide) (by decide)).mono ?_
  rintro e w1 ⟨rfl, t1, hR1⟩
  go_wp2_with fail
  refine (numF_any w _ _ _ 3 w1 hR1 (by decide) (by decide)).mono ?_
  rintro e w2 ⟨rfl, t2, hR2⟩
  go_wp2_with fail
  refine (numF_any w _ _ _ 3 w2 hR2 (by decide) (by decide)).mono ?_
  rintro e w3 ⟨rfl, t3, hR3⟩
  rw [show numV eleven 3 = 1 from rfl, show numV (numL eleven 3) 3 = 1 from rfl, show numV (numL (numL eleven 3) 3) 3 = 1 from rfl]
  go_wp2_with fail
  have hR3' : Rd w (w.heap.size + 1) [0, 0] false (w3.alloc (.cells #[.int .i64 1, .int .i64 1, .int .i64 1, .slice none 0 0, .slice none 0 0] 36)) := Rd.grown hR3 ((Grow.refl w3).alloc _)
  refine (numF_any w _ _ _ 1 _ hR3' (by decide) (by decide)).mono ?_
  rintro e w4 ⟨rfl, t4, hR4⟩
  rw [show numV [0, 0] 1 = 0 from rfl]
  have hR4' : Rd w (w.heap.size + 1) [0] false w4 := hR4
  have hs3 : w.heap.size + 2 ≤ w3.heap.size := by have := t3.size; have := t2.size; have := t1.size; omega
  have hs4 : w3.heap.size < w4.heap.size := by have := t4.size; simp at this; omega
  have hd4 : w4.heap[w.heap.size]? = W.heap[w.heap.size]? := by
    rw [t4.block _ (by simp; omega) (by omega), Below.block ((Grow.refl w3).alloc _) _ (by omega), t3.block _ (by have := t2.size; have := t1.size; omega) (by omega), t2.block _ (by have := t1.size; omega) (by omega), t1.block _ (by omega) (by omega)]
  have hb4 : w4.heap[w3.heap.size]? = some (.cells #[.int .i64 1, .int .i64 1, .int .i64 1, .slice none 0 0, .slice none 0 0] 36 (0, 0)) := (t4.block _ (by simp) (by omega)).trans (heap_alloc_new w3 _)
  replace hd := hd4.trans hd
  have hcb : w4.cell? ⟨w.heap.size + 1, 1, none⟩ = some (.bool false) := hR4'.cell
  clear hR hR1 hR2 hR3 t1 t2 t3 t4 hd4 hR4 hz hR3'
  go_wp2_with fail
  go_step3
  go_wp2_with fail
  refine (numF_any w _ _ _ 1 w4 hR4' (by decide) (by decide)).mono ?_
  rintro e w5 ⟨rfl, t5, hR5⟩
  rw [show numV [0] 1 = 0 from rfl]
  have hR5' : Rd w (w.heap.size + 1) [] false w5 := hR5
  have hcb5 : w5.cell? ⟨w.heap.size + 1, 1, none⟩ = some (.bool false) := hR5'.cell
  replace hd := (t5.block _ (by omega) (by omega)).trans hd
  replace hb4 := (t5.block _ (by omega) (by omega)).trans hb4
  have hg5 := hR5'.grow
  obtain ⟨-, -, vr, hbx, hvr⟩ := hR5'
  obtain ⟨ar, cr, rfl⟩ := hvr.mk
  have hcr : w5.cell? ⟨w.heap.size + 1, 0, none⟩ = some (.slice ar 0 cr) := (cell_of_row w5 _ 0 _ _ _ hbx).trans rfl
  have hs5 : w3.heap.size < w5.heap.size := by have := t5.size; omega
  clear hR4' hcb t5 hR5 hbx hvr
  have e0 := (cell_of_row w5 w.heap.size 0 _ _ _ hd).trans rfl
  have f0 := frozen_of_row w5 w.heap.size 0 _ _ hd
  have g0 := (cell_of_row w5 w3.heap.size 0 _ _ _ hb4).trans rfl
  have e1 := (cell_of_row w5 w.heap.size 1 _ _ _ hd).trans rfl
  have f1 := frozen_of_row w5 w.heap.size 1 _ _ hd
  have g1 := (cell_of_row w5 w3.heap.size 1 _ _ _ hb4).trans rfl
  have e2 := (cell_of_row w5 w.heap.size 2 _ _ _ hd).trans rfl
  have f2 := frozen_of_row w5 w.heap.size 2 _ _ hd
  have g2 := (cell_of_row w5 w3.heap.size 2 _ _ _ hb4).trans rfl
  have e3 := (cell_of_row w5 w.heap.size 3 _ _ _ hd).trans rfl
  have f3 := frozen_of_row w5 w.heap.size 3 _ _ hd
  have g3 := (cell_of_row w5 w3.heap.size 3 _ _ _ hb4).trans rfl
  have e4 := (cell_of_row w5 w.heap.size 4 _ _ _ hd).trans rfl
  have f4 := frozen_of_row w5 w.heap.size 4 _ _ hd
  have g4 := (cell_of_row w5 w3.heap.size 4 _ _ _ hb4).trans rfl
  have cM := mayS_any emptyS (.slice none 0 0) (.slice none 0 0) w5 ⟨Reads.nil, Reads.nil⟩ emptyS_tame (hT.below hg5)
  rw [show mayS emptyS = true by decide] at cM
  go_wp2_with fail
  go_step3
  go_wp2_with fail
  go_step3
  refine Exists.intro _ (And.intro rfl ?_)
  go_wp2_with fail
  refine cM.mono ?_
  rintro e w6 ⟨rfl, g6⟩
  clear e0 e1 e2 e3 e4 f0 f1 f2 f3 f4 g0 g1 g2 g3 g4 hcr hcb5 cM
  replace hd := (Below.block g6 _ (by omega)).trans hd
  replace hb4 := (Below.block g6 _ (by omega)).trans hb4
  have e0 := (cell_of_row w6 w.heap.size 0 _ _ _ hd).trans rfl
  have f0 := frozen_of_row w6 w.heap.size 0 _ _ hd
  have g0 := (cell_of_row w6 w3.heap.size 0 _ _ _ hb4).trans rfl
  have e1 := (cell_of_row w6 w.heap.size 1 _ _ _ hd).trans rfl
  have f1 := frozen_of_row w6 w.heap.size 1 _ _ hd
  have g1 := (cell_of_row w6 w3.heap.size 1 _ _ _ hb4).trans rfl
  have e2 := (cell_of_row w6 w.heap.size 2 _ _ _ hd).trans rfl
  have f2 := frozen_of_row w6 w.heap.size 2 _ _ hd
  have g2 := (cell_of_row w6 w3.heap.size 2 _ _ _ hb4).trans rfl
  have e3 := (cell_of_row w6 w.heap.size 3 _ _ _ hd).trans rfl
  have f3 := frozen_of_row w6 w.heap.size 3 _ _ hd
  have g3 := (cell_of_row w6 w3.heap.size 3 _ _ _ hb4).trans rfl
  have e4 := (cell_of_row w6 w.heap.size 4 _ _ _ hd).trans rfl
  have f4 := frozen_of_row w6 w.heap.size 4 _ _ hd
  have g4 := (cell_of_row w6 w3.heap.size 4 _ _ _ hb4).trans rfl
  have hg6 := hg5.trans g6
  clear hd hb4 hg5 g6
  go_wp2_with fail
  rw [Exit.jumps_ret]
  simp +zetaDelta only []
  refine bodyPost_ret (v := .tuple #[.agg #[.int .i64 1, .int .i64 1, .int .i64 1, .slice none 0 0, .slice none 0 0], .int .i64 0]) ?_ rfl ?_
  · rw [results_cell_tmp rfl]
    go_simp
  · exact ⟨rfl, by repeat' (first | exact hg6 | refine Grow.set ?_ (by simp) _)⟩
end Go.Proofs.YtbdbmigkcpgmkaaDoor
