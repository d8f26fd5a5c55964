/- The methods of no map. -/
import Derived.Test.YtcfkpaijlibjaaaPMap
import Derived.Test.YtcfkpaijlibjaaaGeom
set_option linter.unusedVariables false
set_option linter.unusedSimpArgs false
namespace Go.Proofs.Ytcfkpaijlibjaaa
open Go.RowKit Go.Lib Go.Maps
set_option maxRecDepth 100000 in
theorem at_nil (x : Int) (w : World) : Calls Try.prog 25 #[.pointer none, .int .i64 x] w fun e w' => e = .returned (.tuple #[.agg #[.int .i64 0, .int .i64 0], .bool false]) ∧ Grow w w' := by
  go_enter Try.func25, Try.ntmps25
  go_wp2_with fail
  refine bodyPost_ret (v := .tuple #[.agg #[.int .i64 0, .int .i64 0], .bool false]) ?_ rfl ?_
  · rw [results_cell_tmp rfl]
    go_simp
  · exact ⟨rfl, by repeat' (first | with_reducible exact Grow.refl _ | with_reducible refine Grow.set ?_ (by simp) _ | with_reducible refine Grow.alloc ?_ _)⟩
set_option maxRecDepth 100000 in
theorem who_nil (x y : Int) (w : World) : Calls Try.prog 26 #[.pointer none, .agg #[.int .i64 x, .int .i64 y]] w fun e w' => e = .returned (.tuple #[.int .i64 0, .bool false]) ∧ Grow w w' := by
  go_enter Try.func26, Try.ntmps26
  go_wp2_with fail
  refine bodyPost_ret (v := .tuple #[.int .i64 0, .bool false]) (by simp [results, Try.results26, go_sem]) rfl ⟨rfl, ?_⟩
  exact (Grow.refl w).alloc _
set_option maxRecDepth 100000 in
theorem put_nil (x a b : Int) (w : World) : Calls Try.prog 23 #[.pointer none, .int .i64 x, .agg #[.int .i64 a, .int .i64 b]] w fun e w' => e = .returned (.bool false) ∧ Grow w w' := by
  go_enter Try.func23, Try.ntmps23
  go_wp2_with fail
  go_quiet (fail)
  go_wp2_with fail
  go_ret
  exact ⟨rfl, ((Grow.refl _).alloc _).drewN _⟩
set_option maxRecDepth 100000 in
theorem drop_nil (x : Int) (w : World) : Calls Try.prog 22 #[.pointer none, .int .i64 x] w fun e w' => e = .returned (.bool false) ∧ Grow w w' := by
  go_enter Try.func22, Try.ntmps22
  go_wp2_with fail
  refine (at_nil x w).mono ?_
  rintro e w1 ⟨rfl, g1⟩
  go_wp2_with fail
  go_ret
  exact ⟨rfl, g1.alloc _⟩
set_option maxRecDepth 100000 in
theorem live_nil (x : Int) (w : World) : Calls Try.prog 27 #[.pointer none, .int .i64 x] w fun e w' => e = .returned (.int .i64 0) ∧ Grow w w' := by
  go_enter Try.func27, Try.ntmps27
  go_wp2_with fail
  go_ret
  exact ⟨rfl, Grow.refl _⟩
set_option maxRecDepth 100000 in
theorem pages_nil (w : World) : Calls Try.prog 24 #[.pointer none] w fun e w' => e = .returned (.slice none 0 0) ∧ Grow w w' := by
  go_enter Try.func24, Try.ntmps24
  go_wp2_with fail
  go_ret
  exact ⟨rfl, Grow.refl _⟩
set_option maxRecDepth 100000 in
theorem copy_nil (w : World) : Calls Try.prog 29 #[.pointer none] w fun e w' => e = .returned (.pointer none) ∧ Grow w w' := by
  go_enter Try.func29, Try.ntmps29
  go_wp2_with fail
  go_ret
  exact ⟨rfl, Grow.refl _⟩
end Go.Proofs.Ytcfkpaijlibjaaa
