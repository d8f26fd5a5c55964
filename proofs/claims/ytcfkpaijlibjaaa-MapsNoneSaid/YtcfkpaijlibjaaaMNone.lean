/- The walk of the law MapsNone. -/
import Derived.Test.YtcfkpaijlibjaaaAwk
set_option linter.unusedVariables false
set_option linter.unusedSimpArgs false
namespace Go.Proofs.Ytcfkpaijlibjaaa
open Go.RowKit Go.Lib Go.Maps
set_option maxRecDepth 100000 in
set_option maxHeartbeats 4000000 in
theorem none13_walk (n : Int) (w : World) (hw : Wf n) : Calls Try.prog 10 #[.int .i64 n] w fun e w' => e = .returned (.bool true) ∧ Grow w w' := by
  clear hw
  have hq : ∀ W : World, (binOp .eql 28 (.agg #[.int .i64 0, .int .i64 0]) (.agg #[.int .i64 0, .int .i64 0])).run Try.prog W = .ok (.bool true) W := fun W => by rw [run_eql_struct, eqPlace 0 0 0 0 9998 W]; rfl
  go_enter Try.func10, Try.ntmps10
  go_wp2_with fail
  refine (at_nil n w).mono ?_
  rintro e w1 ⟨rfl, g1⟩
  have HB := Lib.hid (heap_alloc_new w1 (plO 0 0))
  have g1' := g1.alloc (plO 0 0)
  go_wp2_with fail
  refine (who_nil 0 0 _).mono ?_
  rintro e w2 ⟨rfl, g2⟩
  go_wp2_with fail
  refine (put_nil n 0 0 _).mono ?_
  rintro e w3 ⟨rfl, g3⟩
  go_wp2_with fail
  refine (drop_nil n _).mono ?_
  rintro e w4 ⟨rfl, g4⟩
  obtain ⟨q0, q1⟩ := box2 (((g2.trans g3).trans g4).blk HB.out)
  go_wp2_with fail
  refine (live_nil n _).mono ?_
  rintro e w5 ⟨rfl, g5⟩
  go_wp2_with fail
  refine (pages_nil _).mono ?_
  rintro e w6 ⟨rfl, g6⟩
  go_wp2_with fail
  refine (copy_nil _).mono ?_
  rintro e w7 ⟨rfl, g7⟩
  go_wp2_with fail
  refine (awake13_any _).mono ?_
  rintro e w8 ⟨rfl, g8⟩
  go_wp2_with fail
  go_ret
  exact ⟨rfl, ((((((g1'.trans g2).trans g3).trans g4).trans g5).trans g6).trans g7).trans g8⟩
end Go.Proofs.Ytcfkpaijlibjaaa
