/- The walk of coding.Size. -/
import Derived.Test.YtbdbmigkcpgmkaaDoorRead
set_option linter.unusedVariables false
set_option linter.unusedSimpArgs false
namespace Go.Proofs.YtbdbmigkcpgmkaaDoor
open Go.RowKit Go.Lib
def sizeS (s : Shelf) : Nat := if mayS s = true then (layB s).length else 0
theorem ret_i64 {x y : Int} (h : x = y) : Ending.returned (.int .i64 x) = .returned (.int .i64 y) := by rw [h]
set_option maxRecDepth 100000 in
theorem size_any (s : Shelf) (bv nv : Value) (w : World) (h : ShelfR w s bv nv) (hz : TameS s) (hT : Tabs w) :
    Calls Tryd.prog 27 #[shelfV s bv nv] w fun e w' => e = .returned (.int .i64 (sizeS s)) ∧ Grow w w' := by
  have g0 : Grow w (w.alloc (.cells #[.int .i64 s.nb, .int .i64 s.nn, .int .i64 s.ns, bv, nv] 36)) := (Grow.refl w).alloc _
  have c0 := lay_any s bv nv _ (h.grow g0) hz (hT.below g0)
  obtain ⟨a1, c1, rfl⟩ := h.1.mk
  obtain ⟨a2, c2, rfl⟩ := h.2.mk
  clear h hz hT
  unfold shelfV at c0 ⊢
  go_enter Tryd.func27, Tryd.ntmps27
  go_wp2_with fail
  refine c0.mono ?_
  rintro e w1 hp
  rcases hp with ⟨hm, rfl, g1⟩ | ⟨hm, v, rfl, hb⟩
  · have HM := Lib.hid (show sizeS s = 0 by unfold sizeS; rw [hm]; rfl)
    clear hm
    go_wp2_with fail
    go_ret
    exact ⟨ret_i64 (by rw [HM.out]; rfl), g0.trans g1⟩
  · have HM := Lib.hid (show sizeS s = (layB s).length by unfold sizeS; rw [hm]; rfl)
    clear hm
    have hg := hb.grow
    obtain ⟨a, c, e⟩ := hb.bytes.mk
    subst e
    clear hb
    go_wp2_with fail
    go_ret
    exact ⟨ret_i64 (by rw [HM.out]), g0.trans hg⟩
end Go.Proofs.YtbdbmigkcpgmkaaDoor
