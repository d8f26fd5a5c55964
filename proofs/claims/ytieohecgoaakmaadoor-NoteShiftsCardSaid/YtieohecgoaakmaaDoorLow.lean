/- The walk of jotterlaw0.Low: a number, from 0 to below n. -/
import Derived.Test.YtieohecgoaakmaaDoorProg
import Derived.Test.YtieohecgoaakmaaDoorBase
import Derived.WalkKit
import Derived.Deep.QuietTactic
import Derived.BigQuiet
import Derived.WalkLawsBesides
import Derived.WalkSpells
import Derived.Outline
set_option linter.unusedVariables false
set_option linter.unusedSimpArgs false
namespace Go.Proofs.YtieohecgoaakmaaDoor
open Go.RowKit Go.Lib
def lowI (x n : Int) : Int := (x % 18446744073709551616) % n
theorem lowI_bd (x n : Int) (h : 1 ≤ n) : 0 ≤ lowI x n ∧ lowI x n < n := ⟨Int.emod_nonneg _ (by omega), Int.emod_lt_of_pos _ (by omega)⟩
set_option maxRecDepth 100000 in
theorem low_any (x n : Int) (w : World) (h1 : 1 ≤ n) (h2 : n ≤ 1000000) :
    Calls Tryd.prog 25 #[.int .i64 x, .int .i64 n] w fun e w' => e = .returned (.int .i64 (lowI x n)) ∧ w = w' := by
  go_enter Tryd.func25, Tryd.ntmps25
  go_wp2_with fail
  go_ret
  refine ⟨ret_int ?_, rfl⟩
  have e : IntKind.u64.wrap x = x % 18446744073709551616 := rfl
  have hb := lowI_bd x n h1
  rw [e, Int.tmod_eq_emod_of_nonneg (Int.emod_nonneg _ (by decide))]
  show wrap64 (lowI x n) = lowI x n
  generalize lowI x n = y at *
  unfold wrap64; omega
end Go.Proofs.YtieohecgoaakmaaDoor
