/- jotterlaw0.SameInts; the geometry 'small' of chapter 13's law. -/
import Derived.Test.YtcfkpaijlibjaaaMapP
import Derived.Test.YtcfkpaijlibjaaaMapL
import Derived.Test.YtcfkpaijlibjaaaMapK
set_option linter.unusedVariables false
set_option linter.unusedSimpArgs false
namespace Go.Proofs.Ytcfkpaijlibjaaa
open Go.RowKit Go.Lib
set_option maxRecDepth 100000 in
theorem sameInts_any (va vb : Value) (l m : List Int) (w : World) (hl : Ints w va l) (hm : Ints w vb m) (hz : l.length ≤ 1000000000) :
    Calls Try.prog 35 #[va, vb] w fun e w' => e = .returned (.bool (same l m)) ∧ Grow w w' := by
  obtain ⟨a, c, rfl⟩ := hl.mk
  obtain ⟨a', c', rfl⟩ := hm.mk
  by_cases hlm : l.length = m.length
  · have hn : ((l.length : Int) != (m.length : Int)) = false := by rw [hlm]; simp
    have HLM := Lib.hid hlm
    clear hlm
    go_enter Try.func35, Try.ntmps35
    go_wp2
    go_loopw [5] (fun v5 wx => Grow w wx ∧ ∃ i : Nat, v5 = .int .i64 i ∧ i ≤ l.length ∧ ∀ j x y, j < i → l[j]? = some x → m[j]? = some y → x = y) (fun v5 _ => l.length - (Go.RowKit.intOf v5).toNat)
    case atStart => exact ⟨Grow.refl _, 0, rfl, by omega, fun j _ _ h => absurd h (by omega)⟩
    case round =>
      obtain ⟨hg, i, rfl, hi, hall⟩ := hrel
      have HA := Lib.hid hall
      clear hall hn
      by_cases hlt : i < l.length
      · have hlt' : (i : Int) < l.length := by omega
        have hlm' : (i : Int) < m.length := by have := HLM.out; omega
        obtain ⟨x, hx, -⟩ := lt_get hlt
        obtain ⟨y, hy, -⟩ := lt_get (l := m) (i := i) (by omega)
        obtain ⟨b, off, rfl, -, hc⟩ := Ints.at (Ints.grow hl hg) hx
        obtain ⟨b', off', rfl, -, hc'⟩ := Ints.at (Ints.grow hm hg) hy
        have HX := Lib.hid hx
        have HY := Lib.hid hy
        clear hx hy hl hm
        by_cases hxy : x = y
        · have hq : (x != y) = false := by rw [hxy]; simp
          have HXY := Lib.hid hxy
          clear hxy
          go_wp2
          go_quiet (fail)
          go_wp2
          go_roundw
          case rel => exact ⟨hg.drewN _, i + 1, by go_num, by omega, fun j x' y' hj h1 h2 => by
            rcases (by omega : j < i ∨ j = i) with h3 | rfl
            · exact HA.out j x' y' h3 h1 h2
            · rw [HX.out] at h1; rw [HY.out] at h2; injection h1 with h1; injection h2 with h2; rw [← h1, ← h2]; exact HXY.out⟩
          case measure => simp [Go.RowKit.intOf]; omega
        · have hq : (x != y) = true := by rw [bne_iff_ne]; exact hxy
          have HR := Lib.hid (same_no (a := l) (b := m) (fun e => hxy (by have h1 := HX.out; rw [e, HY.out] at h1; injection h1 with h1; exact h1.symm)))
          clear hxy
          go_wp2
          go_quiet (fail)
          go_wp2
          go_ret
          exact ⟨ret_bool HR.out.symm, hg.drewN _⟩
      · have HR := Lib.hid (same_yes (list_same HLM.out (fun j x y h1 h2 => HA.out j x y (by have := (List.getElem?_eq_some_iff.1 h1).1; omega) h1 h2)))
        have hlt' : ¬ (i : Int) < l.length := by omega
        clear hl hm
        go_wp2
        go_ret
        exact ⟨ret_bool HR.out.symm, hg⟩
  · have hn : ((l.length : Int) != (m.length : Int)) = true := by rw [bne_iff_ne]; omega
    have HR := Lib.hid (same_no (a := l) (b := m) (fun e => hlm (by rw [e])))
    clear hlm hl hm
    go_enter Try.func35, Try.ntmps35
    go_wp2
    go_ret
    exact ⟨ret_bool HR.out.symm, Grow.refl _⟩
abbrev smallG : Geo := ⟨8, 4, 32, 0, 2⟩
set_option maxRecDepth 100000 in
theorem small_any (w : World) : Calls Try.prog 45 #[] w fun e w' => e = .returned (geoV smallG) ∧ Grow w w' := by
  go_enter Try.func45, Try.ntmps45
  go_wp2_with fail
  refine bodyPost_ret (v := geoV smallG) (by simp [results, Try.results45, go_sem]) rfl ⟨rfl, ?_⟩
  exact (Grow.refl w).alloc _
theorem small_may : mayG smallG = true := by decide
theorem none_may : mayG ⟨0, 0, 0, 0, 0⟩ = false := by decide
def noA : Int → Option Pl := fun _ => none
def noH : Pl → Option Int := fun _ => none
theorem ok3 : putOk smallG noH 3 ⟨1, 2⟩ = true := by decide
theorem no4 : putOk smallG (putH noA noH 3 ⟨1, 2⟩) 4 ⟨1, 2⟩ = false := by decide
end Go.Proofs.Ytcfkpaijlibjaaa
