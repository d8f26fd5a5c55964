/- The walks of what the statements share: is more than is gone through; are two alike. -/
import Derived.Test.YtnajccljdjllgaaDoorProg
import Derived.Test.YtnajccljdjllgaaDoorData
import Derived.Test.YtnajccljdjllgaaDoorBase
import Derived.Test.YtnajccljdjllgaaDoorGr
import Derived.Deep.QuietTactic
import Derived.BigQuiet
import Derived.WalkLawsBesides
import Derived.WalkSpells
import Derived.Outline
import Derived.LoopTactic
import Derived.Deep.LoopGhost
import Derived.Deep.RegionHeld3
import Derived.Deep.DeepCutAuto
import Derived.Deep.CutBlock
set_option linter.unusedVariables false
set_option linter.unusedSimpArgs false
namespace Go.Proofs.YtnajccljdjllgaaDoor
open Go.RowKit Go.Lib
def greatTexts (l : List ByteArray) (most long : Int) : Bool := decide (most < l.length) || l.any fun s => decide (long < s.size)
theorem any_no {α : Type} {l : List α} {p : α → Bool} : (∀ i (h : i < l.length), p l[i] = false) → l.any p = false := by
  intro h
  rw [List.any_eq_false]
  intro x hx
  obtain ⟨i, hi, rfl⟩ := List.getElem_of_mem hx
  rw [h i hi]; simp
theorem any_yes {α : Type} {l : List α} {p : α → Bool} {i : Nat} (h : i < l.length) (hp : p l[i] = true) : l.any p = true := by
  rw [List.any_eq_true]; exact ⟨l[i], List.getElem_mem h, hp⟩
set_option maxRecDepth 100000 in
theorem greatTexts_any (v : Value) (l : List ByteArray) (most long : Int) (w : World) (h : Texts w v l) (hl : l.length ≤ 4611686018427387904) (hm : 0 ≤ most) :
    Calls Tryd.prog 43 #[v, .int .i64 most, .int .i64 long] w fun e w' => e = .returned (.bool (greatTexts l most long)) ∧ w = w' := by
  obtain ⟨a, c, rfl⟩ := h.mk
  by_cases hb : most < (l.length : Int)
  · have HR := Lib.hid (show greatTexts l most long = true by unfold greatTexts; rw [decide_eq_true hb]; rfl)
    by_cases h0 : (0 : Int) < l.length
    · go_enter Tryd.func43, Tryd.ntmps43
      go_wp2
      refine wp_loop_rounds 1 ?_
      rw [rounds_succ]
      go_wp2
      go_ret
      exact ⟨ret_bool HR.out.symm, rfl⟩
    · exact absurd hb (by omega)
  · have hb' : ¬ most < (l.length : Int) := hb
    go_enter Tryd.func43, Tryd.ntmps43
    go_wp2
    go_loop [7] (fun v7 => ∃ i : Nat, v7 = .int .i64 i ∧ i ≤ l.length ∧ ∀ j (hj : j < l.length), j < i → decide (long < l[j].size) = false) (fun v7 => l.length - (intOf v7).toNat)
    case atStart => exact ⟨0, rfl, by omega, fun j _ h => absurd h (by omega)⟩
    case round =>
      obtain ⟨i, rfl, hi, hall⟩ := hrel
      have HA := Lib.hid hall
      clear hall
      by_cases hlt : i < l.length
      · have hlt' : (i : Int) < l.length := by omega
        obtain ⟨x, hx, hxe⟩ := lt_get hlt
        obtain ⟨b, off, rfl, hbw, hc⟩ := h.at hx
        by_cases hg : long < (x.size : Int)
        · have HR := Lib.hid (show greatTexts l most long = true by
            unfold greatTexts; rw [any_yes hlt (by rw [hxe]; exact decide_eq_true hg)]; simp)
          clear hxe hx h
          go_wp2
          go_ret
          exact ⟨ret_bool HR.out.symm, rfl⟩
        · have HX := Lib.hid hxe
          clear hxe hx h
          go_wp2
          go_round
          case rel => exact ⟨i + 1, by go_num, by omega, fun j hj h => by
            rcases (by omega : j < i ∨ j = i) with h1 | rfl
            · exact HA.out j hj h1
            · rw [HX.out]; exact decide_eq_false hg⟩
          case measure => simp [intOf]; omega
      · have HR := Lib.hid (show greatTexts l most long = false by
          unfold greatTexts; rw [decide_eq_false (by omega), any_no fun j hj => HA.out j hj (by omega)]; rfl)
        have hlt' : ¬ (i : Int) < l.length := by omega
        clear h
        go_wp2
        go_ret
        exact ⟨ret_bool (by rw [HR.out]; simp; omega), rfl⟩
set_option maxRecDepth 100000 in
theorem sameInts_any (va vb : Value) (l m : List Int) (w : World) (hl : Ints w va l) (hm : Ints w vb m) (hz : l.length ≤ 1000000000) :
    Calls Tryd.prog 64 #[va, vb] w fun e w' => e = .returned (.bool (same l m)) ∧ Grow w w' := by
  obtain ⟨a, c, rfl⟩ := hl.mk
  obtain ⟨a', c', rfl⟩ := hm.mk
  by_cases hlm : l.length = m.length
  · have hn : ((l.length : Int) != (m.length : Int)) = false := by rw [hlm]; simp
    have HLM := Lib.hid hlm
    clear hlm
    go_enter Tryd.func64, Tryd.ntmps64
    go_wp2
    go_loopw [5] (fun v5 wx => Grow w wx ∧ ∃ i : Nat, v5 = .int .i64 i ∧ i ≤ l.length ∧ ∀ j x y, j < i → l[j]? = some x → m[j]? = some y → x = y) (fun v5 _ => l.length - (intOf v5).toNat)
    case atStart => exact ⟨Grow.refl _, 0, rfl, by omega, fun j _ _ h => absurd h (by omega)⟩
    case round =>
      obtain ⟨hg, i, rfl, hi, hall⟩ := hrel
      have HA := Lib.hid hall
      clear hall hn
      by_cases hlt : i < l.length
      · have hlt' : (i : Int) < l.length := by omega
        have hlm' : (i : Int) < m.length := by have := HLM.out; omega
        obtain ⟨x, hx, -⟩ := lt_get hlt
        obtain ⟨y, hy, -⟩ := lt_get (l := m) (i := i) (by omega)
        obtain ⟨b, off, rfl, -, hc⟩ := (hl.grow hg).at hx
        obtain ⟨b', off', rfl, -, hc'⟩ := (hm.grow hg).at hy
        have HX := Lib.hid hx
        have HY := Lib.hid hy
        clear hx hy hl hm
        by_cases hxy : x = y
        · have hq : (x != y) = false := by rw [hxy]; simp
          have HXY := Lib.hid hxy
          clear hxy
          go_wp2
          go_quiet (fail)
          go_wp2
          go_roundw
          case rel => exact ⟨hg.drewN _, i + 1, by go_num, by omega, fun j x' y' hj h1 h2 => by
            rcases (by omega : j < i ∨ j = i) with h3 | rfl
            · exact HA.out j x' y' h3 h1 h2
            · rw [HX.out] at h1; rw [HY.out] at h2; injection h1 with h1; injection h2 with h2; rw [← h1, ← h2]; exact HXY.out⟩
          case measure => simp [intOf]; omega
        · have hq : (x != y) = true := by rw [bne_iff_ne]; exact hxy
          have HR := Lib.hid (same_no (a := l) (b := m) (fun e => hxy (by have h1 := HX.out; rw [e, HY.out] at h1; injection h1 with h1; exact h1.symm)))
          clear hxy
          go_wp2
          go_quiet (fail)
          go_wp2
          go_ret
          exact ⟨ret_bool HR.out.symm, hg.drewN _⟩
      · have HR := Lib.hid (same_yes (list_same HLM.out (fun j x y h1 h2 => HA.out j x y (by have := (List.getElem?_eq_some_iff.1 h1).1; omega) h1 h2)))
        have hlt' : ¬ (i : Int) < l.length := by omega
        clear hl hm
        go_wp2
        go_ret
        exact ⟨ret_bool HR.out.symm, hg⟩
  · have hn : ((l.length : Int) != (m.length : Int)) = true := by rw [bne_iff_ne]; omega
    have HR := Lib.hid (same_no (a := l) (b := m) (fun e => hlm (by rw [e])))
    clear hlm hl hm
    go_enter Tryd.func64, Tryd.ntmps64
    go_wp2
    go_ret
    exact ⟨ret_bool HR.out.symm, Grow.refl _⟩
set_option maxRecDepth 100000 in
theorem sameTexts_any (va vb : Value) (l m : List ByteArray) (w : World) (hl : Texts w va l) (hm : Texts w vb m) (hz : l.length ≤ 1000000000) :
    Calls Tryd.prog 48 #[va, vb] w fun e w' => e = .returned (.bool (same l m)) ∧ Grow w w' := by
  obtain ⟨a, c, rfl⟩ := hl.mk
  obtain ⟨a', c', rfl⟩ := hm.mk
  by_cases hlm : l.length = m.length
  · have hn : ((l.length : Int) != (m.length : Int)) = false := by rw [hlm]; simp
    have HLM := Lib.hid hlm
    clear hlm
    go_enter Tryd.func48, Tryd.ntmps48
    go_wp2
    go_loopw [5] (fun v5 wx => Grow w wx ∧ ∃ i : Nat, v5 = .int .i64 i ∧ i ≤ l.length ∧ ∀ j x y, j < i → l[j]? = some x → m[j]? = some y → x = y) (fun v5 _ => l.length - (intOf v5).toNat)
    case atStart => exact ⟨Grow.refl _, 0, rfl, by omega, fun j _ _ h => absurd h (by omega)⟩
    case round =>
      obtain ⟨hg, i, rfl, hi, hall⟩ := hrel
      have HA := Lib.hid hall
      clear hall hn
      by_cases hlt : i < l.length
      · have hlt' : (i : Int) < l.length := by omega
        have hlm' : (i : Int) < m.length := by have := HLM.out; omega
        obtain ⟨x, hx, -⟩ := lt_get hlt
        obtain ⟨y, hy, -⟩ := lt_get (l := m) (i := i) (by omega)
        obtain ⟨b, off, rfl, -, hc⟩ := (hl.grow hg).at hx
        obtain ⟨b', off', rfl, -, hc'⟩ := (hm.grow hg).at hy
        have HX := Lib.hid hx
        have HY := Lib.hid hy
        clear hx hy hl hm
        by_cases hxy : x = y
        · have hq : (x.toList == y.toList) = true := by rw [hxy]; simp
          have HXY := Lib.hid hxy
          clear hxy
          go_wp2
          go_quiet (fail)
          go_wp2
          go_roundw
          case rel => exact ⟨hg.drewN _, i + 1, by go_num, by omega, fun j x' y' hj h1 h2 => by
            rcases (by omega : j < i ∨ j = i) with h3 | rfl
            · exact HA.out j x' y' h3 h1 h2
            · rw [HX.out] at h1; rw [HY.out] at h2; injection h1 with h1; injection h2 with h2; rw [← h1, ← h2]; exact HXY.out⟩
          case measure => simp [intOf]; omega
        · have hq : (x.toList == y.toList) = false := by rw [beq_eq_false_iff_ne]; exact fun e => hxy (eq_of_tl e)
          have HR := Lib.hid (same_no (a := l) (b := m) (fun e => hxy (by have h1 := HX.out; rw [e, HY.out] at h1; injection h1 with h1; exact h1.symm)))
          clear hxy
          go_wp2
          go_quiet (fail)
          go_wp2
          go_ret
          exact ⟨ret_bool HR.out.symm, hg.drewN _⟩
      · have HR := Lib.hid (same_yes (list_same HLM.out (fun j x y h1 h2 => HA.out j x y (by have := (List.getElem?_eq_some_iff.1 h1).1; omega) h1 h2)))
        have hlt' : ¬ (i : Int) < l.length := by omega
        clear hl hm
        go_wp2
        go_ret
        exact ⟨ret_bool HR.out.symm, hg⟩
  · have hn : ((l.length : Int) != (m.length : Int)) = true := by rw [bne_iff_ne]; omega
    have HR := Lib.hid (same_no (a := l) (b := m) (fun e => hlm (by rw [e])))
    clear hlm hl hm
    go_enter Tryd.func48, Tryd.ntmps48
    go_wp2
    go_ret
    exact ⟨ret_bool HR.out.symm, Grow.refl _⟩
end Go.Proofs.YtnajccljdjllgaaDoor
