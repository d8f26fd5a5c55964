/- The walks of packages name and jotterref3: what each function answers. -/
import Derived.Test.YtnajccljdjllgaaDoorShelf
import Derived.Test.YtnajccljdjllgaaDoorUtf
import Derived.WalkKit
import Derived.Below
import Derived.Deep.QuietTactic
import Derived.BigQuiet
import Derived.WalkLawsBesides
import Derived.WalkSpells
import Derived.Lib.Hide
import Derived.Outline
import Derived.Laws.RangeString
import Derived.Laws.RangeAny
import Derived.LoopTactic
import Derived.Deep.LoopGhost
set_option linter.unusedVariables false
set_option linter.unusedSimpArgs false
namespace Go.Proofs.YtnajccljdjllgaaDoor
open Go.RowKit Go.Lib
theorem ret_int {k : IntKind} {a b : Int} (h : a = b) : Ending.returned (.int k a) = .returned (.int k b) := by rw [h]
theorem ret_bool {a b : Bool} (h : a = b) : Ending.returned (.bool a) = .returned (.bool b) := by rw [h]

def oddB (r : Int) : Bool := decide (r < 32) || (decide (127 ≤ r) && decide (r ≤ 159)) || r == 47
theorem odd_any (r : Int) (w : World) :
    Calls Tryd.prog 80 #[.int .i32 r] w fun e w' => e = .returned (.bool (oddB r)) ∧ w = w' := by
  unfold oddB
  by_cases c1 : r < 32
  · go_enter Tryd.func80, Tryd.ntmps80
    go_wp2
    go_ret
    exact ⟨ret_bool (by simp [c1]), rfl⟩
  · by_cases c2 : 127 ≤ r
    · by_cases c3 : r ≤ 159
      · go_enter Tryd.func80, Tryd.ntmps80
        go_wp2
        go_ret
        exact ⟨ret_bool (by simp [c2, c3]), rfl⟩
      · go_enter Tryd.func80, Tryd.ntmps80
        go_wp2
        go_ret
        exact ⟨ret_bool (by rw [Bool.eq_iff_iff]; simp <;> omega), rfl⟩
    · go_enter Tryd.func80, Tryd.ntmps80
      go_wp2
      go_ret
      exact ⟨ret_bool (by rw [Bool.eq_iff_iff]; simp <;> omega), rfl⟩
theorem oddB_nat (x : Nat) : oddB x = oddN x := by
  unfold oddB oddN
  rw [Bool.eq_iff_iff]; simp; omega
set_option maxRecDepth 100000 in
theorem odd_runes (w : World) : PredAtRunes Tryd.prog 80 #[] oddN w := fun W x hx hb => by
  refine (odd_any (x : Int) W).mono ?_
  rintro e w' ⟨rfl, rfl⟩
  exact ⟨by rw [oddB_nat], 0, rfl⟩

/-- The tables of utf8 stand as its text lays them. -/
def Tabs (w : World) : Prop := Lib.Utf8Tabs (Tryd.laysValid_ren.g 3) (Tryd.laysValid_ren.g 4) w
theorem Tabs.below {w w' : World} (h : Tabs w) (hb : Below w.heap.size w w') : Tabs w' := Utf8Tabs_below h hb

theorem valid_any (s : ByteArray) (w : World) (hs : s.size ≤ 1000000000) (hT : Tabs w) :
    Calls Tryd.prog 78 #[.string s] w fun e w' => e = .returned (.bool (whole s)) ∧ Below w.heap.size w w' := by
  have h := Tryd.utf8_ValidString s w (by omega) hT
  rw [validD_whole] at h
  exact h
set_option maxRecDepth 100000 in
theorem contains_odd (s : ByteArray) (w : World) :
    Calls Tryd.prog 79 #[.string s, .func (.func 80) #[] #[]] w fun e w' => e = .returned (.bool (decide (0 ≤ idxFunc oddN true s))) ∧ Below w.heap.size w w' :=
  Tryd.strings_ContainsFunc_runes 80 #[] (fun _ _ => rfl) oddN s w (odd_runes w)

theorem byte_get (s : ByteArray) (i : Nat) (h : i < s.size) : (s[i]'h).toNat = byteAt s i := by
  unfold byteAt; rw [Utf8W.get!_of_lt s i h]
set_option maxRecDepth 100000 in
theorem may_any (s : ByteArray) (w : World) (hs : s.size ≤ 1000000000) (hT : Tabs w) :
    Calls Tryd.prog 40 #[.string s] w fun e w' => e = .returned (.bool (mayB s)) ∧ Below w.heap.size w w' := by
  have cV := valid_any s w hs hT
  have cC := contains_odd s
  rw [may_prog, validD_whole]
  by_cases c1 : (1 : Int) ≤ s.size ∧ (s.size : Int) ≤ 20
  · obtain ⟨c1, c2⟩ := c1
    rw [decide_eq_true (show 1 ≤ s.size by omega), decide_eq_true (show s.size ≤ 20 by omega), Bool.true_and, Bool.true_and]
    cases hv : whole s
    · rw [hv] at cV; clear hv
      go_enter Tryd.func40, Tryd.ntmps40
      go_wp2_with (go_at_call 78; refine cV.mono ?_; rintro e w1 ⟨rfl, hb⟩)
      go_ret
      exact ⟨by simp, hb⟩
    · rw [hv] at cV; clear hv
      rw [Bool.true_and]
      cases ho : decide (0 ≤ idxFunc oddN true s)
      · simp only [ho] at cC; clear ho
        have h0 : 0 < s.size := by omega
        have h0' : (0 : Int) < s.size := by omega
        have b0 := byte_get s 0 h0
        have b1 := byte_get s (s.size - 1) (by omega)
        have B0 := Lib.hid b0
        have B1 := Lib.hid b1
        clear b0 b1
        go_enter Tryd.func40, Tryd.ntmps40
        go_wp2_with (first | (go_at_call 78; refine cV.mono ?_; rintro e w1 ⟨rfl, hb⟩) | (go_at_call 79; refine (cC _).mono ?_; rintro e w2 ⟨rfl, hb2⟩))
        all_goals go_ret
        all_goals refine ⟨ret_bool ?_, hb.trans (hb2.mono hb.size)⟩
        all_goals rw [← B0.out, ← B1.out, Bool.eq_iff_iff]
        all_goals simp <;> omega
      · simp only [ho] at cC; clear ho
        go_enter Tryd.func40, Tryd.ntmps40
        go_wp2_with (first | (go_at_call 78; refine cV.mono ?_; rintro e w1 ⟨rfl, hb⟩) | (go_at_call 79; refine (cC _).mono ?_; rintro e w2 ⟨rfl, hb2⟩))
        go_ret
        exact ⟨by simp, hb.trans (hb2.mono hb.size)⟩
  · have hm : (decide (1 ≤ s.size) && decide (s.size ≤ 20)) = false := by
      rw [Bool.eq_false_iff]; simp; omega
    rw [hm]; simp only [Bool.false_and]
    by_cases c2 : (1 : Int) ≤ s.size
    · have c3 : ¬ (s.size : Int) ≤ 20 := by omega
      go_enter Tryd.func40, Tryd.ntmps40
      go_wp2_with fail
      go_ret
      exact ⟨rfl, Below.refl _ _⟩
    · go_enter Tryd.func40, Tryd.ntmps40
      go_wp2_with fail
      go_ret
      exact ⟨rfl, Below.refl _ _⟩

end Go.Proofs.YtnajccljdjllgaaDoor
