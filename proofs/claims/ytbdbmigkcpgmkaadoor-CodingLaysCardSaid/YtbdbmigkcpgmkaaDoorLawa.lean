/- The walks of the laws NameTells and NameRunes. -/
import Derived.Test.YtbdbmigkcpgmkaaDoorNameb
set_option linter.unusedVariables false
set_option linter.unusedSimpArgs false
namespace Go.Proofs.YtbdbmigkcpgmkaaDoor
open Go.RowKit Go.Lib
set_option maxRecDepth 100000 in
set_option maxHeartbeats 1000000 in
theorem nameTells_walk (a b : ByteArray) (w : World) (ha : a.size ≤ 140737488351232) (hb : b.size ≤ 140737488351232) (hT : Tabs w) :
    Calls Tryd.prog 3 #[.string a, .string b] w fun e w' => e = .returned (.bool true) ∧ Below w.heap.size w w' := by
  have cA := awake3_any
  by_cases h1 : (200 : Int) < a.size
  · go_enter Tryd.func3, Tryd.ntmps3
    go_wp2_with (go_at_call 12; refine (cA w hT).mono ?_; rintro e w1 ⟨rfl, b1⟩)
    go_ret
    exact ⟨rfl, b1⟩
  by_cases h2 : (200 : Int) < b.size
  · go_enter Tryd.func3, Tryd.ntmps3
    go_wp2_with (go_at_call 12; refine (cA w hT).mono ?_; rintro e w1 ⟨rfl, b1⟩)
    go_ret
    exact ⟨rfl, b1⟩
  have hs : a.size ≤ 1000000000 := by omega
  have c1 := runes_any a w hs hT
  have c2 := fun w => ref_runes a w hs
  have c3 := fun w => may_any a w hs
  have c4 := fun w => ref_may a w hs
  generalize runesN a = n at *
  generalize whole a = v at *
  generalize mayB a = m at *
  go_enter Tryd.func3, Tryd.ntmps3
  go_wp2_with fail
  refine c1.mono ?_
  rintro e w1 ⟨rfl, b1⟩
  go_wp2_with fail
  refine (c2 _).mono ?_
  rintro e w1' ⟨rfl, rfl⟩
  go_wp2_with fail
  refine (c3 _ (hT.below b1)).mono ?_
  rintro e w2 ⟨rfl, b2⟩
  have B2 := b1.trans (b2.mono b1.size)
  clear b1 b2
  go_wp2_with fail
  refine (c4 _).mono ?_
  rintro e w2' ⟨rfl, rfl⟩
  go_wp2_with fail
  refine (less_any _ _ _).mono ?_
  rintro e w2' ⟨rfl, rfl⟩
  go_wp2_with fail
  refine (cA _ (hT.below B2)).mono ?_
  rintro e w3 ⟨rfl, b3⟩
  go_wp2_with fail
  go_ret
  exact ⟨rfl, B2.trans (b3.mono B2.size)⟩

theorem may_whole {s : ByteArray} (h : mayB s = true) : whole s = true ∧ 1 ≤ s.size ∧ s.size ≤ 20 := by
  rw [may_prog, validD_whole] at h
  simp at h
  exact ⟨h.1.1.1.2, h.1.1.1.1.1, h.1.1.1.1.2⟩
theorem runes_pos {s : ByteArray} (h : whole s = true) (h1 : 1 ≤ s.size) : 1 ≤ runesN s ∧ runesN s ≤ s.size := by
  refine ⟨?_, ?_⟩
  · rw [runesN_yes h]
    obtain ⟨k, hk⟩ : ∃ k, s.size = k + 1 := ⟨s.size - 1, by omega⟩
    rw [hk, runesFrom_lt (by omega)]
    omega
  · rw [← runes_lib h]; exact runeCount_le s
set_option maxRecDepth 100000 in
set_option maxHeartbeats 1000000 in
theorem nameRunes_walk (a : ByteArray) (w : World) (ha : a.size ≤ 140737488351232) (hT : Tabs w) :
    Calls Tryd.prog 6 #[.string a] w fun e w' => e = .returned (.bool true) ∧ Below w.heap.size w w' := by
  have cA := awake3_any
  by_cases h1 : (200 : Int) < a.size
  · go_enter Tryd.func6, Tryd.ntmps6
    go_wp2_with (go_at_call 12; refine (cA w hT).mono ?_; rintro e w1 ⟨rfl, b1⟩)
    go_ret
    exact ⟨rfl, b1⟩
  have hs : a.size ≤ 1000000000 := by omega
  have c1 := runes_any a w hs hT
  have c2 := fun w => valid_any a w hs
  have c3 := fun w => may_any a w hs
  have c4 := fun w => count_any a w hs
  cases hv : whole a
  · have hm : mayB a = false := by
      cases h : mayB a
      · rfl
      · have := (may_whole h).1; rw [hv] at this; cases this
    have hn := runesN_no hv
    simp only [hv, hm, hn] at c1 c2 c3
    clear hv hm hn c4
    go_enter Tryd.func6, Tryd.ntmps6
    go_wp2_with fail
    refine c1.mono ?_
    rintro e w1 ⟨rfl, b1⟩
    go_wp2_with fail
    refine (c2 _ (hT.below b1)).mono ?_
    rintro e w2 ⟨rfl, b2⟩
    have B2 := b1.trans (b2.mono b1.size)
    clear b1 b2
    go_wp2_with fail
    refine (c3 _ (hT.below B2)).mono ?_
    rintro e w3 ⟨rfl, b3⟩
    have B3 := B2.trans (b3.mono B2.size)
    clear B2 b3
    go_wp2_with fail
    refine (cA _ (hT.below B3)).mono ?_
    rintro e w4 ⟨rfl, b4⟩
    go_wp2_with fail
    go_ret
    exact ⟨rfl, B3.trans (b4.mono B3.size)⟩
  · have hc := runes_lib hv
    simp only [hv, hc] at c1 c2 c4
    have hM : mayB a = true → (1 ≤ a.size ∧ a.size ≤ 20) ∧ 1 ≤ runesN a ∧ runesN a ≤ a.size := fun h => ⟨(may_whole h).2, runes_pos hv (may_whole h).2.1⟩
    have HM := Lib.hid hM
    clear hM
    clear hv hc
    generalize runesN a = n at *
    cases hm : mayB a
    · simp only [hm] at c3
      clear hm HM
      go_enter Tryd.func6, Tryd.ntmps6
      go_wp2_with fail
      refine c1.mono ?_
      rintro e w1 ⟨rfl, b1⟩
      go_wp2_with fail
      refine (c2 _ (hT.below b1)).mono ?_
      rintro e w2 ⟨rfl, b2⟩
      have B2 := b1.trans (b2.mono b1.size)
      clear b1 b2
      go_wp2_with fail
      refine (c4 _).mono ?_
      rintro e w2b ⟨rfl, b2⟩
      have B2b := B2.trans (b2.mono B2.size)
      clear B2 b2
      go_wp2_with fail
      refine (c3 _ (hT.below B2b)).mono ?_
      rintro e w3 ⟨rfl, b3⟩
      have B3 := B2b.trans (b3.mono B2b.size)
      clear B2b b3
      go_wp2_with fail
      refine (cA _ (hT.below B3)).mono ?_
      rintro e w4 ⟨rfl, b4⟩
      go_wp2_with fail
      go_ret
      exact ⟨rfl, B3.trans (b4.mono B3.size)⟩
    · simp only [hm] at c3
      obtain ⟨⟨h2, h3⟩, h4, h5⟩ := HM.out hm
      clear hm HM
      have h4' : (1 : Int) ≤ n := by omega
      have h5' : (n : Int) ≤ a.size := by omega
      have h3' : (a.size : Int) ≤ 20 := by omega
      go_enter Tryd.func6, Tryd.ntmps6
      go_wp2_with fail
      refine c1.mono ?_
      rintro e w1 ⟨rfl, b1⟩
      go_wp2_with fail
      refine (c2 _ (hT.below b1)).mono ?_
      rintro e w2 ⟨rfl, b2⟩
      have B2 := b1.trans (b2.mono b1.size)
      clear b1 b2
      go_wp2_with fail
      refine (c4 _).mono ?_
      rintro e w2b ⟨rfl, b2⟩
      have B2b := B2.trans (b2.mono B2.size)
      clear B2 b2
      go_wp2_with fail
      refine (c3 _ (hT.below B2b)).mono ?_
      rintro e w3 ⟨rfl, b3⟩
      have B3 := B2b.trans (b3.mono B2b.size)
      clear B2b b3
      go_wp2_with fail
      refine (cA _ (hT.below B3)).mono ?_
      rintro e w4 ⟨rfl, b4⟩
      go_wp2_with fail
      go_ret
      exact ⟨rfl, B3.trans (b4.mono B3.size)⟩
end Go.Proofs.YtbdbmigkcpgmkaaDoor
