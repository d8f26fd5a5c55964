/- The walk of the law NameOrder. -/
import Derived.Test.YtbdbmigkcpgmkaaDoorUtfb
set_option linter.unusedVariables false
set_option linter.unusedSimpArgs false
namespace Go.Proofs.YtbdbmigkcpgmkaaDoor
open Go.RowKit Go.Lib
theorem less_is (a b : ByteArray) (v : Bool) (h : ltS a b = v) (w : World) : Calls Tryd.prog 17 #[.string a, .string b] w fun e w' => e = .returned (.bool v) ∧ w = w' := by
  rw [← h]; exact less_any a b w
theorem tl_eq (a : ByteArray) : (a.toList == a.toList) = true := by simp
theorem tl_ne {a b : ByteArray} (h : a ≠ b) : (a.toList == b.toList) = false := by
  rw [beq_eq_false_iff_ne]; intro e; rw [Lib.toList_data, Lib.toList_data] at e; exact h (eq_of_list e)
theorem tl_nil {a : ByteArray} : a.toList = [] ↔ a.size = 0 := by rw [Lib.toList_data, ← size_list, List.length_eq_zero_iff]
theorem low_is (x : Int) (n : Nat) (h : 1 ≤ n) (hn : n ≤ 1000000000) : ∃ k : Nat, k < n ∧ lowI x n = k ∧ wrap64 ((IntKind.u64.wrap x).tmod (n : Int)) = k := by
  obtain ⟨h0, h1⟩ := lowI_bd x n (by omega)
  obtain ⟨k, hk⟩ := Int.eq_ofNat_of_zero_le h0
  have e : IntKind.u64.wrap x = x % 18446744073709551616 := by simp [IntKind.wrap, IntKind.signed, IntKind.bits]
  refine ⟨k, by omega, hk, ?_⟩
  rw [e, Int.tmod_eq_emod_of_nonneg (Int.emod_nonneg _ (by omega)), ← hk]
  show wrap64 (lowI x n) = lowI x n
  exact IntWalk.wrap64_in _ ⟨by omega, by omega⟩
set_option maxRecDepth 100000 in
set_option maxHeartbeats 1000000 in
theorem nameOrder_walk (a b c : ByteArray) (cut : Int) (w : World) (ha : a.size ≤ 140737488351232) (hb : b.size ≤ 140737488351232) (hc : c.size ≤ 140737488351232) (hcut : (Lit.int .i64 cut).wf = true) (hT : Tabs w) :
    Calls Tryd.prog 5 #[.string a, .string b, .string c, .int .i64 cut] w fun e w' => e = .returned (.bool true) ∧ Below w.heap.size w w' := by
  have cA := awake3_any
  clear hcut
  by_cases h1 : (200 : Int) < a.size
  · go_enter Tryd.func5, Tryd.ntmps5
    go_wp2_with (go_at_call 12; refine (cA w hT).mono ?_; rintro e w1 ⟨rfl, b1⟩)
    go_ret
    exact ⟨rfl, b1⟩
  by_cases h2 : (200 : Int) < b.size
  · go_enter Tryd.func5, Tryd.ntmps5
    go_wp2_with (go_at_call 12; refine (cA w hT).mono ?_; rintro e w1 ⟨rfl, b1⟩)
    go_ret
    exact ⟨rfl, b1⟩
  by_cases h3 : (200 : Int) < c.size
  · go_enter Tryd.func5, Tryd.ntmps5
    go_wp2_with (go_at_call 12; refine (cA w hT).mono ?_; rintro e w1 ⟨rfl, b1⟩)
    go_ret
    exact ⟨rfl, b1⟩
  have hs : a.size ≤ 1000000000 := by omega
  obtain ⟨x, hx⟩ : ∃ x, ltS a b = x := ⟨_, rfl⟩
  obtain ⟨y, hy⟩ : ∃ y, ltS b a = y := ⟨_, rfl⟩
  have HX := Lib.hid hx
  have HY := Lib.hid hy
  clear hx hy
  go_enter Tryd.func5, Tryd.ntmps5
  go_wp2_with fail
  refine (less_is a b _ HX.out _).mono ?_
  rintro e w1' ⟨rfl, rfl⟩
  go_wp2_with fail
  refine (less_is b a _ HY.out _).mono ?_
  rintro e w1' ⟨rfl, rfl⟩
  go_upto_region 4 with (fail)
  go_cut [67] (fun v wx => v = .bool false ∧ wx = w)
  case first =>
    have h4 := HX.out
    have h5 := HY.out
    clear HX HY
    cases x
    · cases y
      · obtain rfl := ltS_total h4 h5
        clear h4 h5
        have he := tl_eq a
        go_wp2_with fail
        refine (less_is a a _ (ltS_irrefl a) _).mono ?_
        rintro e w1' ⟨rfl, rfl⟩
        go_wp2_with fail
        go_meet
        exact ⟨rfl, rfl⟩
      · have he : (a.toList == b.toList) = false := tl_ne (fun e => by rw [e, ltS_irrefl] at h5; cases h5)
        clear h4 h5
        go_wp2_with fail
        refine (less_is a a _ (ltS_irrefl a) _).mono ?_
        rintro e w1' ⟨rfl, rfl⟩
        go_wp2_with fail
        go_meet
        exact ⟨rfl, rfl⟩
    · obtain rfl : y = false := h5.symm.trans (ltS_asymm h4)
      have he : (a.toList == b.toList) = false := tl_ne (fun e => by rw [e, ltS_irrefl] at h4; cases h4)
      cases h6 : ltS b c
      · clear h4 h5
        go_wp2_with fail
        refine (less_is b c _ h6 _).mono ?_
        rintro e w1' ⟨rfl, rfl⟩
        go_wp2_with fail
        refine (less_is a a _ (ltS_irrefl a) _).mono ?_
        rintro e w1' ⟨rfl, rfl⟩
        go_wp2_with fail
        go_meet
        exact ⟨rfl, rfl⟩
      · have h7 := ltS_trans h4 h6
        clear h4 h5
        go_wp2_with fail
        refine (less_is b c _ h6 _).mono ?_
        rintro e w1' ⟨rfl, rfl⟩
        go_wp2_with fail
        refine (less_is a c _ h7 _).mono ?_
        rintro e w1' ⟨rfl, rfl⟩
        go_wp2_with fail
        refine (less_is a a _ (ltS_irrefl a) _).mono ?_
        rintro e w1' ⟨rfl, rfl⟩
        go_wp2_with fail
        go_meet
        exact ⟨rfl, rfl⟩
  case rest =>
    obtain ⟨rfl, rfl⟩ := hcut
    by_cases h0 : a.size = 0
    · have h0' : a.toList = [] := tl_nil.2 h0
      go_wp2_with fail
      refine (cA _ hT).mono ?_
      rintro e w1 ⟨rfl, b1⟩
      go_wp2_with fail
      go_ret
      exact ⟨rfl, b1⟩
    · have h0' : ¬ a.toList = [] := fun h => h0 (tl_nil.1 h)
      have h0'' : a.toList.isEmpty = false := by simpa using h0'
      obtain ⟨k, hk, -, hk2⟩ := low_is cut a.size (by omega) hs
      have hk3 : (k : Int) ≤ a.size := by omega
      have hz := size_take a k (by omega)
      have c1 := fun w => runes_any (a.extract 0 k) w (by omega)
      have c2 := fun w => runes_any a w hs
      have HB := Lib.hid (fun h1 h2 => runesN_begins (begins_take a k (by omega)) h1 h2)
      have HL := Lib.hid (ltS_take a k hk)
      clear hz
      go_wp2_with fail
      refine (c1 _ hT).mono ?_
      rintro e w1 ⟨rfl, b1⟩
      go_wp2_with fail
      refine (c2 _ (hT.below b1)).mono ?_
      rintro e w2 ⟨rfl, b2⟩
      have B2 := b1.trans (b2.mono b1.size)
      clear b1 b2 c1 c2
      go_wp2_with fail
      refine (less_is _ _ _ HL.out _).mono ?_
      rintro e w2' ⟨rfl, rfl⟩
      have HA := Lib.hid (fun w => cA w)
      clear cA
      have hb' : whole (a.extract 0 k) = true → whole a = true → (runesN (a.extract 0 k) : Int) ≤ runesN a := fun h1 h2 => by have := HB.out h1 h2; omega
      have HB' := Lib.hid hb'
      clear hb' HB
      generalize runesN a = n at *
      generalize runesN (a.extract 0 k) = m at *
      generalize whole a = p at *
      generalize whole (a.extract 0 k) = q at *
      cases p <;> cases q
      · go_wp2_with fail
        refine (HA.out _ (hT.below B2)).mono ?_
        rintro e w3 ⟨rfl, b3⟩
        go_wp2_with fail
        go_ret
        exact ⟨rfl, B2.trans (b3.mono B2.size)⟩
      · go_wp2_with fail
        refine (HA.out _ (hT.below B2)).mono ?_
        rintro e w3 ⟨rfl, b3⟩
        go_wp2_with fail
        go_ret
        exact ⟨rfl, B2.trans (b3.mono B2.size)⟩
      · go_wp2_with fail
        refine (HA.out _ (hT.below B2)).mono ?_
        rintro e w3 ⟨rfl, b3⟩
        go_wp2_with fail
        go_ret
        exact ⟨rfl, B2.trans (b3.mono B2.size)⟩
      · have hle := HB'.out rfl rfl
        go_wp2_with fail
        refine (HA.out _ (hT.below B2)).mono ?_
        rintro e w3 ⟨rfl, b3⟩
        go_wp2_with fail
        go_ret
        exact ⟨rfl, B2.trans (b3.mono B2.size)⟩
end Go.Proofs.YtbdbmigkcpgmkaaDoor
