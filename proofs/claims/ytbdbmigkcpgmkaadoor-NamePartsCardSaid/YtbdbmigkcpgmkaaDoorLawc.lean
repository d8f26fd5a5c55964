/- The walk of the law NameParts. -/
import Derived.Test.YtbdbmigkcpgmkaaDoorUtfc
import Derived.Test.YtbdbmigkcpgmkaaDoorLawb
import Derived.Deep.RegionHeld3

set_option linter.unusedVariables false
set_option linter.unusedSimpArgs false
namespace Go.Proofs.YtbdbmigkcpgmkaaDoor
open Go.RowKit Go.Lib
/-- W is w0 grown. -/
def Grow (w0 W : World) : Prop := Below w0.heap.size w0 W
theorem Grow.refl (w : World) : Grow w w := Below.refl _ _
theorem Grow.drew {w W : World} (h : Grow w W) : Grow w W.drew := Below.drew h
theorem Grow.alloc {w W : World} (h : Grow w W) (o : Obj) : Grow w (W.alloc o) := Below.alloc h h.size o
theorem Grow.step {w W V : World} (h : Grow w W) (b : Below W.heap.size W V) : Grow w V := Below.trans h (b.mono h.size)
/-- A contract, said from an elder world on. -/
theorem grows {f : Nat} {args : Array Value} {v : Value} {w0 : World} (hT : Tabs w0) (h : ∀ W, Tabs W → Calls Tryd.prog f args W fun e w' => e = .returned v ∧ Below W.heap.size W w') :
    ∀ W, Grow w0 W → Calls Tryd.prog f args W fun e w' => e = .returned v ∧ Grow w0 w' := fun W g => (h W (hT.below g)).mono fun _ _ ⟨e, b⟩ => ⟨e, g.step b⟩
abbrev badV : List Value := [.string ⟨#[47]⟩, .string ⟨#[0]⟩, .string ⟨#[10]⟩, .string ⟨#[31]⟩, .string ⟨#[127]⟩, .string ⟨#[194, 133]⟩, .string ⟨#[194, 159]⟩, .string ⟨#[255]⟩, .string ⟨#[192, 128]⟩]
set_option maxRecDepth 100000 in
set_option maxHeartbeats 1000000 in
theorem nameParts_walk (a b : ByteArray) (which at0 : Int) (w : World) (ha : a.size ≤ 140737488351232) (hb : b.size ≤ 140737488351232) (hw : (Lit.int .i64 which).wf = true) (hc : (Lit.int .i64 at0).wf = true) (hT : Tabs w) :
    Calls Tryd.prog 4 #[.string a, .string b, .int .i64 which, .int .i64 at0] w fun e w' => e = .returned (.bool true) ∧ Below w.heap.size w w' := by
  have cA := awake3_any
  clear hw hc
  by_cases h1 : (60 : Int) < a.size
  · go_enter Tryd.func4, Tryd.ntmps4
    go_wp2_with (go_at_call 12; refine (cA w hT).mono ?_; rintro e w1 ⟨rfl, b1⟩)
    go_ret
    exact ⟨rfl, b1⟩
  by_cases h2 : (60 : Int) < b.size
  · go_enter Tryd.func4, Tryd.ntmps4
    go_wp2_with (go_at_call 12; refine (cA w hT).mono ?_; rintro e w1 ⟨rfl, b1⟩)
    go_ret
    exact ⟨rfl, b1⟩
  cases ma : mayB a
  · go_enter Tryd.func4, Tryd.ntmps4
    go_wp2_with fail
    refine (may_is (by omega) ma w hT).mono ?_
    rintro e w1 ⟨rfl, b1⟩
    go_wp2_with fail
    refine (cA w1 (hT.below b1)).mono ?_
    rintro e w2 ⟨rfl, b2⟩
    go_wp2_with fail
    go_ret
    exact ⟨rfl, b1.trans (b2.mono b1.size)⟩
  cases mb : mayB b
  · go_enter Tryd.func4, Tryd.ntmps4
    go_wp2_with fail
    refine (may_is (by omega) ma w hT).mono ?_
    rintro e w1 ⟨rfl, b1⟩
    go_wp2_with fail
    refine (may_is (by omega) mb w1 (hT.below b1)).mono ?_
    rintro e w2 ⟨rfl, b2⟩
    have B2 := b1.trans (b2.mono b1.size)
    go_wp2_with fail
    refine (cA w2 (hT.below B2)).mono ?_
    rintro e w3 ⟨rfl, b3⟩
    go_wp2_with fail
    go_ret
    exact ⟨rfl, B2.trans (b3.mono B2.size)⟩
  have M1 := may_both ma mb
  have M2 := fun k (hk : k ≤ a.size) x (hx : x ∈ bads) => may_within (x := x) ma hk hx
  have cMa := fun w hT => may_is (by omega) ma w hT
  have cMb := fun w hT => may_is (by omega) mb w hT
  clear ma mb
  go_enter Tryd.func4, Tryd.ntmps4
  go_wp2_with fail
  refine (cMa w hT).mono ?_
  rintro e w1 ⟨rfl, b1⟩
  go_wp2_with fail
  refine (cMb w1 (hT.below b1)).mono ?_
  rintro e w2 ⟨rfl, b2⟩
  have B2 := b1.trans (b2.mono b1.size)
  clear cMa cMb b1 b2
  have hT2 := hT.below B2
  go_wp2_with fail
  refine (low_any which 9 _ (by omega) (by omega)).mono ?_
  rintro e w3 ⟨rfl, rfl⟩
  obtain ⟨k, hk, hk1, -⟩ := low_is which 9 (by omega) (by omega)
  simp only [Int.cast_ofNat_Int] at hk1
  rw [hk1]
  go_wp2_with fail
  obtain ⟨x, hx, hxm⟩ : ∃ x, (badV)[k]'(by simpa [badV] using hk) = Value.string x ∧ x ∈ bads := by
    refine ⟨bads[k]'(by simpa [bads] using hk), ?_, List.getElem_mem _⟩
    rcases (by omega : k = 0 ∨ k = 1 ∨ k = 2 ∨ k = 3 ∨ k = 4 ∨ k = 5 ∨ k = 6 ∨ k = 7 ∨ k = 8) with rfl | rfl | rfl | rfl | rfl | rfl | rfl | rfl | rfl <;> rfl
  simp only [badV] at hx
  rw [hx]
  have HW : Below w.heap.size w (w2.alloc (.cells #[.string ⟨#[47]⟩, .string ⟨#[0]⟩, .string ⟨#[10]⟩, .string ⟨#[31]⟩, .string ⟨#[127]⟩, .string ⟨#[194, 133]⟩, .string ⟨#[194, 159]⟩, .string ⟨#[255]⟩, .string ⟨#[192, 128]⟩] 9)) := B2.alloc B2.size _
  generalize (w2.alloc (.cells #[.string ⟨#[47]⟩, .string ⟨#[0]⟩, .string ⟨#[10]⟩, .string ⟨#[31]⟩, .string ⟨#[127]⟩, .string ⟨#[194, 133]⟩, .string ⟨#[194, 159]⟩, .string ⟨#[255]⟩, .string ⟨#[192, 128]⟩] 9)) = w4 at HW ⊢
  refine (low_any at0 _ _ (by omega) (by omega)).mono ?_
  rintro e w5 ⟨rfl, rfl⟩
  obtain ⟨j, hj, hj1, -⟩ := low_is at0 (a.size + 1) (by omega) (by omega)
  rw [Int.natCast_add, Int.natCast_one] at hj1
  rw [hj1]
  have hM3 := M2 j (by omega) x hxm
  have hja : (j : Int) ≤ a.size := by omega
  clear M2 hx hk1 hj1 hk
  go_upto_region 6 with (fail)
  have hxs : x.size ≤ 2 := by
    simp only [bads, List.mem_cons, List.not_mem_nil, or_false] at hxm
    rcases hxm with rfl | rfl | rfl | rfl | rfl | rfl | rfl | rfl | rfl <;> decide
  have z1 : ((a.extract 0 j ++ x) ++ a.extract j a.size).size ≤ 1000000000 := by
    rw [ByteArray.size_append, ByteArray.size_append, size_take a j (by omega), ext_size]; omega
  have z2 : (a ++ blank ++ b).size ≤ 1000000000 := by rw [ByteArray.size_append, ByteArray.size_append, show blank.size = 1 from rfl]; omega
  have z3 : (a ++ blank).size ≤ 1000000000 := by rw [ByteArray.size_append, show blank.size = 1 from rfl]; omega
  have z4 : (blank ++ a).size ≤ 1000000000 := by rw [ByteArray.size_append, show blank.size = 1 from rfl]; omega
  have C2 := grows hT (may_is z1 hM3)
  have C3 := grows hT (may_is z3 may_behind)
  have C4 := grows hT (may_is z4 may_ahead)
  have C5 := grows hT cA
  have HG : Grow w w4 := HW
  clear hM3 z1 z3 z4 hxm HW B2 hT2
  change mayB ((a ++ ⟨#[32]⟩) ++ b) = _ at M1
  change ((a ++ ⟨#[32]⟩) ++ b).size ≤ _ at z2
  generalize (a ++ ⟨#[32]⟩) ++ b = t at *
  have C1 := grows hT (may_is z2 M1)
  clear M1 z2 cA hT
  have hj0 : (0 : Int) ≤ (j : Int) := by omega
  have zj := size_take a j (by omega)
  have q1 : ∀ W : World, (Op.stringOp .add (a.extract 0 j) x).run Tryd.prog W = .ok (.string (a.extract 0 j ++ x)) W := fun W => run_string_add_sum W _ _ (by omega)
  have q2 : ∀ W : World, (Op.stringOp .add (a.extract 0 j ++ x) (a.extract j a.size)).run Tryd.prog W = .ok (.string (a.extract 0 j ++ x ++ a.extract j a.size)) W := fun W => run_string_add_sum W _ _ (by rw [ByteArray.size_append, ext_size]; omega)
  have q3 : ∀ W : World, (Op.stringOp .add a ⟨#[32]⟩).run Tryd.prog W = .ok (.string (a ++ ⟨#[32]⟩)) W := fun W => run_string_add_sum W _ _ (by rw [show (⟨#[32]⟩ : ByteArray).size = 1 from rfl]; omega)
  have q4 : ∀ W : World, (Op.stringOp .add ⟨#[32]⟩ a).run Tryd.prog W = .ok (.string (⟨#[32]⟩ ++ a)) W := fun W => run_string_add_sum W _ _ (by rw [show (⟨#[32]⟩ : ByteArray).size = 1 from rfl]; omega)
  clear zj
  by_cases ht : (t.size : Int) ≤ 20
  · have ht' : t.size ≤ 20 := by omega
    simp only [decide_eq_true ht'] at C1
    clear ht'
    have hd1 : decide ((t.size : Int) ≤ 20) = true := decide_eq_true ht
    have k1 : True := trivial
    have k2 : True := trivial
    have k3 : True := trivial
    go_region_held3 (fun _ => True) (exact trivial) (first
      | (go_at_call 15; have _t := k1; refine (C1 w4.drew HG.drew).mono ?_; rintro e w5 ⟨rfl, g5⟩; clear k1 C1 HG)
      | (go_at_call 15; have _t := k2; refine (C2 _ (by assumption)).mono ?_; rintro e w8 ⟨rfl, g8⟩; clear k2 C2 g5)
      | (go_at_call 15; have _t := k3; refine (C3 _ (by assumption)).mono ?_; rintro e w6 ⟨rfl, g6⟩; clear k3 C3 g8)
      | (go_at_call 15; refine (C4 _ (by assumption)).mono ?_; rintro e w7 ⟨rfl, g7⟩; clear C4 g6)
      | (go_at_call 12; refine (C5 _ (by assumption)).mono ?_; rintro e w9 ⟨rfl, g9⟩))
    all_goals go_wp2_with fail
    all_goals go_ret
    all_goals exact ⟨rfl, by assumption⟩
  · have ht' : ¬ t.size ≤ 20 := by omega
    simp only [decide_eq_false ht'] at C1
    clear ht'
    have hd1 : decide ((t.size : Int) ≤ 20) = false := decide_eq_false ht
    have k1 : True := trivial
    have k2 : True := trivial
    have k3 : True := trivial
    go_region_held3 (fun _ => True) (exact trivial) (first
      | (go_at_call 15; have _t := k1; refine (C1 w4.drew HG.drew).mono ?_; rintro e w5 ⟨rfl, g5⟩; clear k1 C1 HG)
      | (go_at_call 15; have _t := k2; refine (C2 _ (by assumption)).mono ?_; rintro e w8 ⟨rfl, g8⟩; clear k2 C2 g5)
      | (go_at_call 15; have _t := k3; refine (C3 _ (by assumption)).mono ?_; rintro e w6 ⟨rfl, g6⟩; clear k3 C3 g8)
      | (go_at_call 15; refine (C4 _ (by assumption)).mono ?_; rintro e w7 ⟨rfl, g7⟩; clear C4 g6)
      | (go_at_call 12; refine (C5 _ (by assumption)).mono ?_; rintro e w9 ⟨rfl, g9⟩))
    all_goals go_wp2_with fail
    all_goals go_ret
    all_goals exact ⟨rfl, by assumption⟩
end Go.Proofs.YtbdbmigkcpgmkaaDoor
