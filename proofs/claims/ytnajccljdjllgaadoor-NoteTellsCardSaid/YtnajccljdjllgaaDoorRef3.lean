/- The walks of jotterref3.Runes, jotterref3.May, name.Runes. -/
import Derived.Test.YtnajccljdjllgaaDoorRunb
set_option linter.unusedVariables false
set_option linter.unusedSimpArgs false
namespace Go.Proofs.YtnajccljdjllgaaDoor
open Go.RowKit Go.Lib
theorem rune_lt (s : ByteArray) (i : Nat) : ((rune s i).1 : Int) ≤ 1114111 ∧ ((rune s i).2 : Int) ≤ 4 := by
  have := rune_bd s i; omega
theorem runesFrom_lt {s : ByteArray} {f i : Nat} (h : i < s.size) : runesFrom s (f + 1) i = 1 + runesFrom s f (i + (rune s i).2) := by rw [runesFrom, if_pos h]
theorem runesFrom_ge {s : ByteArray} {f i : Nat} (h : ¬ i < s.size) : runesFrom s f i = 0 := by cases f <;> simp [runesFrom, h]
/-- How many runes a text has, if all are whole. -/
def runesN (s : ByteArray) : Nat := if whole s = true then runesFrom s s.size 0 else 0
theorem runesN_no {s : ByteArray} (h : whole s = false) : runesN s = 0 := by simp [runesN, h]
theorem runesN_yes {s : ByteArray} (h : whole s = true) : runesN s = runesFrom s s.size 0 := by simp [runesN, h]
/-- What Runes' loop has reckoned at place i, by n runes, f more at most. -/
def RunesInv (s : ByteArray) (f i n : Nat) : Prop := wholeFrom s f i = whole s ∧ (whole s = true → n + runesFrom s f i = runesFrom s s.size 0) ∧ s.size ≤ i + f ∧ n ≤ i
theorem runesInv_bad {s : ByteArray} {f i n : Nat} (h : RunesInv s f i n) (hi : i < s.size) (hz : (rune s i).2 = 0) : whole s = false := by
  obtain ⟨h1, _, h3, _⟩ := h
  cases f with
  | zero => omega
  | succ f => unfold wholeFrom at h1; rw [if_pos hi, if_pos hz] at h1; exact h1.symm
theorem runesInv_step {s : ByteArray} {f i n : Nat} (h : RunesInv s f i n) (hi : i < s.size) (hz : (rune s i).2 ≠ 0) : ∃ g, f = g + 1 ∧ RunesInv s g (i + (rune s i).2) (n + 1) := by
  obtain ⟨h1, h2, h3, h4⟩ := h
  cases f with
  | zero => omega
  | succ f =>
    refine ⟨f, rfl, ?_, fun hw => ?_, by omega, by omega⟩
    · unfold wholeFrom at h1; rw [if_pos hi, if_neg hz] at h1; exact h1
    · have := h2 hw; rw [runesFrom_lt hi] at this; omega
theorem runesInv_end {s : ByteArray} {f i n : Nat} (h : RunesInv s f i n) (hi : ¬ i < s.size) : whole s = true ∧ n = runesN s := by
  obtain ⟨h1, h2, h3, _⟩ := h
  have hw : whole s = true := by
    cases f with
    | zero => exact h1.symm
    | succ f => unfold wholeFrom at h1; rw [if_neg hi] at h1; exact h1.symm
  refine ⟨hw, ?_⟩
  rw [runesN_yes hw, ← h2 hw, runesFrom_ge hi, Nat.add_zero]
theorem ret_ib {a b : Int} {c d : Bool} (h : a = b) (g : c = d) : Ending.returned (.tuple #[.int .i64 a, .bool c]) = .returned (.tuple #[.int .i64 b, .bool d]) := by rw [h, g]
def FineInv (s : ByteArray) (f i : Nat) : Prop := fineFrom s f i = fineFrom s s.size 0 ∧ s.size ≤ i + f
theorem fineInv_bad {s : ByteArray} {f i : Nat} (h : FineInv s f i) (hi : i < s.size) (hz : (rune s i).2 = 0 ∨ oddN (rune s i).1 = true) : fineFrom s s.size 0 = false := by
  obtain ⟨h1, h3⟩ := h
  cases f with
  | zero => omega
  | succ f => rw [fineFrom, if_pos hi, if_pos hz] at h1; exact h1.symm
theorem fineInv_step {s : ByteArray} {f i : Nat} (h : FineInv s f i) (hi : i < s.size) (hz : (rune s i).2 ≠ 0) (ho : ¬ oddN (rune s i).1 = true) : ∃ g, f = g + 1 ∧ FineInv s g (i + (rune s i).2) := by
  obtain ⟨h1, h3⟩ := h
  cases f with
  | zero => omega
  | succ f =>
    refine ⟨f, rfl, ?_, by omega⟩
    rw [fineFrom, if_pos hi, if_neg (by rintro (h | h); exact hz h; exact ho h)] at h1; exact h1
theorem fineInv_end {s : ByteArray} {f i : Nat} (h : FineInv s f i) (hi : ¬ i < s.size) : fineFrom s s.size 0 = true := by
  rw [← h.1]; cases f <;> simp [fineFrom, hi]
theorem odd_of {x : Nat} (h : x < 32 ∨ (127 ≤ x ∧ x < 160) ∨ x = 47) : oddN x = true := by unfold oddN; simp; omega
theorem odd_not {x : Nat} (h1 : ¬ x < 32) (h2 : ¬ (127 ≤ x ∧ x < 160)) (h3 : x ≠ 47) : ¬ oddN x = true := by unfold oddN; simp; omega
theorem may_bad {s : ByteArray} (h : s.size < 1 ∨ 20 < s.size ∨ byteAt s 0 = 32 ∨ byteAt s (s.size - 1) = 32 ∨ fineFrom s s.size 0 = false) : mayB s = false := by
  unfold mayB
  rw [Bool.eq_false_iff]
  simp
  intro a b c d
  rcases h with h | h | h | h | h
  · omega
  · omega
  · exact absurd h d
  · exact h
  · rw [h] at c; exact absurd c (by simp)
theorem may_good {s : ByteArray} (h0 : 1 ≤ s.size) (h1 : s.size ≤ 20) (h2 : byteAt s 0 ≠ 32) (h3 : byteAt s (s.size - 1) ≠ 32) (h4 : fineFrom s s.size 0 = true) : mayB s = true := by
  unfold mayB; simp [h0, h1, h2, h3, h4]
set_option maxRecDepth 100000 in
set_option maxHeartbeats 2000000 in
theorem ref_may (s : ByteArray) (w : World) (hs : s.size ≤ 1000000000) :
    Calls Tryd.prog 89 #[.string s] w fun e w' => e = .returned (.bool (mayB s)) ∧ w = w' := by
  by_cases c1 : (s.size : Int) < 1
  · have HB := Lib.hid (may_bad (s := s) (.inl (by omega)))
    go_enter Tryd.func89, Tryd.ntmps89
    go_wp2
    go_ret
    exact ⟨ret_bool HB.out.symm, rfl⟩
  by_cases c2 : (20 : Int) < s.size
  · have HB := Lib.hid (may_bad (s := s) (.inr (.inl (by omega))))
    go_enter Tryd.func89, Tryd.ntmps89
    go_wp2
    go_ret
    exact ⟨ret_bool HB.out.symm, rfl⟩
  have h0 : 0 < s.size := by omega
  have h0' : (0 : Int) < s.size := by omega
  have hl : s.size - 1 < s.size := by omega
  have B0 := Lib.hid (byte_get s 0 h0)
  have B1 := Lib.hid (byte_get s (s.size - 1) hl)
  by_cases c3 : (s[0].toNat : Int) = 32
  · have HB := Lib.hid (may_bad (s := s) (.inr (.inr (.inl (by rw [← B0.out]; omega)))))
    have c3' : ((s[0].toNat : Int) == 32) = true := by rw [beq_iff_eq]; exact c3
    go_enter Tryd.func89, Tryd.ntmps89
    go_wp2
    go_ret
    exact ⟨ret_bool HB.out.symm, rfl⟩
  have c3' : ((s[0].toNat : Int) == 32) = false := by rw [beq_eq_false_iff_ne]; exact c3
  by_cases c4 : (s[s.size - 1].toNat : Int) = 32
  · have HB := Lib.hid (may_bad (s := s) (.inr (.inr (.inr (.inl (by rw [← B1.out]; omega))))))
    have c4' : ((s[s.size - 1].toNat : Int) == 32) = true := by rw [beq_iff_eq]; exact c4
    go_enter Tryd.func89, Tryd.ntmps89
    go_wp2
    go_ret
    exact ⟨ret_bool HB.out.symm, rfl⟩
  have c4' : ((s[s.size - 1].toNat : Int) == 32) = false := by rw [beq_eq_false_iff_ne]; exact c4
  have HF := Lib.hid (fun h => may_bad (s := s) (.inr (.inr (.inr (.inr h)))))
  have HT := Lib.hid (fun h => may_good (s := s) (by omega) (by omega) (by rw [← B0.out]; omega) (by rw [← B1.out]; omega) h)
  go_enter Tryd.func89, Tryd.ntmps89
  go_wp2
  clear c3 c3' c4 c4'
  go_loopg [3, 4, 5] s.size (fun gk i3 r4 k5 wx => wx = w ∧ ∃ i : Nat, i3 = .int .i64 i ∧ FineInv s gk i ∧ i ≤ s.size + 4)
  case atStart => exact ⟨rfl, 0, rfl, ⟨rfl, by omega⟩, by omega⟩
  case round =>
    obtain ⟨rfl, i, rfl, hI, hi4⟩ := hrel
    have HI := Lib.hid hI
    clear hI
    by_cases hlt : i < s.size
    · have hlt' : (i : Int) < s.size := by omega
      obtain ⟨hr1, hr2⟩ := rune_lt s i
      have c1 := rune1_any s i
      by_cases hbad : (rune s i).2 = 0 ∨ oddN (rune s i).1 = true
      · have HW := Lib.hid (HF.out (fineInv_bad HI.out hlt hbad))
        have hb2 : (rune s i).2 = 0 ∨ ((rune s i).1 < 32 ∨ (127 ≤ (rune s i).1 ∧ (rune s i).1 < 160) ∨ (rune s i).1 = 47) := by
          rcases hbad with h | h
          · exact .inl h
          · unfold oddN at h; simp at h; omega
        clear hbad
        generalize (rune s i).1 = x at *
        generalize (rune s i).2 = y at *
        by_cases z1 : ((y : Int) == 0) = true
        · have hb2 : True := trivial
          go_wp2_with (go_at_call 113; refine (c1 _ hlt (by omega)).mono ?_; rintro e w1 ⟨rfl, rfl⟩)
          go_ret
          exact ⟨ret_bool (by rw [HW.out]), rfl⟩
        have z1' : ((y : Int) == 0) = false := by simpa using z1
        by_cases z2 : (x : Int) < 32
        · have hb2 : True := trivial
          go_wp2_with (go_at_call 113; refine (c1 _ hlt (by omega)).mono ?_; rintro e w1 ⟨rfl, rfl⟩)
          go_ret
          exact ⟨ret_bool (by rw [HW.out]), rfl⟩
        by_cases z3 : 127 ≤ (x : Int)
        · by_cases z4 : (x : Int) < 160
          · have hb2 : True := trivial
            go_wp2_with (go_at_call 113; refine (c1 _ hlt (by omega)).mono ?_; rintro e w1 ⟨rfl, rfl⟩)
            go_ret
            exact ⟨ret_bool (by rw [HW.out]), rfl⟩
          · have z5 : ((x : Int) == 47) = true := by rw [beq_iff_eq]; have : y ≠ 0 := by (intro h; subst h; simp at z1)
                                                     omega
            have hb2 : True := trivial
            go_wp2_with (go_at_call 113; refine (c1 _ hlt (by omega)).mono ?_; rintro e w1 ⟨rfl, rfl⟩)
            go_ret
            exact ⟨ret_bool (by rw [HW.out]), rfl⟩
        · have z5 : ((x : Int) == 47) = true := by rw [beq_iff_eq]; have : y ≠ 0 := by (intro h; subst h; simp at z1)
                                                   omega
          have hb2 : True := trivial
          go_wp2_with (go_at_call 113; refine (c1 _ hlt (by omega)).mono ?_; rintro e w1 ⟨rfl, rfl⟩)
          go_ret
          exact ⟨ret_bool (by rw [HW.out]), rfl⟩
      · have hz : (rune s i).2 ≠ 0 := fun h => hbad (.inl h)
        have ho : ¬ oddN (rune s i).1 = true := fun h => hbad (.inr h)
        clear hbad
        obtain ⟨g, rfl, hI2⟩ := fineInv_step HI.out hlt hz ho
        have HI2 := Lib.hid hI2
        clear hI2 HI
        generalize (rune s i).1 = x at *
        generalize (rune s i).2 = y at *
        have hb2 : ¬ x < 32 ∧ ¬ (127 ≤ x ∧ x < 160) ∧ x ≠ 47 := by unfold oddN at ho; simp at ho; omega
        clear ho
        have z1 : ((y : Int) == 0) = false := by rw [beq_eq_false_iff_ne]; omega
        have z2 : ¬ (x : Int) < 32 := by omega
        have z5 : ((x : Int) == 47) = false := by rw [beq_eq_false_iff_ne]; omega
        by_cases z3 : 127 ≤ (x : Int)
        · have z4 : ¬ (x : Int) < 160 := by omega
          have hb2 : True := trivial
          go_wp2_with (go_at_call 113; refine (c1 _ hlt (by omega)).mono ?_; rintro e w1 ⟨rfl, rfl⟩)
          go_roundg g
          case measure => omega
          case rel => exact ⟨rfl, i + y, by go_num, HI2.out, by omega⟩
        · have hb2 : True := trivial
          go_wp2_with (go_at_call 113; refine (c1 _ hlt (by omega)).mono ?_; rintro e w1 ⟨rfl, rfl⟩)
          go_roundg g
          case measure => omega
          case rel => exact ⟨rfl, i + y, by go_num, HI2.out, by omega⟩
    · have hlt' : ¬ (i : Int) < s.size := by omega
      have HW := Lib.hid (HT.out (fineInv_end HI.out hlt))
      go_wp2
      go_ret
      exact ⟨ret_bool HW.out.symm, rfl⟩
end Go.Proofs.YtnajccljdjllgaaDoor
