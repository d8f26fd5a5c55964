/- The walks of name.Runes, jotterlaw0.Low and of chapter 3's awake. -/
import Derived.Test.YtbdbmigkcpgmkaaDoorRef3
import Derived.KernelRfl
set_option linter.unusedVariables false
set_option linter.unusedSimpArgs false
namespace Go.Proofs.YtbdbmigkcpgmkaaDoor
open Go.RowKit Go.Lib
theorem runes_lib {s : ByteArray} (h : whole s = true) : runeCount s = runesN s := by
  rw [runesN_yes h]; exact runes_count s s.size 0 h
set_option maxRecDepth 100000 in
set_option maxHeartbeats 1000000 in
theorem runes_any (s : ByteArray) (w : World) (hs : s.size ≤ 1000000000) (hT : Tabs w) :
    Calls Tryd.prog 13 #[.string s] w fun e w' => e = .returned (.tuple #[.int .i64 (runesN s), .bool (whole s)]) ∧ Below w.heap.size w w' := by
  have cV := valid_any s w hs hT
  cases hw : whole s
  · rw [hw] at cV
    have HN := Lib.hid (runesN_no hw)
    clear hw
    go_enter Tryd.func13, Tryd.ntmps13
    go_wp2_with (go_at_call 19; refine cV.mono ?_; rintro e w1 ⟨rfl, hb⟩)
    go_ret2
    exact ⟨ret_ib (by rw [HN.out]; rfl) rfl, hb⟩
  · rw [hw] at cV
    have HN := Lib.hid (runes_lib hw)
    clear hw
    go_enter Tryd.func13, Tryd.ntmps13
    go_wp2_with (go_at_call 19; refine cV.mono ?_; rintro e w1 ⟨rfl, hb⟩)
    go_loopw [4] (fun n w' => ∃ (pos b acc : Nat), w' = w1.iter s pos ∧ n = .int .i64 acc ∧ acc + Lib.runeCountFrom s b pos = Lib.runeCount s ∧ s.size ≤ pos + b ∧ acc ≤ pos) (fun _ w' => s.size - w'.iterPos w1.heap.size)
    case atStart => exact ⟨0, s.size, 0, rfl, rfl, by simp [Lib.runeCount], by omega, Nat.le_refl _⟩
    case round =>
      obtain ⟨pos, b, acc, rfl, rfl, hc, hbb, ha⟩ := hrel
      have HC := Lib.hid hc
      clear hc
      by_cases hp : pos < s.size
      · have hnx : ∀ ty, (Instr.next (.pointer (some ⟨w1.heap.size, 0, none⟩)) true ty).run Tryd.prog (w1.iter s pos) = _ := fun ty => run_next_any w1 s pos ty hp
        have hwd := Lib.decode_width_pos s pos hp
        go_wp2
        go_roundw
        case rel =>
          cases b with
          | zero => omega
          | succ b =>
            refine ⟨pos + (Utf8.decode s pos).2, b, acc + 1, rfl, by go_num, ?_, by omega, by omega⟩
            have := HC.out
            unfold Lib.runeCountFrom at this
            rw [if_pos hp] at this
            omega
        case measure =>
          simp
          omega
      · have hnx : ∀ ty, (Instr.next (.pointer (some ⟨w1.heap.size, 0, none⟩)) true ty).run Tryd.prog (w1.iter s pos) = _ := fun ty => run_next_end w1 s pos ty hp
        have HE : Hid (acc = runesN s) := by
          have := HC.out
          rw [Lib.runeCountFrom_end s b pos hp, Nat.add_zero, HN.out] at this
          exact this
        clear HC HN
        go_wp2
        go_ret2
        exact ⟨ret_ib (by rw [HE.out]) rfl, hb.trans (((Below.refl _ w1).alloc (Nat.le_refl _) _).mono hb.size)⟩
set_option maxRecDepth 100000 in
theorem count_any (s : ByteArray) (w : World) (hs : s.size ≤ 1000000000) :
    Calls Tryd.prog 20 #[.string s] w fun e w' => e = .returned (.int .i64 (runeCount s)) ∧ Below w.heap.size w w' := by
  refine (Tryd.utf8_RuneCountInString s w (by omega)).mono ?_
  rintro e w' ⟨rfl, pos, rfl⟩
  exact ⟨rfl, (Below.refl _ w).alloc (Nat.le_refl _) _⟩
/-- A number, from 0 to below n. -/
def lowI (x n : Int) : Int := (x % 18446744073709551616) % n
theorem lowI_bd (x n : Int) (h : 1 ≤ n) : 0 ≤ lowI x n ∧ lowI x n < n := by
  unfold lowI
  exact ⟨Int.emod_nonneg _ (by omega), Int.emod_lt_of_pos _ (by omega)⟩
theorem low_any (x n : Int) (w : World) (h1 : 1 ≤ n) (h2 : n ≤ 1000000000) :
    Calls Tryd.prog 18 #[.int .i64 x, .int .i64 n] w fun e w' => e = .returned (.int .i64 (lowI x n)) ∧ w = w' := by
  go_enter Tryd.func18, Tryd.ntmps18
  go_wp2
  go_ret
  refine ⟨ret_int ?_, rfl⟩
  have e : IntKind.u64.wrap x = x % 18446744073709551616 := by simp [IntKind.wrap, IntKind.signed, IntKind.bits]
  have g := lowI_bd x n h1
  rw [e, Int.tmod_eq_emod_of_nonneg (Int.emod_nonneg _ (by omega))]
  show wrap64 (lowI x n) = lowI x n
  exact IntWalk.wrap64_in _ ⟨by omega, by omega⟩
theorem may_is {s : ByteArray} {b : Bool} (hs : s.size ≤ 1000000000) (h : mayB s = b) (w : World) (hT : Tabs w) :
    Calls Tryd.prog 15 #[.string s] w fun e w' => e = .returned (.bool b) ∧ Below w.heap.size w w' := h ▸ may_any s w hs hT
theorem runes_is {s : ByteArray} {n : Nat} (hs : s.size ≤ 1000000000) (h : runesN s = n) (hw : whole s = true) (w : World) (hT : Tabs w) :
    Calls Tryd.prog 13 #[.string s] w fun e w' => e = .returned (.tuple #[.int .i64 n, .bool true]) ∧ Below w.heap.size w w' := by
  have := runes_any s w hs hT
  rw [h, hw] at this
  exact this
set_option maxRecDepth 100000 in
set_option maxHeartbeats 1000000 in
theorem awake3_any (w : World) (hT : Tabs w) :
    Calls Tryd.prog 12 #[] w fun e w' => e = .returned (.bool true) ∧ Below w.heap.size w w' := by
  have c1 := runes_is (s := ⟨#[97, 195, 169]⟩) (n := 2) (by decide) (by kernel_rfl) (by kernel_rfl)
  have c2 := may_is (s := ⟨#[97, 32, 98]⟩) (b := true) (by decide) (by kernel_rfl)
  have c3 := may_is (s := ⟨#[32, 97]⟩) (b := false) (by decide) (by kernel_rfl)
  have c4 := may_is (s := ⟨#[97, 47, 98]⟩) (b := false) (by decide) (by kernel_rfl)
  have c5 := may_is (s := ⟨#[]⟩) (b := false) (by decide) (by kernel_rfl)
  go_enter Tryd.func12, Tryd.ntmps12
  go_wp2_with fail
  refine (c1 w hT).mono ?_
  rintro e w1 ⟨rfl, b1⟩
  go_wp2_with fail
  refine (c2 w1 (hT.below b1)).mono ?_
  rintro e w2 ⟨rfl, b2⟩
  have B2 := b1.trans (b2.mono b1.size)
  clear b1 b2
  go_wp2_with fail
  refine (c3 w2 (hT.below B2)).mono ?_
  rintro e w3 ⟨rfl, b3⟩
  have B3 := B2.trans (b3.mono B2.size)
  clear B2 b3
  go_wp2_with fail
  refine (c4 w3 (hT.below B3)).mono ?_
  rintro e w4 ⟨rfl, b4⟩
  have B4 := B3.trans (b4.mono B3.size)
  clear B3 b4
  go_wp2_with fail
  refine (c5 w4 (hT.below B4)).mono ?_
  rintro e w5 ⟨rfl, b5⟩
  have B5 := B4.trans (b5.mono B4.size)
  clear B4 b5
  go_wp2_with fail
  refine (less_any _ _ _).mono ?_
  rintro e w6 ⟨rfl, rfl⟩
  go_wp2_with fail
  go_ret
  exact ⟨ret_bool (by kernel_rfl), B5⟩
end Go.Proofs.YtbdbmigkcpgmkaaDoor
