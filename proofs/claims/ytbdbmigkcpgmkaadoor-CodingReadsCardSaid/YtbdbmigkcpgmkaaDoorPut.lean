/- The walks of coding.put and coding.text. -/
import Derived.Test.YtbdbmigkcpgmkaaDoorOwn
set_option linter.unusedVariables false
set_option linter.unusedSimpArgs false
namespace Go.Proofs.YtbdbmigkcpgmkaaDoor
open Go.RowKit Go.Lib
def byteN (n : Int) (i : Nat) : UInt8 := UInt8.ofNat ((n / 2 ^ (8 * i)) % 256).toNat
def putB (n : Int) : Nat → List UInt8
  | 0 => []
  | k + 1 => byteN n k :: putB n k
theorem putB_length (n : Int) : ∀ k, (putB n k).length = k
  | 0 => rfl
  | k + 1 => by simp [putB, putB_length n k]
/-- A buffer grown by some bytes. -/
def Grown (W0 : World) (l m : List UInt8) (w : World) (e : Ending) (w' : World) : Prop := ∃ v', e = .returned v' ∧ Buf W0 v' (l ++ m) w' ∧ Kept 5 w w'
set_option maxRecDepth 100000 in
set_option maxHeartbeats 1000000 in
theorem put_any (v : Value) (l : List UInt8) (n : Int) (size : Nat) (W0 w : World) (h : Buf W0 v l w) (hs : size ≤ 8) (hl : l.length ≤ 100000000000) :
    Calls Tryd.prog 41 #[v, .int .i64 n, .int .i64 size] w (Grown W0 l (putB n size) w) := by
  have hB := Lib.hid h
  clear h
  go_enter Tryd.func41, Tryd.ntmps41
  go_wp2
  go_loopw [0, 7] (fun v0 v7 wx => ∃ (j : Nat) (m : List UInt8), v7 = .int .i64 ((j : Int) - 1) ∧ j ≤ size ∧ Buf W0 v0 (l ++ m) wx ∧ Kept 5 w wx ∧ m ++ putB n j = putB n size) (fun _ v7 _ => (intOf v7 + 1).toNat)
  case atStart => exact ⟨size, [], by go_num, by omega, by rw [List.append_nil]; exact hB.out, Kept.refl _ _, rfl⟩
  case round =>
    obtain ⟨j, m, rfl, hj, hb, hk, hm⟩ := hrel
    have HB := Lib.hid hb
    have HM := Lib.hid hm
    clear hb hm hB
    cases j with
    | zero =>
      rw [show ((0 : Nat) : Int) - 1 = -1 from rfl]
      go_wp2_with fail
      go_ret
      exact ⟨_, rfl, by have := HB.out; rw [← HM.out, putB, List.append_nil]; exact this, hk⟩
    | succ j =>
      have hml : m.length ≤ 8 := by
        have := congrArg List.length HM.out
        rw [List.length_append, putB_length, putB_length] at this; omega
      go_wp2_with (at_builtin; refine app_byte rfl _ _ rfl _ (l ++ m) rfl W0 wr ?_ _ ?_ rfl ?_ ?_; exact HB.out; exact ⟨Int.emod_nonneg _ (by decide), Int.emod_lt_of_pos _ (by decide)⟩; rw [List.length_append]; omega; intro v' w' hb' hk'; have HB' := Lib.hid hb'; clear hb')
      go_roundw
      case rel => exact ⟨j, m ++ [byteN n j], by go_num, by omega, by rw [← List.append_assoc]; exact HB'.out, hk.trans hk', by rw [List.append_assoc]; exact HM.out⟩
      case measure => simp [intOf]
theorem grown_ret {W0 : World} {l m : List UInt8} {w w' : World} {e : Ending} {v' : Value} (he : e = .returned v') (hb : Buf W0 v' (l ++ m) w') (hk : Kept 5 w w') : Grown W0 l m w e w' := ⟨v', he, hb, hk⟩
set_option maxRecDepth 100000 in
theorem text_any (v : Value) (l : List UInt8) (s : ByteArray) (W0 w : World) (h : Buf W0 v l w) (hs : s.size ≤ 1000000) (hl : l.length ≤ 10000000000) :
    Calls Tryd.prog 42 #[v, .string s] w (Grown W0 l (putB s.size 1 ++ s.data.toList) w) := by
  have c1 := put_any v l s.size 1 W0 w h (by omega) (by omega)
  clear h
  go_enter Tryd.func42, Tryd.ntmps42
  go_wp2_with fail
  refine c1.mono ?_
  rintro e w1 ⟨v1, rfl, hb1, hk1⟩
  have HB := Lib.hid hb1
  clear hb1
  go_wp2_with (at_builtin; refine app_str rfl _ _ rfl _ (l ++ putB s.size 1) rfl W0 ?_ s rfl ?_ ?_; exact HB.out; rw [List.length_append, putB_length]; omega; intro v' w' hb' hk'; have HB' := Lib.hid hb'; clear hb')
  go_ret
  exact grown_ret rfl (by rw [← List.append_assoc]; exact HB'.out) (hk1.trans hk')
end Go.Proofs.YtbdbmigkcpgmkaaDoor
