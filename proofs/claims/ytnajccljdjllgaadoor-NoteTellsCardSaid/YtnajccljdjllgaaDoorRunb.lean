/- The walk of jotterref3.rune1, whole. -/
import Derived.Test.YtnajccljdjllgaaDoorRune
set_option linter.unusedVariables false
set_option linter.unusedSimpArgs false
namespace Go.Proofs.YtnajccljdjllgaaDoor
open Go.RowKit Go.Lib
set_option maxRecDepth 100000 in
set_option maxHeartbeats 1000000 in
theorem rune1_any (s : ByteArray) (i : Nat) (w : World) (hi : i < s.size) (hs : s.size ≤ 1000000000) :
    Calls Tryd.prog 113 #[.string s, .int .i64 i] w fun e w' => e = .returned (.tuple #[.int .i64 (rune s i).1, .int .i64 (rune s i).2]) ∧ w = w' := by
  by_cases c1 : 194 ≤ (s[i].toNat : Int) ∧ (s[i].toNat : Int) < 224
  · exact rune1_2 s i w hi hs c1.1 c1.2
  by_cases c2 : 224 ≤ (s[i].toNat : Int) ∧ (s[i].toNat : Int) < 240
  · exact rune1_3 s i w hi hs c2.1 c2.2
  by_cases c3 : 240 ≤ (s[i].toNat : Int) ∧ (s[i].toNat : Int) < 245
  · exact rune1_4 s i w hi hs c3.1 c3.2
  have hi' : (i : Int) < (s.size : Int) := by omega
  have hc := s[i].toNat_lt
  have B0 := Lib.hid (byte_get s i hi)
  have HV := Lib.hid (fun a b n m h ha hb => rune1_val s i hi a b n m h ha hb)
  by_cases c0 : (s[i].toNat : Int) < 128
  · clear c1 c2 c3
    go_enter Tryd.func113, Tryd.ntmps113
    go_wp2
    go_ret2
    exact ⟨HV.out _ _ (byteAt s i) 1 (by have := B0.out; unfold ref1; rw [if_pos (by omega)]) (by rw [B0.out]) rfl, rfl⟩
  have hno : ref1 (s.size - i) (byteAt s i) (byteAt s (i + 1)) (byteAt s (i + 2)) (byteAt s (i + 3)) = (0, 0) := by
    have := B0.out
    unfold ref1
    rw [if_neg (by omega), if_neg (by omega), if_neg (by omega), if_neg (by omega)]
  have HN := Lib.hid hno
  clear hno
  by_cases d1 : (s[i].toNat : Int) < 194
  · clear c1 c2 c3
    go_enter Tryd.func113, Tryd.ntmps113
    go_wp2
    go_ret2
    exact ⟨HV.out _ _ 0 0 HN.out rfl rfl, rfl⟩
  · have d2 : 245 ≤ (s[i].toNat : Int) := by omega
    clear c1 c2 c3
    go_enter Tryd.func113, Tryd.ntmps113
    go_wp2
    go_ret2
    exact ⟨HV.out _ _ 0 0 HN.out rfl rfl, rfl⟩
end Go.Proofs.YtnajccljdjllgaaDoor
