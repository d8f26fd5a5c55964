/- Items, ordered by their names: cmp.Compare of texts, shelf.byName. -/
import Derived.Test.YtnajccljdjllgaaDoorLess
import Derived.Test.YtnajccljdjllgaaDoorOwnW
set_option linter.unusedVariables false
set_option linter.unusedSimpArgs false
namespace Go.Proofs.YtnajccljdjllgaaDoor
open Go.RowKit Go.Lib
structure Item where
  id : Int
  name : ByteArray
instance : Inhabited Item := ⟨⟨0, ⟨#[]⟩⟩⟩
abbrev itemC (x : Item) : List Value := [.int .i64 x.id, .string x.name]
def itemV (x : Item) : Value := .agg #[.int .i64 x.id, .string x.name]
def ItemR (_ : World) (x : Item) (cs : List Value) : Prop := cs = itemC x
abbrev Items := Reads ItemR 2
/-- Three ways. -/
def cmpS (a b : ByteArray) : Int := if ltS a b then -1 else if ltS b a then 1 else 0
set_option maxRecDepth 100000 in
theorem nan_any (a : ByteArray) (w : World) : Calls Tryd.prog 125 #[.string a] w fun e w' => e = .returned (.bool false) ∧ w = w' := by
  go_enter Tryd.func125, Tryd.ntmps125
  go_wp2_with fail
  go_ret
  exact ⟨ret_bool (by simp), rfl⟩
set_option maxRecDepth 100000 in
theorem cmpS_any (a b : ByteArray) (w : World) : Calls Tryd.prog 99 #[.string a, .string b] w fun e w' => e = .returned (.int .i64 (cmpS a b)) ∧ w = w' := by
  have c1 := nan_any a
  have c2 := nan_any b
  cases h1 : ltS a b
  · have l1 : Op.bytesLess a.toList b.toList = false := h1
    cases h2 : ltS b a
    · have l2 : Op.bytesLess b.toList a.toList = false := h2
      have l3 : (a.toList == b.toList) = true := by rw [ltS_total h1 h2]; simp
      have HR := Lib.hid (show cmpS a b = 0 by unfold cmpS; rw [h1, h2]; rfl)
      clear h1 h2
      go_enter Tryd.func99, Tryd.ntmps99
      go_wp2_with fail
      refine (c1 _).mono ?_
      rintro e w1 ⟨rfl, rfl⟩
      go_wp2_with fail
      refine (c2 _).mono ?_
      rintro e w1 ⟨rfl, rfl⟩
      go_wp2_with fail
      go_ret
      exact ⟨ret_int HR.out.symm, rfl⟩
    · have l2 : Op.bytesLess b.toList a.toList = true := h2
      have l3 : (a.toList == b.toList) = false := by
        rw [beq_eq_false_iff_ne]
        intro e
        rw [eq_of_tl e, ltS_irrefl] at h2; cases h2
      have HR := Lib.hid (show cmpS a b = 1 by unfold cmpS; rw [h1, h2]; rfl)
      clear h1 h2
      go_enter Tryd.func99, Tryd.ntmps99
      go_wp2_with fail
      refine (c1 _).mono ?_
      rintro e w1 ⟨rfl, rfl⟩
      go_wp2_with fail
      refine (c2 _).mono ?_
      rintro e w1 ⟨rfl, rfl⟩
      go_wp2_with fail
      go_ret
      exact ⟨ret_int HR.out.symm, rfl⟩
  · have l1 : Op.bytesLess a.toList b.toList = true := h1
    have HR := Lib.hid (show cmpS a b = -1 by unfold cmpS; rw [h1]; rfl)
    clear h1
    go_enter Tryd.func99, Tryd.ntmps99
    go_wp2_with fail
    refine (c1 _).mono ?_
    rintro e w1 ⟨rfl, rfl⟩
    go_wp2_with fail
    refine (c2 _).mono ?_
    rintro e w1 ⟨rfl, rfl⟩
    go_wp2_with fail
    go_ret
    exact ⟨ret_int HR.out.symm, rfl⟩
end Go.Proofs.YtnajccljdjllgaaDoor
