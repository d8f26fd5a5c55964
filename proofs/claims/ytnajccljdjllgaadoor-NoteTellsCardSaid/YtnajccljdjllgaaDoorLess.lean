/- The order of texts. -/
import Derived.WalkKit
import Derived.Lib.Strings
set_option linter.unusedVariables false
set_option linter.unusedSimpArgs false
namespace Go.Proofs.YtnajccljdjllgaaDoor
open Go.RowKit Go.Lib
/-! The order of texts -/
def ltS (a b : ByteArray) : Bool := Op.bytesLess a.toList b.toList
theorem ltS_list (a b : ByteArray) : ltS a b = decide (a.data.toList < b.data.toList) := by
  have : ∀ (x y : List UInt8), Op.bytesLess x y = decide (x < y) := by
    intro x
    induction x with
    | nil => intro y; cases y <;> simp [Op.bytesLess]
    | cons a x ih =>
      intro y
      cases y with
      | nil => simp [Op.bytesLess]
      | cons b y => rw [Op.bytesLess, ih, Bool.eq_iff_iff]; simp [List.cons_lt_cons_iff]
  unfold ltS
  rw [this, Lib.toList_data, Lib.toList_data]
theorem ltS_irrefl (a : ByteArray) : ltS a a = false := by rw [ltS_list]; simp [List.lt_irrefl]
theorem ltS_trans {a b c : ByteArray} (h : ltS a b = true) (g : ltS b c = true) : ltS a c = true := by
  rw [ltS_list] at *; simp at *; exact List.lt_trans h g
theorem eq_of_list {a b : ByteArray} (h : a.data.toList = b.data.toList) : a = b := ByteArray.ext (Array.toList_inj.1 h)
theorem ltS_total {a b : ByteArray} (h : ltS a b = false) (g : ltS b a = false) : a = b := by
  rw [ltS_list] at *; simp at *
  exact eq_of_list (List.le_antisymm g h)
theorem ltS_asymm {a b : ByteArray} (h : ltS a b = true) : ltS b a = false := by
  cases g : ltS b a
  · rfl
  · have := ltS_trans h g; rw [ltS_irrefl] at this; cases this
end Go.Proofs.YtnajccljdjllgaaDoor
