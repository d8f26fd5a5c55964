/- What a Lay answers, of any shelf. -/
import Derived.Test.YtbdbmigkcpgmkaaDoorLawSizes
set_option linter.unusedVariables false
set_option linter.unusedSimpArgs false
namespace Go.Proofs.YtbdbmigkcpgmkaaDoor
open Go.RowKit Go.Lib
/-- What a Lay answers, of a shelf that may be or not: its bytes' value, their list, the error. -/
def LayOut (s : Shelf) (w : World) (e : Ending) (w' : World) : Prop :=
  ∃ v l n, e = .returned (.tuple #[v, .int .i64 n]) ∧ Buf w v l w' ∧ l = (if mayS s = true then layB s else []) ∧ n = (if mayS s = true then 0 else 2)
theorem layOut_of {s : Shelf} {w : World} {e : Ending} {w' : World} (h : LayPost s w e w') : LayOut s w e w' := by
  rcases h with ⟨hm, rfl, g⟩ | ⟨hm, v, rfl, hb⟩
  · exact ⟨_, [], _, rfl, Own.start g, by rw [hm]; rfl, by rw [hm]; rfl⟩
  · exact ⟨_, _, _, rfl, hb, by rw [if_pos hm], by rw [if_pos hm]⟩
theorem layB_le {s : Shelf} (hm : mayS s = true) (hz : TameS s) : (layB s).length ≤ 1000000000 := by
  have h1 := flat_le bookB 1000004 s.books (fun x hm => bookB_le (hz.1.2.2.1 x hm))
  have h2 := flat_le noteB 6000000 s.notes (fun x hx => by
    obtain ⟨i, hi, e⟩ := List.getElem_of_mem hx
    have := (mayS_small hm).2.2 x hx
    exact noteB_le (hz.note (i := i) (by rw [List.getElem?_eq_getElem hi, e])) this.1 this.2)
  have n1 := (mayS_small hm).1
  have n2 := (mayS_small hm).2.1
  have h3 := Nat.mul_le_mul_right 1000004 n1
  have h4 := Nat.mul_le_mul_right 6000000 n2
  rw [layB_length]; omega
theorem if_len {s : Shelf} (hz : TameS s) : (if mayS s = true then layB s else []).length ≤ 1000000000 := by
  split
  · rename_i hm; exact layB_le hm hz
  · simp
end Go.Proofs.YtbdbmigkcpgmkaaDoor
