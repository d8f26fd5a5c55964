/- A cell of a block that is kept; lengths of flattened lists. -/
import Derived.Test.YtnajccljdjllgaaDoorRow
set_option linter.unusedVariables false
set_option linter.unusedSimpArgs false
namespace Go.Proofs.YtnajccljdjllgaaDoor
open Go.RowKit Go.Lib
theorem Kept.cell {e : TypeId} {w w' : World} (h : Kept e w w') {b : Nat} {cs : Array Value} {t : TypeId} {m : Nat × Nat} (ht : t ≠ e) (hb : w.heap[b]? = some (.cells cs t m)) (o : Nat) (u : Value) (hu : cs[o]? = some u) : w'.cell? ⟨b, o, none⟩ = some u := by
  rw [cell_of_row w' b o cs t m (h b cs t m ht hb)]; simpa using hu
theorem flat_le {α β : Type} (f : α → List β) (c : Nat) : ∀ (l : List α), (∀ x ∈ l, (f x).length ≤ c) → (l.flatMap f).length ≤ l.length * c
  | [], _ => by simp
  | x :: l, h => by
    have h1 := h x (by simp)
    have h2 := flat_le f c l (fun y hy => h y (by simp [hy]))
    rw [List.flatMap_cons, List.length_append, List.length_cons, Nat.add_mul, Nat.one_mul]; omega
end Go.Proofs.YtnajccljdjllgaaDoor
