/- The set of sheets' numbers that shelf.May keeps in a map. -/
import Derived.Test.YtnajccljdjllgaaDoorTags
import Derived.Test.YtnajccljdjllgaaDoorBase
import Derived.Maps.Own
import Derived.Maps.Views
import Derived.Maps.Keyed
import Derived.Laws.OwnMore
set_option linter.unusedVariables false
set_option linter.unusedSimpArgs false
namespace Go.Proofs.YtnajccljdjllgaaDoor
open Go.RowKit Go.Lib Go.Maps
/-- Block b is the set S. -/
def Seen (w : World) (b n : Nat) (S : List Int) : Prop := ∃ D : DataW Unit, w.ownsMap Tryd.prog 3 (plainElem Tryd.prog 4) b n D ∧ IsMap D ∧ ∀ x, Wf x → D.atKey (.int .i64 x) (.lit (.bool false)) = .lit (.bool (decide (x ∈ S)))
theorem Seen.lt {w : World} {b n : Nat} {S : List Int} (h : Seen w b n S) : b < w.heap.size := by obtain ⟨D, h, _⟩ := h; exact h.lt
theorem Seen.kept {w w' : World} {b n : Nat} {S : List Int} (h : Seen w b n S) (e : w'.heap[b]? = w.heap[b]?) : Seen w' b n S := by
  obtain ⟨D, ⟨es, c, h1, h2, h3, h4⟩, h5, h6⟩ := h
  exact ⟨D, ⟨es, c, e.trans h1, h2, h3, h4⟩, h5, h6⟩
theorem Seen.grow {w w' : World} {b n : Nat} {S : List Int} (h : Seen w b n S) (g : Grow w w') : Seen w' b n S := h.kept (Below.block g b h.lt)
theorem Seen.made (w : World) : Seen (w.alloc (.map #[] 0)) w.heap.size 0 [] :=
  ⟨.map [], World.ownsMap_made w _ _ _, isMap_empty, fun x _ => by simp [DataW.atKey]⟩
set_option maxRecDepth 100000 in
theorem plainElem_bool_inv {v : Value} {d : DataW Unit} {ps : List MemPlace} (h : plainElem Tryd.prog 4 v = some (d, ps)) : ∃ c, v = .bool c ∧ d = .lit (.bool c) := by
  unfold plainElem at h
  rw [Tryd.underlying4] at h
  cases v <;> simp at h
  exact ⟨_, rfl, h.1.symm⟩
set_option maxRecDepth 100000 in
theorem Seen.look {w : World} {b n : Nat} {S : List Int} (h : Seen w b n S) {x : Int} (hx : Wf x) :
    (Instr.lookup 81 (.map (some b)) (.int .i64 x) false).run Tryd.prog w = .ok (.bool (decide (x ∈ S))) w := by
  obtain ⟨D, h1, h2, h3⟩ := h
  obtain ⟨v, ps, hrun, hv⟩ := h1.lookup (int_keyed Tryd.underlying3) Tryd.underlying81 (z := .bool false) (by kernel_rfl) (plainElem_bool Tryd.underlying4 false) (keyOf_int_mk Tryd.underlying3 hx.lit)
  rw [h3 x hx] at hv
  obtain ⟨c, rfl, e⟩ := plainElem_bool_inv hv
  injection e with e
  injection e with e
  rw [e]; exact hrun
set_option maxRecDepth 100000 in
theorem Seen.put {w : World} {b n : Nat} {S : List Int} (h : Seen w b n S) {x : Int} (hx : Wf x) (hn : n ≤ 1000000000) :
    ∃ w', (Instr.mapUpdate 81 (.map (some b)) (.int .i64 x) (.bool true)).run Tryd.prog w = .ok () w' ∧ Seen w' b (n + 1) (x :: S) ∧ Turned b w w' := by
  obtain ⟨D, h1, h2, h3⟩ := h
  obtain ⟨w', hrun, h4, h5⟩ := h1.update (int_keyed Tryd.underlying3) Tryd.underlying81 (by unfold maxLen; omega) (keyOf_int_mk Tryd.underlying3 hx.lit) (plainElem_bool Tryd.underlying4 true)
  refine ⟨w', hrun, ⟨_, h4, h2.put _ _, fun y hy => ?_⟩, Turned.of_grown h5⟩
  by_cases e : y = x
  · subst e; rw [atKey_put_same h2 (by trivial)]; simp
  · rw [atKey_put_other (by intro e'; injection e' with e1 e2; exact e e2), h3 y hy]; simp [e]
end Go.Proofs.YtnajccljdjllgaaDoor
