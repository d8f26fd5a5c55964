/- The set of sheets' numbers that shelf.May keeps in a map. -/
import Derived.Test.YtbdbmigkcpgmkaaDoorTags
import Derived.Maps.Own
import Derived.Maps.Views
import Derived.Maps.Keyed
import Derived.Laws.OwnMore
set_option linter.unusedVariables false
set_option linter.unusedSimpArgs false
namespace Go.Proofs.YtbdbmigkcpgmkaaDoor
open Go.RowKit Go.Lib Go.Maps
def Wf (x : Int) : Prop := -9223372036854775808 ≤ x ∧ x ≤ 9223372036854775807
theorem Wf.lit {x : Int} (h : Wf x) : (Lit.int .i64 x).wf = true := WalkArith.wf_i64 h
/-- All but block b is as it was. -/
structure Turned (b : Nat) (w w' : World) : Prop where
  os : w'.os = w.os
  tape : w'.tape = w.tape
  output : w'.output = w.output
  size : w.heap.size ≤ w'.heap.size
  block : ∀ i, i < w.heap.size → i ≠ b → w'.heap[i]? = w.heap[i]?
theorem Turned.of_grow {b : Nat} {w w' : World} (h : Grow w w') : Turned b w w' := ⟨h.os, h.tape, h.output, Below.size h, fun i hi _ => Below.block h i hi⟩
theorem Turned.trans {b : Nat} {u v w : World} (h : Turned b u v) (g : Turned b v w) : Turned b u w :=
  ⟨g.os.trans h.os, g.tape.trans h.tape, g.output.trans h.output, Nat.le_trans h.size g.size, fun i hi hb => (g.block i (Nat.lt_of_lt_of_le hi h.size) hb).trans (h.block i hi hb)⟩
theorem Turned.of_grown {b : Nat} {w w' : World} (h : w.grownBy w' (some b)) : Turned b w w' := ⟨h.os, h.tape, h.output, h.size, fun i hi hb => h.block i hi (fun e => hb (Option.some.inj e))⟩
theorem Turned.grow {b : Nat} {w0 w w' : World} (h : Turned b w w') (g : Grow w0 w) (hb : w0.heap.size ≤ b) : Grow w0 w' :=
  Below.trans g ⟨h.os, h.tape, h.output, h.size, fun i hi => h.block i (Nat.lt_of_lt_of_le hi g.size) (by omega)⟩
theorem Turned.cell {b : Nat} {w w' : World} (h : Turned b w w') {i o : Nat} (hi : i < w.heap.size) (hb : i ≠ b) : w'.cell? ⟨i, o, none⟩ = w.cell? ⟨i, o, none⟩ := World.cell?_of_block (w := w) (h.block i hi hb)
theorem Turned.refl (b : Nat) (w : World) : Turned b w w := .of_grow (Grow.refl w)
/-- Block b is the set S. -/
def Seen (w : World) (b n : Nat) (S : List Int) : Prop := ∃ D : DataW Unit, w.ownsMap Tryd.prog 3 (plainElem Tryd.prog 4) b n D ∧ IsMap D ∧ ∀ x, Wf x → D.atKey (.int .i64 x) (.lit (.bool false)) = .lit (.bool (decide (x ∈ S)))
theorem Seen.lt {w : World} {b n : Nat} {S : List Int} (h : Seen w b n S) : b < w.heap.size := by obtain ⟨D, h, _⟩ := h; exact h.lt
theorem Seen.kept {w w' : World} {b n : Nat} {S : List Int} (h : Seen w b n S) (e : w'.heap[b]? = w.heap[b]?) : Seen w' b n S := by
  obtain ⟨D, ⟨es, c, h1, h2, h3, h4⟩, h5, h6⟩ := h
  exact ⟨D, ⟨es, c, e.trans h1, h2, h3, h4⟩, h5, h6⟩
theorem Seen.grow {w w' : World} {b n : Nat} {S : List Int} (h : Seen w b n S) (g : Grow w w') : Seen w' b n S := h.kept (Below.block g b h.lt)
theorem Seen.made (w : World) : Seen (w.alloc (.map #[] 0)) w.heap.size 0 [] :=
  ⟨.map [], World.ownsMap_made w _ _ _, isMap_empty, fun x _ => by simp [DataW.atKey]⟩
theorem plainElem_bool_inv {v : Value} {d : DataW Unit} {ps : List MemPlace} (h : plainElem Tryd.prog 4 v = some (d, ps)) : ∃ c, v = .bool c ∧ d = .lit (.bool c) := by
  unfold plainElem at h
  rw [Tryd.underlying4] at h
  cases v <;> simp at h
  exact ⟨_, rfl, h.1.symm⟩
theorem Seen.look {w : World} {b n : Nat} {S : List Int} (h : Seen w b n S) {x : Int} (hx : Wf x) :
    (Instr.lookup 86 (.map (some b)) (.int .i64 x) false).run Tryd.prog w = .ok (.bool (decide (x ∈ S))) w := by
  obtain ⟨D, h1, h2, h3⟩ := h
  obtain ⟨v, ps, hrun, hv⟩ := h1.lookup (int_keyed Tryd.underlying3) Tryd.underlying86 (z := .bool false) (by kernel_rfl) (plainElem_bool Tryd.underlying4 false) (keyOf_int_mk Tryd.underlying3 hx.lit)
  rw [h3 x hx] at hv
  obtain ⟨c, rfl, e⟩ := plainElem_bool_inv hv
  injection e with e
  injection e with e
  rw [e]; exact hrun
theorem Seen.put {w : World} {b n : Nat} {S : List Int} (h : Seen w b n S) {x : Int} (hx : Wf x) (hn : n ≤ 1000000000) :
    ∃ w', (Instr.mapUpdate 86 (.map (some b)) (.int .i64 x) (.bool true)).run Tryd.prog w = .ok () w' ∧ Seen w' b (n + 1) (x :: S) ∧ Turned b w w' := by
  obtain ⟨D, h1, h2, h3⟩ := h
  obtain ⟨w', hrun, h4, h5⟩ := h1.update (int_keyed Tryd.underlying3) Tryd.underlying86 (by unfold maxLen; omega) (keyOf_int_mk Tryd.underlying3 hx.lit) (plainElem_bool Tryd.underlying4 true)
  refine ⟨w', hrun, ⟨_, h4, h2.put _ _, fun y hy => ?_⟩, Turned.of_grown h5⟩
  by_cases e : y = x
  · subst e; rw [atKey_put_same h2 (by trivial)]; simp
  · rw [atKey_put_other (by intro e'; injection e' with e1 e2; exact e e2), h3 y hy]; simp [e]
end Go.Proofs.YtbdbmigkcpgmkaaDoor
