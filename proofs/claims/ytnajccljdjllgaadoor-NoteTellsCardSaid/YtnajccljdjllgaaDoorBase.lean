/- Small words: endings, structs compared, boxes. -/
import Derived.Test.YtnajccljdjllgaaDoorData
import Derived.Laws.StructEq
import Derived.Laws.OwnMore
import Derived.Maps.Own
set_option linter.unusedVariables false
set_option linter.unusedSimpArgs false
namespace Go.Proofs.YtnajccljdjllgaaDoor
open Go.RowKit Go.Lib Go.Maps
theorem ret_bool {a b : Bool} (h : a = b) : Ending.returned (.bool a) = .returned (.bool b) := by rw [h]
theorem ret_int {k : IntKind} {a b : Int} (h : a = b) : Ending.returned (.int k a) = .returned (.int k b) := by rw [h]
section
variable {P : Program} {d : Nat} {xs ys : Array Value} {f : Field} {fs : List Field} {a b : Value} {r s : Bool} {w : World}
theorem eqf_one (hn : (f.name == "_") = false) (ha : (part f.type xs f.offset).run P w = .ok a w) (hb : (part f.type ys f.offset).run P w = .ok b w) (he : (Op.equalIn d f.type a b).run P w = .ok r w) : (Op.eqFields d xs ys [f]).run P w = .ok r w := by
  have hn' : f.name ≠ "_" := by simpa using hn
  simp only [Op.eqFields, if_pos hn', Sem.run_bind, ha, hb, he, Result.andThen_ok]
  cases r <;> simp
theorem eqf_more (hn : (f.name == "_") = false) (ha : (part f.type xs f.offset).run P w = .ok a w) (hb : (part f.type ys f.offset).run P w = .ok b w) (he : (Op.equalIn d f.type a b).run P w = .ok r w) (hr : (Op.eqFields d xs ys fs).run P w = .ok s w) : (Op.eqFields d xs ys (f :: fs)).run P w = .ok (r && s) w := by
  have hn' : f.name ≠ "_" := by simpa using hn
  rw [Op.eqFields]
  simp only [if_pos hn', Sem.run_bind, ha, hb, he, Result.andThen_ok]
  cases r
  · simp
  · simpa using hr
theorem eq_struct {t : TypeId} {fs : Array Field} (hu : P.underlying t = some (.struct fs)) (hp : P.stoodInHeld t = false) (h : (Op.eqFields d xs ys fs.toList).run P w = .ok r w) : (Op.equalIn (d + 1) t (.agg xs) (.agg ys)).run P w = .ok r w := by
  have hf : P.fieldsOf t = fs := by simp [Program.fieldsOf, hu]
  rw [run_equalIn_struct (P := P) w d t xs ys (by rw [hf]; exact hu) hp, hf]
  exact h
end
theorem Grow.blk {w W : World} (g : Grow w W) {b : Nat} {o : Obj} (h : w.heap[b]? = some o) : W.heap[b]? = some o := (Below.block g b (Array.getElem?_eq_some_iff.1 h).1).trans h
def allTo (n : Nat) (p : Nat → Bool) : Bool := (List.range n).all p
theorem allTo_yes {n : Nat} {p : Nat → Bool} (h : ∀ j, j < n → p j = true) : allTo n p = true := by
  unfold allTo; rw [List.all_eq_true]; intro j hj; exact h j (List.mem_range.1 hj)
theorem allTo_no {n : Nat} {p : Nat → Bool} {i : Nat} (hi : i < n) (h : p i = false) : allTo n p = false := by
  unfold allTo; rw [List.all_eq_false]; exact ⟨i, List.mem_range.2 hi, by rw [h]; simp⟩
theorem allTo_iff {n : Nat} {p : Nat → Bool} : allTo n p = true ↔ ∀ j, j < n → p j = true := by
  unfold allTo; rw [List.all_eq_true]
  exact ⟨fun h j hj => h j (List.mem_range.2 hj), fun h j hj => h j (List.mem_range.1 hj)⟩
theorem getD_of {α : Type} {l : List α} {i : Nat} {x d : α} (h : l[i]? = some x) : l.getD i d = x := by rw [List.getD_eq_getElem?_getD, h]; rfl
def Wf (x : Int) : Prop := -9223372036854775808 ≤ x ∧ x ≤ 9223372036854775807
theorem Wf.lit {x : Int} (h : Wf x) : (Lit.int .i64 x).wf = true := WalkArith.wf_i64 h
/-- All but block b is as it was. -/
structure Turned (b : Nat) (w w' : World) : Prop where
  os : w'.os = w.os
  tape : w'.tape = w.tape
  output : w'.output = w.output
  size : w.heap.size ≤ w'.heap.size
  block : ∀ i, i < w.heap.size → i ≠ b → w'.heap[i]? = w.heap[i]?
theorem Turned.of_grow {b : Nat} {w w' : World} (h : Grow w w') : Turned b w w' := ⟨h.os, h.tape, h.output, Below.size h, fun i hi _ => Below.block h i hi⟩
theorem Turned.trans {b : Nat} {u v w : World} (h : Turned b u v) (g : Turned b v w) : Turned b u w :=
  ⟨g.os.trans h.os, g.tape.trans h.tape, g.output.trans h.output, Nat.le_trans h.size g.size, fun i hi hb => (g.block i (Nat.lt_of_lt_of_le hi h.size) hb).trans (h.block i hi hb)⟩
theorem Turned.of_grown {b : Nat} {w w' : World} (h : w.grownBy w' (some b)) : Turned b w w' := ⟨h.os, h.tape, h.output, h.size, fun i hi hb => h.block i hi (fun e => hb (Option.some.inj e))⟩
theorem Turned.grow {b : Nat} {w0 w w' : World} (h : Turned b w w') (g : Grow w0 w) (hb : w0.heap.size ≤ b) : Grow w0 w' :=
  Below.trans g ⟨h.os, h.tape, h.output, h.size, fun i hi => h.block i (Nat.lt_of_lt_of_le hi g.size) (by omega)⟩
theorem Turned.cell {b : Nat} {w w' : World} (h : Turned b w w') {i o : Nat} (hi : i < w.heap.size) (hb : i ≠ b) : w'.cell? ⟨i, o, none⟩ = w.cell? ⟨i, o, none⟩ := World.cell?_of_block (w := w) (h.block i hi hb)
theorem Turned.refl (b : Nat) (w : World) : Turned b w w := .of_grow (Grow.refl w)
end Go.Proofs.YtnajccljdjllgaaDoor
