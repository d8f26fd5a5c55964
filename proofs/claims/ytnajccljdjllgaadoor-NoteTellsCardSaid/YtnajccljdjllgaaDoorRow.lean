/- Rows that a call owns, grown by appends: of any element type. -/
import Derived.Test.YtnajccljdjllgaaDoorData
import Derived.Lib.AppendStr
import Derived.Lib.BufSteps
import Derived.Laws.OwnMore
import Derived.KernelRfl
set_option linter.unusedVariables false
set_option linter.unusedSimpArgs false
namespace Go.Proofs.YtnajccljdjllgaaDoor
open Go.RowKit Go.Lib
/-- v owns the n elements xs, of type e and k cells each; all that was in W0 is as it was. -/
structure Own (e : TypeId) (k : Nat) (W0 : World) (v : Value) (n : Nat) (xs : List Value) (w : World) : Prop where
  row : w.ownsRow W0.heap.size e k v n xs
  grow : Grow W0 w
/-- Blocks of cells of other types are as they were. -/
def Kept (e : TypeId) (w w' : World) : Prop := ∀ (b : Nat) (cs : Array Value) (t : TypeId) (m : Nat × Nat), t ≠ e → w.heap[b]? = some (.cells cs t m) → w'.heap[b]? = some (.cells cs t m)
theorem Kept.refl (e : TypeId) (w : World) : Kept e w w := fun _ _ _ _ _ h => h
theorem Kept.trans {e : TypeId} {u v w : World} (h : Kept e u v) (g : Kept e v w) : Kept e u w := fun b cs t m ht hb => g b cs t m ht (h b cs t m ht hb)
theorem Kept.of_grow {e : TypeId} {w w' : World} (h : Grow w w') : Kept e w w' := fun b cs t m _ hb => (Below.block h b (Array.getElem?_eq_some_iff.1 hb).1).trans hb
theorem Kept.alloc {e : TypeId} {w w' : World} (h : Kept e w w') (o : Obj) : Kept e w (w'.alloc o) := h.trans (.of_grow ((Grow.refl w').alloc o))
theorem Own.nil (e : TypeId) (k : Nat) (w : World) : Own e k w (.slice none 0 0) 0 [] w := ⟨World.ownsRow_nil _ _ _ _, Grow.refl w⟩
theorem Own.start {e : TypeId} {k : Nat} {W0 w : World} (g : Grow W0 w) : Own e k W0 (.slice none 0 0) 0 [] w := ⟨World.ownsRow_nil _ _ _ _, g⟩
theorem Own.far {e : TypeId} {k : Nat} {W0 : World} {v : Value} {n : Nat} {xs : List Value} {w : World} (h : Own e k W0 v n xs w) {b : Nat} {cs : Array Value} {t : TypeId} {m : Nat × Nat} (ht : t ≠ e) (hb : w.heap[b]? = some (.cells cs t m)) : some b ≠ v.ownBlock := by
  intro he
  rcases h.row.2 with ⟨rfl, _⟩ | ⟨g, cap, cur, rfl, _, hg, _⟩
  · cases he
  · simp only [Value.ownBlock, Option.some.injEq] at he
    subst he
    rw [hg] at hb
    injection hb with hb
    injection hb with h1 h2 h3
    exact ht h2.symm
theorem Own.keeps {e : TypeId} {k : Nat} {W0 : World} {v : Value} {n : Nat} {xs : List Value} {w w' : World} (h : Own e k W0 v n xs w) (g : w.grownBy w' v.ownBlock) : Kept e w w' := fun b cs t m ht hb =>
  (g.block b (Array.getElem?_eq_some_iff.1 hb).1 (h.far ht hb)).trans hb
theorem Own.grown {e : TypeId} {k : Nat} {W0 : World} {v v' : Value} {n n' : Nat} {xs xs' : List Value} {w w' : World} (h : Own e k W0 v n xs w) (ho : w'.ownsRow W0.heap.size e k v' n' xs') (hg : w.grownBy w' v.ownBlock) : Own e k W0 v' n' xs' w' :=
  ⟨ho, Below.grown h.grow hg h.grow.size (fun k hk => (h.row.lt k hk).1)⟩
theorem Own.alloc {e : TypeId} {k : Nat} {W0 : World} {v : Value} {n : Nat} {xs : List Value} {w : World} (h : Own e k W0 v n xs w) (o : Obj) : Own e k W0 v n xs (w.alloc o) := ⟨h.row.alloc o, h.grow.alloc o⟩
theorem Own.drew {e : TypeId} {k : Nat} {W0 : World} {v : Value} {n : Nat} {xs : List Value} {w : World} (h : Own e k W0 v n xs w) : Own e k W0 v n xs w.drew := ⟨h.row.drew, h.grow.drew⟩
theorem Own.grow' {e : TypeId} {k : Nat} {W0 : World} {v : Value} {n : Nat} {xs : List Value} {w w' : World} (h : Own e k W0 v n xs w) (g : Grow w w') : Own e k W0 v n xs w' :=
  ⟨h.row.kept (row := none) ⟨g.os, g.tape, g.output, g.size, fun i hi _ => Below.block g i hi⟩ (by cases h' : v.ownBlock <;> simp), h.grow.trans g⟩
/-- What is owned reads. -/
theorem Own.reads {α : Type} {R : World → α → List Value → Prop} {e : TypeId} {k : Nat} {W0 : World} {v : Value} {xs : List Value} {w : World} {l : List α} (h : Own e k W0 v l.length xs w)
    (hR : ∀ (i : Nat) (x : α), l[i]? = some x → R w x ((xs.drop (i * k)).take k)) : Reads R k w v l := by
  have hlen := h.row.1
  rcases h.row.2 with ⟨rfl, h0⟩ | ⟨g, cap, cur, rfl, hb, hg, hn, hc, hs, ht⟩
  · exact ⟨none, 0, by rw [h0], by omega, fun hp => absurd hp (by omega)⟩
  · refine ⟨_, _, rfl, hn, fun hp => ⟨g, 0, rfl, (Array.getElem?_eq_some_iff.1 hg).1, fun i hi => ⟨(xs.drop (i * k)).take k, ?_, fun x hx => hR i x hx, fun j u hu => ?_⟩⟩⟩
    · rw [List.length_take, List.length_drop, hlen]
      have : (i + 1) * k ≤ l.length * k := Nat.mul_le_mul_right k hi
      rw [Nat.add_mul, Nat.one_mul] at this
      omega
    · have hu' : xs[i * k + j]? = some u := by
        rw [List.getElem?_take] at hu
        split at hu
        · rwa [List.getElem?_drop] at hu
        · cases hu
      have := h.row.cells (g := g) rfl (i * k + j) u hu'
      rw [← this]; congr 1; unfold Addr.add; split <;> simp_all
section
variable {P : Program}
/-- One element is appended. -/
theorem app_one {ops : Array Oper} {rest : List Oper} {o : Oper} {a : Act} {Q : Exit → Act → World → Prop} (hgd : o.guard = none) (s x : Operand) (t : TypeId)
    (ho : o.op = .call { callee := .builtin .append, args := #[s, x], argTypes := #[t, t] })
    (e : TypeId) (i : TypeInfo) (z : Value) (k bytes : Nat) (ht : P.underlying t = some (.slice e)) (hi : P.info? e = some i) (hz : i.zero = some z)
    (hsize : i.size = k) (hby : i.bytes = bytes) (hzs : z.cells.size = k) (hsz : 0 < k)
    (v : Value) (n : Nat) (xs : List Value) (hs : a.eval s = v) (W0 w : World) (hb : Own e k W0 v n xs w) (cs : List Value) (hcl : cs.length = k) (h1 : ∀ u ∈ cs, u.oneCell' = true)
    (hx : a.eval x = .slice (some ⟨w.heap.size, 0, none⟩) 1 1) (hn : n + 1 ≤ 1000000000000) (hbytes : bytes ≤ 100)
    (h : ∀ v' w', Own e k W0 v' (n + 1) (xs ++ cs) w' → Kept e w w' → w.heap.size < w'.heap.size → wpList P ops Q rest (a.put o.dst v') w') : wpList P ops Q (o :: rest) a (w.alloc (.cells cs.toArray e)) := by
  have hb' := hb.alloc (.cells cs.toArray e)
  refine wpList_append_own _ hgd s x t ho W0.heap.size e i z k bytes ht hi hz hsize hby hzs hsz v n xs hs hb'.row ⟨w.heap.size, 0, none⟩ 1 1 cs hx (by omega) ?_ h1 (by unfold maxLen; omega) ?_ hb'.grow.size ?_
  · intro j u hj
    have : (⟨w.heap.size, 0, none⟩ : Addr).add j = ⟨w.heap.size, j, none⟩ := by unfold Addr.add; split <;> simp_all
    rw [this, cell_of_row _ w.heap.size j cs.toArray e (0, 0) (heap_alloc_new w _)]
    simpa using hj
  · exact Nat.le_trans (Nat.mul_le_mul hn hbytes) (by decide)
  · intro v' w' ho' hg _
    exact h v' w' (hb'.grown ho' hg) ((Kept.of_grow ((Grow.refl w).alloc _)).trans (hb'.keeps hg)) (Nat.lt_of_lt_of_le (by simp) hg.size)
/-- A text's bytes are appended. -/
theorem app_text {ops : Array Oper} {rest : List Oper} {o : Oper} {a : Act} {Q : Exit → Act → World → Prop} {w : World} (hgd : o.guard = none) (sl x : Operand) (t u : TypeId)
    (ho : o.op = .call { callee := .builtin .append, args := #[sl, x], argTypes := #[t, u] })
    (e : TypeId) (i : TypeInfo) (ht : P.underlying t = some (.slice e)) (hu : P.underlying u = some .string) (hi : P.info? e = some i) (hz : i.zero = some (.int .u8 0)) (hsize : i.size = 1) (hby : i.bytes = 1)
    (v : Value) (n : Nat) (xs : List Value) (hs : a.eval sl = v) (W0 : World) (hb : Own e 1 W0 v n xs w) (s : ByteArray) (hx : a.eval x = .string s) (hn : n + s.size ≤ 1000000000000)
    (h : ∀ v' w', Own e 1 W0 v' (n + s.size) (xs ++ strCells s) w' → Kept e w w' → wpList P ops Q rest (a.put o.dst v') w') : wpList P ops Q (o :: rest) a w := by
  refine wpList_append_own_string w hgd sl x t u ho W0.heap.size e i ht hu hi hz hsize hby v n xs hs hb.row s hx (by unfold maxLen; omega) (by omega) hb.grow.size ?_
  intro v' w' ho' hg _
  exact h v' w' (hb.grown ho' hg) (hb.keeps hg)
end
end Go.Proofs.YtnajccljdjllgaaDoor
