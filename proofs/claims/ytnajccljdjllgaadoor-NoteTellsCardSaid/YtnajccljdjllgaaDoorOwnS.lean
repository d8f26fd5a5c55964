/- A shelf of the call's own: rows of books and notes, and each note's rows, all in blocks of their own. -/
import Derived.Test.YtnajccljdjllgaaDoorBase
import Derived.Test.YtnajccljdjllgaaDoorAppg
set_option linter.unusedVariables false
set_option linter.unusedSimpArgs false
namespace Go.Proofs.YtnajccljdjllgaaDoor
open Go.RowKit Go.Lib
/-- The block into which an append may write. -/
def blkOf : Value → Option Nat
  | .slice (some a) _ (_ + 1) => some a.block
  | _ => none
/-- v owns the n elements xs, or is empty and has no room. -/
def RowO (base : Nat) (e : TypeId) (k : Nat) (v : Value) (n : Nat) (xs : List Value) (w : World) : Prop :=
  w.ownsRow base e k v n xs ∨ (n = 0 ∧ xs = [] ∧ ∃ a, v = .slice a 0 0)
section
variable {base : Nat} {e : TypeId} {k : Nat} {v : Value} {n : Nat} {xs : List Value} {w w' : World}
theorem RowO.len (h : RowO base e k v n xs w) : xs.length = n * k := by
  rcases h with h | ⟨rfl, rfl, -⟩
  · exact h.1
  · simp
theorem RowO.nil : RowO base e k (.slice none 0 0) 0 [] w := .inr ⟨rfl, rfl, none, rfl⟩
theorem RowO.slice (h : RowO base e k v n xs w) : ∃ a c, v = .slice a n c ∧ n ≤ c := by
  rcases h with ⟨-, ⟨rfl, rfl⟩ | ⟨g, cap, cur, rfl, _, _, h, _⟩⟩ | ⟨rfl, -, a, rfl⟩
  · exact ⟨_, _, rfl, Nat.le_refl _⟩
  · exact ⟨_, _, rfl, h⟩
  · exact ⟨_, _, rfl, Nat.le_refl _⟩
/-- Where it can be written. -/
theorem RowO.blk (h : RowO base e k v n xs w) {g : Nat} (hg : blkOf v = some g) : base ≤ g ∧ ∃ cur : Array Value, w.heap[g]? = some (.cells cur e (0, 0)) := by
  rcases h with ⟨-, ⟨rfl, rfl⟩ | ⟨b, cap, cur, rfl, hb, hc, _⟩⟩ | ⟨rfl, -, a, rfl⟩
  · cases hg
  · cases cap with
    | zero => cases hg
    | succ cap => simp only [blkOf, Option.some.injEq] at hg; subst hg; exact ⟨hb, cur, hc⟩
  · cases a <;> cases hg
theorem RowO.blk_lt (h : RowO base e k v n xs w) {g : Nat} (hg : blkOf v = some g) : g < w.heap.size := by
  obtain ⟨-, cur, hc⟩ := h.blk hg
  exact (Array.getElem?_eq_some_iff.1 hc).1
theorem RowO.kept_of (h : RowO base e k v n xs w) (hk : ∀ g, blkOf v = some g → w'.heap[g]? = w.heap[g]?) : RowO base e k v n xs w' := by
  rcases h with ⟨h1, ⟨rfl, rfl⟩ | ⟨b, cap, cur, rfl, hb, hc, h2, h3, h4, h5⟩⟩ | h
  · exact .inl ⟨h1, .inl ⟨rfl, rfl⟩⟩
  · cases cap with
    | zero =>
      obtain rfl : n = 0 := by omega
      exact .inr ⟨rfl, List.eq_nil_of_length_eq_zero (by rw [h1]; simp), _, rfl⟩
    | succ cap => exact .inl ⟨h1, .inr ⟨b, cap + 1, cur, rfl, hb, (hk b rfl).trans hc, h2, h3, h4, h5⟩⟩
  · exact .inr h
theorem RowO.kept (h : RowO base e k v n xs w) {e' : TypeId} (hne : e ≠ e') (hk : Kept e' w w') : RowO base e k v n xs w' :=
  h.kept_of fun g hg => by obtain ⟨-, cur, hc⟩ := h.blk hg; rw [hc]; exact hk g cur e (0, 0) hne hc
theorem RowO.grow (h : RowO base e k v n xs w) (g : Grow w w') : RowO base e k v n xs w' :=
  h.kept_of fun b hb => Below.block g b (h.blk_lt hb)
theorem RowO.turned (h : RowO base e k v n xs w) {b : Nat} (t : Turned b w w') (hb : blkOf v ≠ some b) : RowO base e k v n xs w' :=
  h.kept_of fun g hg => t.block g (h.blk_lt hg) (by rintro rfl; exact hb hg)
theorem RowO.cell (h : RowO base e k v n xs w) {j : Nat} {u : Value} (hu : xs[j]? = some u) : ∃ b c, v = .slice (some ⟨b, 0, none⟩) n c ∧ w.cell? ⟨b, j, none⟩ = some u ∧ w.frozen? ⟨b, j, none⟩ = false ∧ b < w.heap.size ∧ blkOf v = some b := by
  rcases h with h | ⟨rfl, rfl, -⟩
  · have h0 := h
    rcases h with ⟨h1, ⟨rfl, rfl⟩ | ⟨b, cap, cur, rfl, hb, hc, h2, h3, h4, h5⟩⟩
    · have := List.eq_nil_of_length_eq_zero (l := xs) (by rw [h1]; simp); subst this; simp at hu
    · have hj : j < n * k := by have := (List.getElem?_eq_some_iff.1 hu).1; omega
      refine ⟨b, cap, rfl, (h0.cellAt j hj).trans hu, h0.frozenAt j, (Array.getElem?_eq_some_iff.1 hc).1, ?_⟩
      cases cap with
      | zero => simp at h2; subst h2; simp at hj
      | succ c => rfl
  · simp at hu
theorem RowO.reads {α : Type} {R : World → α → List Value → Prop} {l : List α} (h : RowO base e k v l.length xs w) (hR : ∀ (i : Nat) (x : α), l[i]? = some x → R w x ((xs.drop (i * k)).take k)) : Reads R k w v l := by
  have hlen := h.len
  obtain ⟨a, c, rfl, hc⟩ := h.slice
  refine ⟨a, c, rfl, hc, fun hp => ?_⟩
  rcases h with h | ⟨h0, -, -⟩
  · have h0 := h
    rcases h with ⟨h1, ⟨-, h2⟩ | ⟨b, cap, cur, e2, hb, hc, h2, h3, h4, h5⟩⟩
    · omega
    · injection e2 with e2 e3 e4
      subst e2 e4
      refine ⟨b, 0, rfl, (Array.getElem?_eq_some_iff.1 hc).1, fun i hi => ⟨(xs.drop (i * k)).take k, ?_, fun x hx => hR i x hx, fun j u hu => ?_⟩⟩
      · rw [List.length_take, List.length_drop, hlen]
        have : (i + 1) * k ≤ l.length * k := Nat.mul_le_mul_right k hi
        rw [Nat.add_mul, Nat.one_mul] at this
        omega
      · have hu' : xs[i * k + j]? = some u := by
          rw [List.getElem?_take] at hu
          split at hu
          · rwa [List.getElem?_drop] at hu
          · cases hu
        have hj : i * k + j < l.length * k := by have := (List.getElem?_eq_some_iff.1 hu').1; omega
        rw [Nat.zero_add, h0.cellAt _ hj]; exact hu'
  · omega
/-- A cell is stored. -/
theorem RowO.stored (h : RowO base e k v n xs w) {j : Nat} {u0 : Value} (hu : xs[j]? = some u0) (u : Value) :
    ∃ b c, v = .slice (some ⟨b, 0, none⟩) n c ∧ blkOf v = some b ∧ RowO base e k v n (xs.set j u) (w.setCell ⟨b, j, none⟩ u) ∧ Turned b w (w.setCell ⟨b, j, none⟩ u) ∧ ∃ cur : Array Value, w.heap[b]? = some (.cells cur e (0, 0)) := by
  obtain ⟨b, c, rfl, -, -, -, hb⟩ := h.cell hu
  obtain ⟨-, cur, hcur⟩ := h.blk hb
  rcases h with h | ⟨rfl, rfl, -⟩
  · have := h.stored j u
    exact ⟨b, c, rfl, hb, .inl this.1, Turned.of_grown this.2, cur, hcur⟩
  · simp at hu
end
section
variable {P : Program}
/-- An append onto what is empty and has no room is one onto nil. -/
theorem append_zero {t ty e : TypeId} {i : TypeInfo} {z : Value} (ht : P.underlying t = some (.slice e)) (hi : P.info? e = some i) (hz : i.zero = some z) (a b : Addr) {m c : Nat} (hm : 0 < m) (hm2 : m ≤ 9223372036854775807) (w : World) (hb : m * i.bytes ≤ 281474976710656) :
    (Builtin.append_ #[t, t] ty #[.slice (some a) 0 0, .slice (some b) m c]).run P w = (Builtin.append_ #[t, t] ty #[.slice none 0 0, .slice (some b) m c]).run P w := by
  have hnc : Builtin.nextslicecap m 0 = m := by unfold Builtin.nextslicecap; rw [if_pos (by omega)]
  have h0 : ¬ m = 0 := by omega
  have h1 : ¬ 281474976710656 < m * i.bytes := by omega
  have h2 : ¬ (9223372036854775807 : Int) < m := by omega
  simp [Builtin.append_, run_underlying ht, sizeOf, typeInfo, hi, Builtin.lenOf, Builtin.firstCells, loadCells, loadCellsFrom, hnc, h0, h1, h2]
end
end Go.Proofs.YtnajccljdjllgaaDoor
