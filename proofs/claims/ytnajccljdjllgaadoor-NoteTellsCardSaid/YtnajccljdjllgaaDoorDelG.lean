/- slices.DeleteFunc at rows of the call's own: what is common to all element types. -/
import Derived.Test.YtnajccljdjllgaaDoorClone
import Derived.Test.YtnajccljdjllgaaDoorIdxN
import Derived.Lib.SliceRun
set_option linter.unusedVariables false
set_option linter.unusedSimpArgs false
namespace Go.Proofs.YtnajccljdjllgaaDoor
open Go.RowKit Go.Lib
theorem setCells_blk (b : Nat) : ∀ (vs : List Value) (o : Nat) (w : World) (cs : Array Value) (t : TypeId), w.heap[b]? = some (.cells cs t (0, 0)) →
    ∃ cs' : Array Value, (w.setCells b o vs).heap[b]? = some (.cells cs' t (0, 0)) ∧ cs'.size = cs.size ∧ (∀ j, j < o → cs'[j]? = cs[j]?) ∧ Turned b w (w.setCells b o vs)
  | [], o, w, cs, t, h => ⟨cs, h, rfl, fun _ _ => rfl, Turned.refl _ _⟩
  | v :: r, o, w, cs, t, h => by
    obtain ⟨cs', h1, h2, h3, h4⟩ := setCells_blk b r (o + 1) _ _ t (heap_setCell_same w b o cs t v h)
    have ht : Turned b w (w.setCell ⟨b, o, none⟩ v) := ⟨rfl, rfl, rfl, by simp, fun i _ hb => heap_setCell_other w ⟨b, o, none⟩ i v hb⟩
    refine ⟨cs', h1, by rw [h2]; simp, fun j hj => ?_, ht.trans h4⟩
    rw [h3 j (by omega), Array.getElem?_setIfInBounds_ne (by omega)]
section
variable {P : Program}
theorem run_clear {t e : TypeId} {z : Value} {k : Nat} (ht : P.underlying t = some (.slice e)) (hv : ∀ w, (zeroValue e).run P w = .ok z w) (hzs : z.cells.size = k) (hk : 0 < k) (h1 : ∀ u ∈ z.cells, u.oneCell' = true)
    (w : World) {b o n : Nat} (c : Nat) (hn : 0 < n) {cs : Array Value} {e' : TypeId} (hb : w.heap[b]? = some (.cells cs e' (0, 0))) (hs : o + n * k ≤ cs.size) :
    ∃ w' cs', (∀ ty, (Builtin.clear_ #[t] ty #[.slice (some ⟨b, o, none⟩) n c]).run P w = .ok (.tuple #[]) w') ∧ w'.heap[b]? = some (.cells cs' e' (0, 0)) ∧ cs'.size = cs.size ∧ (∀ j, j < o → cs'[j]? = cs[j]?) ∧ Turned b w w' := by
  have hl : (Builtin.zeroCells z.cells n).toList.length = n * k := by simp [Builtin.zeroCells, hzs]
  have hone : ∀ v ∈ (Builtin.zeroCells z.cells n).toList, v.oneCell' = true := fun v hm => by
    unfold Builtin.zeroCells at hm
    rw [Array.toList_map, List.mem_map] at hm
    obtain ⟨i, -, rfl⟩ := hm
    have hlt : i % z.cells.size < z.cells.size := Nat.mod_lt _ (by omega)
    have e : z.cells[i % z.cells.size]! = z.cells[i % z.cells.size]'hlt := by simp [hlt]
    rw [e]
    exact h1 _ (Array.getElem_mem hlt)
  have hst := run_storeCells_cells (P := P) b o (Builtin.zeroCells z.cells n).toList 0 w (fun j hj => by
    rw [cell_of_row w b _ _ _ _ hb, Array.getElem?_eq_getElem (by omega)]; rfl) (fun j hj => frozen_of_row w b _ _ _ hb) hone
  obtain ⟨cs', c1, c2, c3, c4⟩ := setCells_blk b (Builtin.zeroCells z.cells n).toList o w cs e' hb
  simp only [Nat.add_zero] at hst
  refine ⟨_, cs', fun ty => ?_, c1, c2, c3, c4⟩
  obtain ⟨m, rfl⟩ : ∃ m, n = m + 1 := ⟨n - 1, by omega⟩
  simp [Builtin.clear_, run_underlying ht, hv, hst]
end
/-- A row cut short, what lies behind it turned. -/
theorem RowO.cut {base b n c k i : Nat} {e : TypeId} {xs : List Value} {w w' : World} (h : RowO base e k (.slice (some ⟨b, 0, none⟩) n (c + 1)) n xs w) {cs cs' : Array Value} (hb : w.heap[b]? = some (.cells cs e (0, 0))) (hb' : w'.heap[b]? = some (.cells cs' e (0, 0))) (hs : cs'.size = cs.size) (hi : i ≤ n) (hj : ∀ j, j < i * k → cs'[j]? = cs[j]?) :
    RowO base e k (.slice (some ⟨b, 0, none⟩) i (c + 1)) i (xs.take (i * k)) w' := by
  have hlen := h.len
  rcases h with ⟨h1, ⟨h2, -⟩ | ⟨g, cap, cur, e2, h3, h4, h5, h6, h7, h8⟩⟩ | ⟨-, -, a, e2⟩
  · cases h2
  · injection e2 with e2 e3 e4
    injection e2 with e2
    injection e2 with e2
    subst e2 e4
    rw [hb] at h4
    injection h4 with h4
    injection h4 with h4
    subst h4
    have hm : i * k ≤ n * k := Nat.mul_le_mul_right k hi
    refine .inl ⟨by rw [List.length_take]; omega, .inr ⟨b, c + 1, cs', rfl, h3, hb', by omega, h6, by omega, ?_⟩⟩
    rw [← h8, List.take_take, Nat.min_eq_left hm]
    apply List.ext_getElem?
    intro j
    rw [List.getElem?_take, List.getElem?_take]
    split
    · rename_i hlt
      rw [Array.getElem?_toList, Array.getElem?_toList, hj j hlt]
    · rfl
  · injection e2 with _ _ e2
    omega
theorem flat_take {α : Type} (enc : α → List Value) {k : Nat} (hk : ∀ x, (enc x).length = k) : ∀ (l : List α) (i : Nat), (l.flatMap enc).take (i * k) = (l.take i).flatMap enc
  | [], i => by simp
  | x :: l, 0 => by simp
  | x :: l, i + 1 => by
    rw [List.take_succ_cons, List.flatMap_cons, List.flatMap_cons, ← flat_take enc hk l i, List.take_append, hk, List.take_of_length_le (by rw [hk, Nat.add_mul]; omega), show (i + 1) * k - k = i * k by rw [Nat.add_mul]; omega]
theorem idx_before {α : Type} {p : α → Bool} : ∀ {l : List α} {i : Nat}, idx p l = i → (l.take i).filter (fun x => !p x) = l.take i
  | [], i, h => by simp
  | x :: l, i, h => by
    unfold idx at h
    split at h
    · have : i = 0 := by omega
      subst this; simp
    · rename_i hp
      split at h
      · omega
      · cases i with
        | zero => simp
        | succ i =>
          rw [List.take_succ_cons, List.filter_cons_of_pos (by simpa using hp), idx_before (l := l) (p := p) (by omega)]
theorem filter_all {α : Type} {p : α → Bool} {l : List α} (h : idx p l < 0) : l.filter (fun x => !p x) = l := by
  rw [List.filter_eq_self]
  intro x hx
  rw [idx_neg.1 h x hx]; rfl
theorem filter_next {α : Type} {q : α → Bool} {l : List α} {j : Nat} {x : α} (hx : l[j]? = some x) : (l.take (j + 1)).filter q = (l.take j).filter q ++ (if q x then [x] else []) := by
  rw [List.take_add_one, hx, List.filter_append]
  congr 1
  cases h : q x <;> simp [h]
/-- What is kept and what is not yet looked at. -/
structure Mid {α : Type} (q : α → Bool) (l l' : List α) (i j : Nat) : Prop where
  len : l'.length = l.length
  le : i ≤ j
  jl : j ≤ l.length
  kept : l'.take i = (l.take j).filter q
  rest : l'.drop j = l.drop j
theorem Mid.get {α : Type} {q : α → Bool} {l l' : List α} {i j : Nat} (h : Mid q l l' i j) {x : α} (hx : l[j]? = some x) : l'[j]? = some x := by
  have h1 := congrArg (fun m => m[0]?) h.rest
  simp only [List.getElem?_drop, Nat.add_zero] at h1
  rw [h1, hx]
theorem Mid.skip {α : Type} {q : α → Bool} {l l' : List α} {i j : Nat} (h : Mid q l l' i j) {x : α} (hx : l[j]? = some x) (hq : q x = false) : Mid q l l' i (j + 1) := by
  have hj := (List.getElem?_eq_some_iff.1 hx).1
  have hr := congrArg (List.drop 1) h.rest
  rw [List.drop_drop, List.drop_drop] at hr
  refine ⟨h.len, by have := h.le; omega, hj, ?_, hr⟩
  rw [filter_next hx, hq, if_neg (by simp), List.append_nil]; exact h.kept
theorem Mid.keep {α : Type} {q : α → Bool} {l l' : List α} {i j : Nat} (h : Mid q l l' i j) {x : α} (hx : l[j]? = some x) (hq : q x = true) : Mid q l (l'.set i x) (i + 1) (j + 1) := by
  have hj := (List.getElem?_eq_some_iff.1 hx).1
  have hle := h.le
  have hlen := h.len
  have hr := congrArg (List.drop 1) h.rest
  rw [List.drop_drop, List.drop_drop] at hr
  refine ⟨by rw [List.length_set]; exact hlen, by omega, hj, ?_, ?_⟩
  · rw [filter_next hx, if_pos hq, ← h.kept, List.take_add_one, List.getElem?_set_self (by omega), List.take_set_of_le (Nat.le_refl _)]; rfl
  · rw [List.drop_set_of_lt (by omega)]; exact hr
theorem Mid.done {α : Type} {q : α → Bool} {l l' : List α} {i : Nat} (h : Mid q l l' i l.length) : l'.take i = l.filter q := by
  rw [h.kept, List.take_length]
theorem Mid.start {α : Type} {p : α → Bool} {l : List α} {i : Nat} (h : idx p l = i) : Mid (fun x => !p x) l l i (i + 1) := by
  obtain ⟨x, hx, hp⟩ := idx_get h (by omega)
  rw [Int.toNat_natCast] at hx
  have hi := (List.getElem?_eq_some_iff.1 hx).1
  refine ⟨rfl, by omega, hi, ?_, rfl⟩
  rw [filter_next hx, hp]
  simp [idx_before h]
theorem setCells_get (b : Nat) : ∀ (vs : List Value) (o : Nat) (w : World) (cs : Array Value) (t : TypeId), w.heap[b]? = some (.cells cs t (0, 0)) → o + vs.length ≤ cs.size →
    ∃ cs' : Array Value, (w.setCells b o vs).heap[b]? = some (.cells cs' t (0, 0)) ∧ cs'.size = cs.size ∧ (∀ j, j < o ∨ o + vs.length ≤ j → cs'[j]? = cs[j]?) ∧ (∀ j, j < vs.length → cs'[o + j]? = vs[j]?) ∧ Turned b w (w.setCells b o vs)
  | [], o, w, cs, t, h, _ => ⟨cs, h, rfl, fun _ _ => rfl, fun j hj => absurd hj (Nat.not_lt_zero _), Turned.refl _ _⟩
  | v :: r, o, w, cs, t, h, hs => by
    rw [List.length_cons] at hs
    obtain ⟨cs', h1, h2, h3, h4, h5⟩ := setCells_get b r (o + 1) _ _ t (heap_setCell_same w b o cs t v h) (by simp; omega)
    have ht : Turned b w (w.setCell ⟨b, o, none⟩ v) := ⟨rfl, rfl, rfl, by simp, fun i _ hb => heap_setCell_other w ⟨b, o, none⟩ i v hb⟩
    refine ⟨cs', h1, by rw [h2]; simp, fun j hj => ?_, fun j hj => ?_, ht.trans h5⟩
    · rw [List.length_cons] at hj
      rw [h3 j (by omega), Array.getElem?_setIfInBounds_ne (by omega)]
    · cases j with
      | zero => rw [Nat.add_zero, h3 o (by omega), Array.getElem?_setIfInBounds_self_of_lt (by omega)]; rfl
      | succ j =>
        rw [List.length_cons] at hj
        rw [show o + (j + 1) = o + 1 + j by omega, h4 j (by omega)]; rfl
/-- An element is stored, cell by cell. -/
theorem put_row {α : Type} (enc : α → List Value) {k : Nat} (hk : ∀ x, (enc x).length = k) (h0 : 0 < k) {base b n c : Nat} {e : TypeId} {l : List α} {w : World} (h : RowO base e k (.slice (some ⟨b, 0, none⟩) n (c + 1)) n (l.flatMap enc) w) (hn : l.length = n) {i : Nat} (hi : i < n) (x : α) :
    RowO base e k (.slice (some ⟨b, 0, none⟩) n (c + 1)) n ((l.set i x).flatMap enc) (w.setCells b (i * k) (enc x)) ∧ Turned b w (w.setCells b (i * k) (enc x)) := by
  rcases h with ⟨h1, ⟨h2, -⟩ | ⟨g, cap, cur, e2, h3, h4, h5, h6, h7, h8⟩⟩ | ⟨-, -, a, e2⟩
  · cases h2
  · injection e2 with e2 e3 e4
    injection e2 with e2
    injection e2 with e2
    subst e2 e4
    have hm : (i + 1) * k ≤ n * k := Nat.mul_le_mul_right k hi
    have hm2 : n * k ≤ (c + 1) * k := Nat.mul_le_mul_right k h5
    rw [Nat.add_mul, Nat.one_mul] at hm
    obtain ⟨cs', c1, c2, c3, c4, c5⟩ := setCells_get b (enc x) (i * k) w cur e h4 (by rw [hk]; omega)
    refine ⟨.inl ⟨by rw [flat_len enc hk, List.length_set, hn], .inr ⟨b, c + 1, cs', rfl, h3, c1, h5, h6, by omega, ?_⟩⟩, c5⟩
    apply List.ext_getElem?
    intro j
    rw [List.getElem?_take]
    split
    · rename_i hj
      rw [Array.getElem?_toList]
      have hd : j = j / k * k + j % k := by rw [Nat.mul_comm]; exact (Nat.div_add_mod j k).symm
      have hmod : j % k < k := Nat.mod_lt _ h0
      have hq : j / k < n := Nat.div_lt_of_lt_mul (by rw [Nat.mul_comm]; exact hj)
      obtain ⟨z, hz, -⟩ := lt_get (l := l.set i x) (i := j / k) (by rw [List.length_set]; omega)
      have g1 := flat_get enc hk _ (j / k) (j % k) z hz hmod
      rw [← hd] at g1
      rw [g1]
      by_cases e1 : j / k = i
      · rw [← e1, List.getElem?_set_self (by omega)] at hz
        obtain rfl := Option.some.inj hz
        have := c4 (j % k) (by rw [hk]; exact hmod)
        rw [← e1, ← hd] at this
        exact this
      · rw [List.getElem?_set_ne (Ne.symm e1)] at hz
        have g2 := flat_get enc hk _ (j / k) (j % k) z hz hmod
        rw [← hd, ← h8, List.getElem?_take_of_lt hj, Array.getElem?_toList] at g2
        rw [← g2]
        refine c3 j ?_
        rw [hk]
        apply Classical.byContradiction
        intro hcon
        have : j / k = i := Nat.div_eq_of_lt_le (by omega) (by rw [Nat.add_mul]; omega)
        exact e1 this
    · rename_i hj
      rw [List.getElem?_eq_none (by rw [flat_len enc hk, List.length_set, hn]; omega)]
  · injection e2 with _ _ e2
    omega
theorem row_cells {α : Type} (enc : α → List Value) {k : Nat} (hk : ∀ x, (enc x).length = k) {base b n c : Nat} {e : TypeId} {l : List α} {w : World} (h : RowO base e k (.slice (some ⟨b, 0, none⟩) n c) n (l.flatMap enc) w) {i : Nat} {y : α} (hy : l[i]? = some y) (f : Nat) (u : Value) (hu : (enc y)[f]? = some u) :
    w.cell? ⟨b, i * k + f, none⟩ = some u ∧ w.frozen? ⟨b, i * k + f, none⟩ = false ∧ b < w.heap.size := by
  have hf : f < k := by have := (List.getElem?_eq_some_iff.1 hu).1; rw [hk] at this; exact this
  have hc : (l.flatMap enc)[i * k + f]? = some u := by rw [flat_get enc hk l i f y hy hf]; exact hu
  obtain ⟨b1, c1, e1, h1, h2, h3, -⟩ := h.cell hc
  injection e1 with e1
  injection e1 with e1
  injection e1 with e1
  subst e1
  exact ⟨h1, h2, h3⟩
end Go.Proofs.YtnajccljdjllgaaDoor
