/- Rows that a call owns, of elements that read as a list; append of whatever reads as a list. -/
import Derived.Test.YtnajccljdjllgaaDoorRow
import Derived.Maps.AppendAt
import Derived.RegionTactic
set_option linter.unusedVariables false
set_option linter.unusedSimpArgs false
namespace Go.Proofs.YtnajccljdjllgaaDoor
open Go.RowKit Go.Lib
section
variable {α : Type} {R : World → α → List Value → Prop} {k : Nat} {w : World} {v : Value} {l : List α}
theorem off_lt {n k i r : Nat} (hi : i < n) (hr : r < k) : i * k + r < n * k := by
  have : (i + 1) * k ≤ n * k := Nat.mul_le_mul_right k hi
  rw [Nat.add_mul, Nat.one_mul] at this; omega
/-- The cells of what reads, in one list. -/
theorem Reads.news (h : Reads R k w v l) (hk : 0 < k) : ∃ (a : Option Addr) (c : Nat) (news : List Value), v = .slice a l.length c ∧ l.length ≤ c ∧ news.length = l.length * k ∧ (∀ (i : Nat) x, l[i]? = some x → R w x ((news.drop (i * k)).take k)) ∧
    (∀ i, i < l.length → ((news.drop (i * k)).take k).length = k) ∧
    (0 < l.length → ∃ b off, a = some ⟨b, off, none⟩ ∧ b < w.heap.size ∧ ∀ (j : Nat) u, news[j]? = some u → w.cell? ⟨b, off + j, none⟩ = some u) := by
  obtain ⟨a, c, rfl, hc, hr⟩ := h
  by_cases hn : 0 < l.length
  · obtain ⟨b, off, rfl, hb, hcs⟩ := hr hn
    have key : ∀ i, i < l.length → ∀ cs : List Value, cs.length = k → (∀ (j : Nat) u, cs[j]? = some u → w.cell? ⟨b, off + i * k + j, none⟩ = some u) →
        ((((List.range (l.length * k)).map (fun j => (w.cell? ⟨b, off + j, none⟩).getD undef)).drop (i * k)).take k) = cs := by
      intro i hi cs hl hc
      apply List.ext_getElem?
      intro r
      by_cases hr : r < k
      · have hlt := off_lt (r := r) hi hr
        rw [List.getElem?_take_of_lt hr, List.getElem?_drop, List.getElem?_map, List.getElem?_range hlt]
        have h9 := hc r cs[r] (List.getElem?_eq_getElem (by omega))
        rw [List.getElem?_eq_getElem (by omega : r < cs.length)]
        rw [Nat.add_assoc] at h9
        simp [h9]
      · rw [List.getElem?_eq_none (by rw [List.length_take]; omega), List.getElem?_eq_none (by omega)]
    refine ⟨some ⟨b, off, none⟩, c, (List.range (l.length * k)).map (fun j => (w.cell? ⟨b, off + j, none⟩).getD undef), rfl, hc, by simp, fun i x hx => ?_, fun i hi => ?_, fun _ => ⟨b, off, rfl, hb, fun j u hu => ?_⟩⟩
    · obtain ⟨hi, _⟩ := List.getElem?_eq_some_iff.1 hx
      obtain ⟨cs, h1, h2, h3⟩ := hcs i hi
      rw [key i hi cs h1 h3]; exact h2 x hx
    · obtain ⟨cs, h1, h2, h3⟩ := hcs i hi
      rw [key i hi cs h1 h3]; exact h1
    · obtain ⟨hj, e⟩ := List.getElem?_eq_some_iff.1 hu
      simp only [List.length_map, List.length_range] at hj
      simp only [List.getElem_map, List.getElem_range] at e
      have hd : j = j / k * k + j % k := by rw [Nat.mul_comm]; exact (Nat.div_add_mod j k).symm
      have hi : j / k < l.length := Nat.div_lt_of_lt_mul (by rw [Nat.mul_comm]; exact hj)
      obtain ⟨cs, h1, h2, h3⟩ := hcs (j / k) hi
      have hm : j % k < cs.length := by rw [h1]; exact Nat.mod_lt _ hk
      have h9 := h3 (j % k) cs[j % k] (List.getElem?_eq_getElem hm)
      rw [Nat.add_assoc, ← hd] at h9
      rw [h9] at e ⊢
      simpa using e
  · have h0 : l.length = 0 := by omega
    refine ⟨a, c, [], rfl, hc, by simp [h0], fun i x hx => ?_, fun i hi => absurd hi (by omega), fun h => absurd h hn⟩
    have := (List.getElem?_eq_some_iff.1 hx).1
    omega
end
section
variable {P : Program}
/-- append onto a row of the call's own, of whatever reads as a list. -/
theorem run_app {α : Type} {R : World → α → List Value → Prop} {k : Nat} {w : World} {l : List α} {W0 : World} {e t ty : TypeId} {i : TypeInfo} {z : Value} {bytes : Nat}
    (ht : P.underlying t = some (.slice e)) (hi : P.info? e = some i) (hz : i.zero = some z) (hsize : i.size = k) (hby : i.bytes = bytes) (hzs : z.cells.size = k) (hk : 0 < k)
    {v x : Value} {n : Nat} {xs : List Value} (h : Own e k W0 v n xs w) (hx : Reads R k w x l) (h1 : ∀ a cs, R w a cs → ∀ u ∈ cs, u.oneCell' = true) (hn : n + l.length ≤ 1000000000000) (hbytes : bytes ≤ 100) :
    ∃ (v' : Value) (w' : World) (news : List Value), (Builtin.append_ #[t, t] ty #[v, x]).run P w = .ok v' w' ∧ Own e k W0 v' (n + l.length) (xs ++ news) w' ∧ w.grownBy w' v.ownBlock ∧ (v'.ownBlock = v.ownBlock ∨ v'.ownBlock = some w.heap.size) ∧
      news.length = l.length * k ∧ ∀ (i : Nat) a, l[i]? = some a → R w a ((news.drop (i * k)).take k) := by
  obtain ⟨ad, c, news, rfl, hc, hl, hR, hlk, hcell⟩ := hx.news hk
  by_cases h0 : 0 < l.length
  · obtain ⟨b, off, rfl, hb, hcs⟩ := hcell h0
    have hone : ∀ u ∈ news, u.oneCell' = true := by
      intro u hu
      obtain ⟨j, hj, e⟩ := List.getElem_of_mem hu
      have hi : j / k < l.length := Nat.div_lt_of_lt_mul (by rw [Nat.mul_comm, ← hl]; exact hj)
      obtain ⟨y, hy, -⟩ := lt_get hi
      refine h1 y _ (hR _ y hy) u ?_
      have hd : j = j / k * k + j % k := by rw [Nat.mul_comm]; exact (Nat.div_add_mod j k).symm
      have hm : j % k < k := Nat.mod_lt _ hk
      refine List.mem_of_getElem? (i := j % k) ?_
      rw [List.getElem?_take_of_lt hm, List.getElem?_drop, ← hd, ← e]; exact List.getElem?_eq_getElem hj
    have hadd : ∀ j, (⟨b, off, none⟩ : Addr).add j = ⟨b, off + j, none⟩ := fun j => by simp [Addr.add]
    have hb2 : (n + l.length) * bytes ≤ 140737488355328 := Nat.le_trans (Nat.mul_le_mul hn hbytes) (by decide)
    obtain ⟨v', w', hrun, h2, h3, _, h5⟩ := run_append_own_at (P := P) w W0.heap.size t ty e i z k bytes ht hi hz hsize hby hzs hk v n xs h.row ⟨b, off, none⟩ l.length c news hl
      (fun j u hu => by rw [hadd]; exact hcs j u hu) hone (by unfold maxLen; omega) hb2 h.grow.size
    exact ⟨v', w', news, hrun, h.grown h2 h3, h3, h5, hl, hR⟩
  · have hl0 : l.length = 0 := by omega
    have hnil : l = [] := List.eq_nil_of_length_eq_zero hl0
    subst hnil
    have hn0 : news = [] := List.eq_nil_of_length_eq_zero (by rw [hl]; simp)
    subst hn0
    cases ad with
    | none =>
      refine ⟨v, w, [], ?_, by simpa using h, World.grownBy.refl w _, .inl rfl, by simp, hR⟩
      rcases h.row.2 with ⟨rfl, rfl⟩ | ⟨g, cap, cur, rfl, _, _, hnc, _⟩
      · simp [Builtin.append_, run_underlying ht, sizeOf, typeInfo, hi, Builtin.lenOf, Builtin.firstCells]
      · simp [Builtin.append_, run_underlying ht, sizeOf, typeInfo, hi, Builtin.lenOf, Builtin.firstCells, hnc, storeCells]
    | some ad =>
      have hb2 : (n + 0) * bytes ≤ 140737488355328 := Nat.le_trans (Nat.mul_le_mul hn hbytes) (by decide)
      obtain ⟨v', w', hrun, h2, h3, _, h5⟩ := run_append_own_at (P := P) w W0.heap.size t ty e i z k bytes ht hi hz hsize hby hzs hk v n xs h.row ad 0 c [] (by simp)
        (fun j u hu => by simp at hu) (fun u hu => by cases hu) (by unfold maxLen; simp at hn; omega) hb2 h.grow.size
      exact ⟨v', w', [], hrun, h.grown h2 h3, h3, h5, by simp, hR⟩
/-- What is known behind it. -/
def AppOut {α : Type} (R : World → α → List Value → Prop) (e : TypeId) (k : Nat) (W0 w : World) (v : Value) (n : Nat) (xs : List Value) (l : List α) (v' : Value) (w' : World) : Prop :=
  ∃ news : List Value, Own e k W0 v' (n + l.length) (xs ++ news) w' ∧ w.grownBy w' v.ownBlock ∧ (v'.ownBlock = v.ownBlock ∨ v'.ownBlock = some w.heap.size) ∧ news.length = l.length * k ∧ ∀ (i : Nat) a, l[i]? = some a → R w a ((news.drop (i * k)).take k)
theorem wp_app {α : Type} {R : World → α → List Value → Prop} {k : Nat} {w : World} {l : List α} {W0 : World} {o : Oper} {a : Act} {K : Act → World → Prop} {Q : Exit → Act → World → Prop} (sl x : Operand) (t : TypeId)
    (ho : o.op = .call { callee := .builtin .append, args := #[sl, x], argTypes := #[t, t] })
    (e : TypeId) (i : TypeInfo) (z : Value) (bytes : Nat) (ht : P.underlying t = some (.slice e)) (hi : P.info? e = some i) (hz : i.zero = some z) (hsize : i.size = k) (hby : i.bytes = bytes) (hzs : z.cells.size = k) (hk : 0 < k)
    (v u : Value) (n : Nat) (xs : List Value) (hs : a.eval sl = v) (h : Own e k W0 v n xs w) (hx : a.eval x = u) (hr : Reads R k w u l) (h1 : ∀ a cs, R w a cs → ∀ u ∈ cs, u.oneCell' = true) (hn : n + l.length ≤ 1000000000000) (hbytes : bytes ≤ 100)
    (hk' : ∀ v' w', AppOut R e k W0 w v n xs l v' w' → K (a.put o.dst v') w') : o.wp P a w K Q := by
  obtain ⟨v', w', news, hrun, h2, h3, h4, h5, h6⟩ := run_app (P := P) (ty := o.type) ht hi hz hsize hby hzs hk h hr h1 hn hbytes
  unfold Oper.wp execOp
  simp only [ho, resolve, invoke, builtin, Sem.run_bind, Sem.run_pure, Result.andThen_ok, List.map_toArray, List.map_cons, List.map_nil, hs, hx, hrun]
  exact hk' v' w' ⟨news, h2, h3, h4, h5, h6⟩
theorem app_reads {α : Type} {R : World → α → List Value → Prop} {k : Nat} {w : World} {l : List α} {W0 : World} {ops : Array Oper} {rest : List Oper} {o : Oper} {a : Act} {Q : Exit → Act → World → Prop} (hgd : o.guard = none) (sl x : Operand) (t : TypeId)
    (ho : o.op = .call { callee := .builtin .append, args := #[sl, x], argTypes := #[t, t] })
    (e : TypeId) (i : TypeInfo) (z : Value) (bytes : Nat) (ht : P.underlying t = some (.slice e)) (hi : P.info? e = some i) (hz : i.zero = some z) (hsize : i.size = k) (hby : i.bytes = bytes) (hzs : z.cells.size = k) (hk : 0 < k)
    (v u : Value) (n : Nat) (xs : List Value) (hs : a.eval sl = v) (h : Own e k W0 v n xs w) (hx : a.eval x = u) (hr : Reads R k w u l) (h1 : ∀ a cs, R w a cs → ∀ u ∈ cs, u.oneCell' = true) (hn : n + l.length ≤ 1000000000000) (hbytes : bytes ≤ 100)
    (hk' : ∀ v' w', AppOut R e k W0 w v n xs l v' w' → wpList P ops Q rest (a.put o.dst v') w') : wpList P ops Q (o :: rest) a w :=
  wpList_plain hgd fun _ hK => wp_app sl x t ho e i z bytes ht hi hz hsize hby hzs hk v u n xs hs h hx hr h1 hn hbytes fun v' w' h2 => hK _ _ (hk' v' w' h2)
theorem step_app {α : Type} {R : World → α → List Value → Prop} {k : Nat} {w : World} {l : List α} {W0 : World} {ops : Array Oper} {o : Oper} {a : Act} {K : Act → World → Prop} {Q : Exit → Act → World → Prop} {E : Prop} (hgd : o.guard = none) (sl x : Operand) (t : TypeId)
    (ho : o.op = .call { callee := .builtin .append, args := #[sl, x], argTypes := #[t, t] })
    (e : TypeId) (i : TypeInfo) (z : Value) (bytes : Nat) (ht : P.underlying t = some (.slice e)) (hi : P.info? e = some i) (hz : i.zero = some z) (hsize : i.size = k) (hby : i.bytes = bytes) (hzs : z.cells.size = k) (hk : 0 < k)
    (v u : Value) (n : Nat) (xs : List Value) (hs : a.eval sl = v) (h : Own e k W0 v n xs w) (hx : a.eval x = u) (hr : Reads R k w u l) (h1 : ∀ a cs, R w a cs → ∀ u ∈ cs, u.oneCell' = true) (hn : n + l.length ≤ 1000000000000) (hbytes : bytes ≤ 100)
    (hk' : ∀ v' w', AppOut R e k W0 w v n xs l v' w' → K (a.put o.dst v') w') : if Region.wanted o (yielded ops a.tmps) = true then Oper.wp P o a w K Q else E := by
  have hw : Region.wanted o (yielded ops a.tmps) = true := by simp [Region.wanted, hgd]
  rw [if_pos hw]
  exact wp_app sl x t ho e i z bytes ht hi hz hsize hby hzs hk v u n xs hs h hx hr h1 hn hbytes hk'
end
/-- A row of the call's own whose elements were there when the row began. -/
def OwnL {α : Type} (R : World → α → List Value → Prop) (e : TypeId) (k : Nat) (W0 : World) (v : Value) (l : List α) (w : World) : Prop :=
  ∃ xs : List Value, Own e k W0 v l.length xs w ∧ ∀ (i : Nat) x, l[i]? = some x → R W0 x ((xs.drop (i * k)).take k)
section
variable {α : Type} {R : World → α → List Value → Prop} {e : TypeId} {k : Nat} {W0 w w' : World} {v v' : Value} {l m : List α}
theorem OwnL.start (g : Grow W0 w) : OwnL R e k W0 (.slice none 0 0) [] w := ⟨[], Own.start g, fun i x hx => by simp at hx⟩
theorem OwnL.grow (h : OwnL R e k W0 v l w) : Grow W0 w := by obtain ⟨xs, h, _⟩ := h; exact h.grow
theorem OwnL.more (h : OwnL R e k W0 v l w) (g : Grow w w') : OwnL R e k W0 v l w' := by obtain ⟨xs, h, h2⟩ := h; exact ⟨xs, h.grow' g, h2⟩
theorem OwnL.reads (hR : ∀ x cs, R W0 x cs → R w x cs) (h : OwnL R e k W0 v l w) : Reads R k w v l := by
  obtain ⟨xs, h, h2⟩ := h
  exact h.reads fun i x hx => hR _ _ (h2 i x hx)
theorem OwnL.reads' (h : OwnL R e k W0 v l w) (hR : ∀ (W W' : World) x cs, R W x cs → R W' x cs) : Reads R k w v l := h.reads (fun x cs => hR W0 w x cs)
theorem take_two {xs ys : List Value} {n k i : Nat} (hl : xs.length = n * k) (hi : i < n) : (((xs ++ ys).drop (i * k)).take k) = ((xs.drop (i * k)).take k) := by
  have : (i + 1) * k ≤ n * k := Nat.mul_le_mul_right k hi
  rw [Nat.add_mul, Nat.one_mul] at this
  rw [List.drop_append_of_le_length (by omega), List.take_append_of_le_length (by rw [List.length_drop]; omega)]
theorem drop_two {xs ys : List Value} {n k i : Nat} (hl : xs.length = n * k) (hi : n ≤ i) : (((xs ++ ys).drop (i * k)).take k) = ((ys.drop ((i - n) * k)).take k) := by
  have : n * k ≤ i * k := Nat.mul_le_mul_right k hi
  rw [List.drop_append, List.drop_of_length_le (by omega), List.nil_append, hl, ← Nat.sub_mul]
theorem OwnL.app (h : OwnL R e k W0 v l w) {xs : List Value} (hxs : Own e k W0 v l.length xs w ∧ ∀ (i : Nat) x, l[i]? = some x → R W0 x ((xs.drop (i * k)).take k)) (ho : AppOut R e k W0 w v l.length xs m v' w') (hR : ∀ x cs, x ∈ m → R w x cs → R W0 x cs) : OwnL R e k W0 v' (l ++ m) w' := by
  obtain ⟨news, h1, h2, h3, h4, h5⟩ := ho
  refine ⟨xs ++ news, by rw [List.length_append]; exact h1, fun i x hx => ?_⟩
  have hl : xs.length = l.length * k := hxs.1.row.1
  rcases Nat.lt_or_ge i l.length with hi | hi
  · rw [List.getElem?_append_left hi] at hx
    rw [take_two hl hi]; exact hxs.2 i x hx
  · rw [List.getElem?_append_right hi] at hx
    rw [drop_two hl hi]; exact hR x _ (List.mem_of_getElem? hx) (h5 _ x hx)
theorem AppOut.kept {xs : List Value} {n : Nat} (hb : Own e k W0 v n xs w) (ho : AppOut R e k W0 w v n xs m v' w') : Kept e w w' := by
  obtain ⟨news, h1, h2, h3, h4, h5⟩ := ho
  exact hb.keeps h2
theorem OwnL.one {xs cs : List Value} {x : α} (hxs : Own e k W0 v l.length xs w ∧ ∀ (i : Nat) y, l[i]? = some y → R W0 y ((xs.drop (i * k)).take k)) (ho : Own e k W0 v' (l.length + 1) (xs ++ cs) w') (hc : cs.length = k) (hx : R W0 x cs) : OwnL R e k W0 v' (l ++ [x]) w' := by
  refine ⟨xs ++ cs, by rw [List.length_append]; exact ho, fun i y hy => ?_⟩
  have hl : xs.length = l.length * k := hxs.1.row.1
  rcases Nat.lt_or_ge i l.length with hi | hi
  · rw [List.getElem?_append_left hi] at hy
    rw [take_two hl hi]; exact hxs.2 i y hy
  · rw [List.getElem?_append_right hi] at hy
    obtain ⟨h1, h2⟩ := List.getElem?_eq_some_iff.1 hy
    simp at h1
    obtain rfl : i = l.length := by omega
    simp at h2
    subst h2
    rw [drop_two hl (Nat.le_refl _), Nat.sub_self, Nat.zero_mul, List.drop_zero, List.take_of_length_le (by omega)]
    exact hx
theorem OwnL.rebase {W1 : World} (g : Grow W1 W0) (h : OwnL R e k W0 v l w) (hR : ∀ x cs, R W0 x cs → R W1 x cs) : OwnL R e k W1 v l w := by
  obtain ⟨xs, h1, h2⟩ := h
  refine ⟨xs, ⟨⟨h1.row.1, ?_⟩, g.trans h1.grow⟩, fun i x hx => hR x _ (h2 i x hx)⟩
  rcases h1.row.2 with h | ⟨b, cap, cur, h3, h4, h5⟩
  · exact .inl h
  · exact .inr ⟨b, cap, cur, h3, Nat.le_trans g.size h4, h5⟩
theorem flat_get {α : Type} (enc : α → List Value) {k : Nat} (hk : ∀ x, (enc x).length = k) : ∀ (l : List α) (i j : Nat) (x : α), l[i]? = some x → j < k → (l.flatMap enc)[i * k + j]? = (enc x)[j]?
  | [], i, j, x, h, _ => by simp at h
  | y :: l, 0, j, x, h, hj => by
    have e : y = x := by simpa using h
    subst e
    rw [List.flatMap_cons, Nat.zero_mul, Nat.zero_add, List.getElem?_append_left (by rw [hk]; exact hj)]
  | y :: l, i + 1, j, x, h, hj => by
    have ih := flat_get enc hk l i j x (by simpa using h) hj
    rw [List.flatMap_cons, List.getElem?_append_right (by rw [hk, Nat.add_mul, Nat.one_mul]; omega), hk, show (i + 1) * k + j - k = i * k + j by rw [Nat.add_mul, Nat.one_mul]; omega]
    exact ih
/-- A literal reads. -/
theorem lit_reads {α : Type} {R : World → α → List Value → Prop} {k : Nat} (enc : α → List Value) (hk : ∀ x, (enc x).length = k) (w : World) (l : List α) (e : TypeId) (hR : ∀ x, R (w.alloc (.cells (l.flatMap enc).toArray e)) x (enc x)) : Reads R k (w.alloc (.cells (l.flatMap enc).toArray e)) (.slice (some ⟨w.heap.size, 0, none⟩) l.length l.length) l :=
  ⟨_, _, rfl, Nat.le_refl _, fun _ => ⟨w.heap.size, 0, rfl, by simp, fun i hi => by
    refine ⟨enc l[i], hk _, fun x hx => ?_, fun j v hj => ?_⟩
    · obtain rfl : l[i] = x := by rw [List.getElem?_eq_getElem hi] at hx; exact Option.some.inj hx
      exact hR _
    · have hjk : j < k := by have := (List.getElem?_eq_some_iff.1 hj).1; rw [hk] at this; exact this
      rw [cell_of_row _ w.heap.size _ _ _ _ (heap_alloc_new w _), Nat.zero_add]
      have := flat_get enc hk l i j l[i] (List.getElem?_eq_getElem hi) hjk
      rw [hj] at this
      simpa using this⟩⟩
/-- A clone: onto nil. -/
theorem AppOut.clone (ho : AppOut R e k w w (.slice none 0 0) 0 [] l v' w') : OwnL R e k w v' l w' ∧ Grow w w' := by
  obtain ⟨news, h1, h2, h3, h4, h5⟩ := ho
  refine ⟨⟨news, by simpa using h1, fun i x hx => ?_⟩, h1.grow⟩
  exact h5 i x hx
end
end Go.Proofs.YtnajccljdjllgaaDoor
