/- A shelf of the call's own: what is known of it, and its changes. -/
import Derived.Test.YtnajccljdjllgaaDoorOwnS
set_option linter.unusedVariables false
set_option linter.unusedSimpArgs false
namespace Go.Proofs.YtnajccljdjllgaaDoor
open Go.RowKit Go.Lib
section
variable {P : Program}
theorem RowO.noBlk {base : Nat} {e : TypeId} {k : Nat} {v : Value} {n : Nat} {xs : List Value} {w : World} (h : RowO base e k v n xs w) (hb : blkOf v = none) : n = 0 ∧ xs = [] ∧ ∃ a, v = .slice a 0 0 := by
  rcases h with ⟨h1, ⟨rfl, rfl⟩ | ⟨b, cap, cur, rfl, hb', hc, h2, h3, h4, h5⟩⟩ | ⟨rfl, rfl, a, rfl⟩
  · exact ⟨rfl, List.eq_nil_of_length_eq_zero (by rw [h1]; simp), _, rfl⟩
  · cases cap with
    | zero => obtain rfl : n = 0 := by omega
              exact ⟨rfl, List.eq_nil_of_length_eq_zero (by rw [h1]; simp), _, rfl⟩
    | succ c => cases hb
  · exact ⟨rfl, rfl, a, rfl⟩
theorem RowO.own {base : Nat} {e : TypeId} {k : Nat} {v : Value} {n : Nat} {xs : List Value} {w : World} (h : RowO base e k v n xs w) {g : Nat} (hb : blkOf v = some g) : w.ownsRow base e k v n xs ∧ v.ownBlock = some g := by
  rcases h with h | ⟨rfl, rfl, a, rfl⟩
  · refine ⟨h, ?_⟩
    rcases h.2 with ⟨rfl, _⟩ | ⟨b, cap, cur, rfl, _⟩
    · cases hb
    · cases cap with
      | zero => cases hb
      | succ c => exact hb
  · cases a <;> cases hb
/-- Some elements are appended. -/
theorem run_appO {base : Nat} {t ty e : TypeId} {i : TypeInfo} {z : Value} {k bytes : Nat} (ht : P.underlying t = some (.slice e)) (hi : P.info? e = some i) (hz : i.zero = some z) (hsize : i.size = k) (hby : i.bytes = bytes) (hzs : z.cells.size = k) (hk : 0 < k)
    {w : World} {v : Value} {n : Nat} {xs : List Value} (h : RowO base e k v n xs w) (hbase : base ≤ w.heap.size) (a : Addr) (m c : Nat) (hm : 0 < m) (news : List Value) (hl : news.length = m * k) (hnews : ∀ j u, news[j]? = some u → w.cell? (a.add j) = some u) (h1 : ∀ u ∈ news, u.oneCell' = true)
    (hn : n + m ≤ 1000000000000) (hbytes : bytes ≤ 100) :
    ∃ v' w', (Builtin.append_ #[t, t] ty #[v, .slice (some a) m c]).run P w = .ok v' w' ∧ RowO base e k v' (n + m) (xs ++ news) w' ∧ w.grownBy w' (blkOf v) ∧ (∃ g, blkOf v' = some g ∧ (blkOf v = some g ∨ w.heap.size ≤ g)) := by
  have hb2 : (n + m) * bytes ≤ 140737488355328 := Nat.le_trans (Nat.mul_le_mul hn hbytes) (by decide)
  have fin : ∀ (v' : Value) (w' : World), w'.ownsRow base e k v' (n + m) (xs ++ news) → v'.ownBlock = blkOf v ∨ v'.ownBlock = some w.heap.size → ∃ g, blkOf v' = some g ∧ (blkOf v = some g ∨ w.heap.size ≤ g) := fun v' w' ho hb => by
    rcases ho.2 with ⟨rfl, h0⟩ | ⟨b, cap, cur, rfl, _, _, hc, _⟩
    · omega
    · cases cap with
      | zero => omega
      | succ cap =>
        refine ⟨b, rfl, ?_⟩
        rcases hb with hb | hb
        · exact .inl hb.symm
        · simp only [Value.ownBlock, Option.some.injEq] at hb; omega
  cases hb : blkOf v with
  | some g =>
    obtain ⟨ho, hob⟩ := h.own hb
    obtain ⟨v', w', hrun, h2, h3, _, h5⟩ := run_append_own_at (P := P) w base t ty e i z k bytes ht hi hz hsize hby hzs hk v n xs ho a m c news hl hnews h1 (by unfold maxLen; omega) hb2 hbase
    rw [hob] at h3 h5
    obtain ⟨g', hg1, hg2⟩ := fin v' w' h2 (by rw [hb]; exact h5)
    exact ⟨v', w', hrun, .inl h2, h3, g', hg1, by rw [← hb]; exact hg2⟩
  | none =>
    obtain ⟨rfl, rfl, o, rfl⟩ := h.noBlk hb
    have hnil := World.ownsRow_nil w base e k
    obtain ⟨v', w', hrun, h2, h3, _, h5⟩ := run_append_own_at (P := P) w base t ty e i z k bytes ht hi hz hsize hby hzs hk (.slice none 0 0) 0 [] hnil a m c news hl hnews h1 (by unfold maxLen; omega) hb2 hbase
    obtain ⟨g', hg1, hg2⟩ := fin v' w' h2 (by rw [hb]; exact h5)
    refine ⟨v', w', ?_, .inl h2, h3, g', hg1, by rw [← hb]; exact hg2⟩
    cases o with
    | none => exact hrun
    | some o =>
      rw [append_zero ht hi hz o a hm (by omega) w (by rw [hby]; have := Nat.mul_le_mul (show m ≤ 1000000000000 by omega) hbytes; omega)]
      exact hrun
end
structure NV where
  n : Note
  tv : Value
  sv : Value
abbrev bookC (x : Book) : List Value := [.int .i64 x.id, .string x.name]
abbrev noteC (y : NV) : List Value := [.int .i64 y.n.id, .int .i64 y.n.book, .string y.n.name, y.tv, y.sv]
abbrev strC (l : List ByteArray) : List Value := l.map Value.string
abbrev intC (l : List Int) : List Value := l.map (Value.int .i64)
/-- A shelf's rows, all of them from block 'base' on. -/
structure OwnS (base : Nat) (bv nv : Value) (X : List Book) (Y : List NV) (w : World) : Prop where
  books : RowO base 37 2 bv X.length (X.flatMap bookC) w
  notes : RowO base 41 5 nv Y.length (Y.flatMap noteC) w
  tags : ∀ y ∈ Y, RowO base 9 1 y.tv y.n.tags.length (strC y.n.tags) w
  sheets : ∀ y ∈ Y, RowO base 3 1 y.sv y.n.sheets.length (intC y.n.sheets) w
  tsep : Y.Pairwise fun y z => ∀ b, blkOf y.tv = some b → blkOf z.tv ≠ some b
  ssep : Y.Pairwise fun y z => ∀ b, blkOf y.sv = some b → blkOf z.sv ≠ some b
/-- The blocks of such rows are as they were. -/
def KeptS (w w' : World) : Prop := ∀ (b : Nat) (cs : Array Value) (t : TypeId), t = 37 ∨ t = 41 ∨ t = 9 ∨ t = 3 → w.heap[b]? = some (.cells cs t (0, 0)) → w'.heap[b]? = some (.cells cs t (0, 0))
theorem KeptS.of_grow {w w' : World} (g : Grow w w') : KeptS w w' := fun b cs t _ h => g.blk h
theorem KeptS.trans {u v w : World} (h : KeptS u v) (g : KeptS v w) : KeptS u w := fun b cs t ht hb => g b cs t ht (h b cs t ht hb)
theorem KeptS.of_turned {w w' : World} {b : Nat} (t : Turned b w w') {cur : Array Value} {e : TypeId} {m : Nat × Nat} (hb : w.heap[b]? = some (.cells cur e m)) (he : e ≠ 37 ∧ e ≠ 41 ∧ e ≠ 9 ∧ e ≠ 3) : KeptS w w' := fun i cs t' ht hi => by
  refine (t.block i (Array.getElem?_eq_some_iff.1 hi).1 ?_).trans hi
  rintro rfl
  rw [hb] at hi
  injection hi with hi
  injection hi with h1 h2 h3
  rcases ht with rfl | rfl | rfl | rfl
  · exact he.1 h2
  · exact he.2.1 h2
  · exact he.2.2.1 h2
  · exact he.2.2.2 h2
theorem flat_len {α : Type} (enc : α → List Value) {k : Nat} (hk : ∀ x, (enc x).length = k) : ∀ l : List α, (l.flatMap enc).length = l.length * k
  | [] => by simp
  | x :: l => by rw [List.flatMap_cons, List.length_append, hk, flat_len enc hk l, List.length_cons, Nat.add_mul]; omega
theorem flat_part {α : Type} (enc : α → List Value) {k : Nat} (hk : ∀ x, (enc x).length = k) {l : List α} {i : Nat} {x : α} (hx : l[i]? = some x) : ((l.flatMap enc).drop (i * k)).take k = enc x := by
  apply List.ext_getElem?
  intro j
  rw [List.getElem?_take]
  by_cases hj : j < k
  · rw [if_pos hj, List.getElem?_drop, flat_get enc hk l i j x hx hj]
  · rw [if_neg hj, List.getElem?_eq_none (by rw [hk]; omega)]
theorem flat_set {α : Type} (enc : α → List Value) {k : Nat} (hk : ∀ x, (enc x).length = k) {l : List α} {i : Nat} {x y : α} {j : Nat} {u : Value} (hx : l[i]? = some x) (hj : j < k) (he : enc y = (enc x).set j u) : (l.flatMap enc).set (i * k + j) u = (l.set i y).flatMap enc := by
  have hi := (List.getElem?_eq_some_iff.1 hx).1
  have h0 : 0 < k := by omega
  apply List.ext_getElem?
  intro p
  rw [List.getElem?_set, flat_len enc hk]
  by_cases hp : p < l.length * k
  · have hd : p = p / k * k + p % k := by rw [Nat.mul_comm]; exact (Nat.div_add_mod p k).symm
    have hm : p % k < k := Nat.mod_lt _ h0
    have hq : p / k < l.length := Nat.div_lt_of_lt_mul (by rw [Nat.mul_comm]; exact hp)
    obtain ⟨z, hz, -⟩ := lt_get hq
    by_cases e1 : p / k = i
    · have hz2 : (l.set i y)[p / k]? = some y := by rw [e1]; exact List.getElem?_set_self hi
      have e3 : z = x := by rw [e1, hx] at hz; exact (Option.some.inj hz).symm
      subst e3
      have g1 := flat_get enc hk _ (p / k) (p % k) y hz2 hm
      have g2 := flat_get enc hk _ (p / k) (p % k) z hz hm
      rw [← hd] at g1 g2
      rw [g1, g2, he, List.getElem?_set, hk]
      by_cases e2 : j = p % k
      · have : i * k + j = p := by rw [e2, ← e1, ← hd]
        rw [if_pos this, if_pos e2, if_pos hj]
        have hh : i * k + j < l.length * k := by rw [this]; exact hp
        rw [if_pos (by omega)]
      · have : ¬ i * k + j = p := fun e => e2 (by rw [hd, e1] at e; omega)
        rw [if_neg this, if_neg e2]
    · have hz2 : (l.set i y)[p / k]? = some z := by rw [List.getElem?_set_ne (Ne.symm e1)]; exact hz
      have g1 := flat_get enc hk _ (p / k) (p % k) z hz2 hm
      have g2 := flat_get enc hk _ (p / k) (p % k) z hz hm
      rw [← hd] at g1 g2
      rw [g1, g2]
      have : ¬ i * k + j = p := fun e => e1 (by
        have : p / k = (i * k + j) / k := by rw [e]
        rw [this, Nat.mul_comm, Nat.mul_add_div h0, Nat.div_eq_of_lt hj]; omega)
      rw [if_neg this]
  · have g1 : ((l.set i y).flatMap enc)[p]? = none := List.getElem?_eq_none (by rw [flat_len enc hk, List.length_set]; omega)
    have g2 : (l.flatMap enc)[p]? = none := List.getElem?_eq_none (by rw [flat_len enc hk]; omega)
    rw [g1, g2]
    have : i * k + j < l.length * k := by
      have : (i + 1) * k ≤ l.length * k := Nat.mul_le_mul_right k hi
      rw [Nat.add_mul, Nat.one_mul] at this; omega
    rw [if_neg (by omega)]
section
variable {base : Nat} {bv nv : Value} {X : List Book} {Y : List NV} {w w' : World}
theorem OwnS.nil : OwnS base (.slice none 0 0) (.slice none 0 0) [] [] w := ⟨.nil, .nil, by simp, by simp, .nil, .nil⟩
theorem OwnS.kept (h : OwnS base bv nv X Y w) (k : KeptS w w') : OwnS base bv nv X Y w' := by
  have one : ∀ {e : TypeId} {c : Nat} {v : Value} {n : Nat} {xs : List Value}, (e = 37 ∨ e = 41 ∨ e = 9 ∨ e = 3) → RowO base e c v n xs w → RowO base e c v n xs w' := fun he hr =>
    hr.kept_of fun g hg => by obtain ⟨-, cur, hc⟩ := hr.blk hg; rw [hc]; exact k g cur _ he hc
  exact ⟨one (.inl rfl) h.books, one (.inr (.inl rfl)) h.notes, fun y hy => one (.inr (.inr (.inl rfl))) (h.tags y hy), fun y hy => one (.inr (.inr (.inr rfl))) (h.sheets y hy), h.tsep, h.ssep⟩
theorem OwnS.grow (h : OwnS base bv nv X Y w) (g : Grow w w') : OwnS base bv nv X Y w' := h.kept (.of_grow g)
theorem OwnS.reads (h : OwnS base bv nv X Y w) : Books w bv X ∧ Notes w nv (Y.map NV.n) := by
  refine ⟨h.books.reads fun i x hx => flat_part bookC (fun _ => rfl) hx, ?_⟩
  have hn : (Y.map NV.n).length = Y.length := List.length_map _
  have hh := h.notes
  rw [← hn] at hh
  refine hh.reads fun i x hx => ?_
  rw [List.getElem?_map] at hx
  cases e : Y[i]? with
  | none => rw [e] at hx; cases hx
  | some y =>
    rw [e] at hx
    obtain rfl : y.n = x := by simpa using hx
    rw [flat_part noteC (fun _ => rfl) e]
    have hy := List.mem_of_getElem? e
    refine ⟨y.tv, y.sv, rfl, (h.tags y hy).reads fun i x hx => ?_, (h.sheets y hy).reads fun i x hx => ?_⟩
    · rw [Nat.mul_one, List.take_one, List.head?_drop, List.getElem?_map, hx]; rfl
    · rw [Nat.mul_one, List.take_one, List.head?_drop, List.getElem?_map, hx]; rfl
/-- What an append, or a store, into one row of type e leaves: all rows of other types. -/
theorem OwnS.books' (h : OwnS base bv nv X Y w) {bv' : Value} {X' : List Book} (k : Kept 37 w w') (hb : RowO base 37 2 bv' X'.length (X'.flatMap bookC) w') : OwnS base bv' nv X' Y w' :=
  ⟨hb, h.notes.kept (by decide) k, fun y hy => (h.tags y hy).kept (by decide) k, fun y hy => (h.sheets y hy).kept (by decide) k, h.tsep, h.ssep⟩
theorem OwnS.notes' (h : OwnS base bv nv X Y w) {nv' : Value} {Y' : List NV} (k : Kept 41 w w') (hb : RowO base 41 5 nv' Y'.length (Y'.flatMap noteC) w')
    (ht : ∀ y ∈ Y', RowO base 9 1 y.tv y.n.tags.length (strC y.n.tags) w) (hs : ∀ y ∈ Y', RowO base 3 1 y.sv y.n.sheets.length (intC y.n.sheets) w)
    (h1 : Y'.Pairwise fun y z => ∀ b, blkOf y.tv = some b → blkOf z.tv ≠ some b) (h2 : Y'.Pairwise fun y z => ∀ b, blkOf y.sv = some b → blkOf z.sv ≠ some b) : OwnS base bv nv' X Y' w' :=
  ⟨h.books.kept (by decide) k, hb, fun y hy => (ht y hy).kept (by decide) k, fun y hy => (hs y hy).kept (by decide) k, h1, h2⟩
theorem kept_of_grown {v : Value} {e : TypeId} (g : w.grownBy w' (blkOf v)) (hv : ∀ b, blkOf v = some b → ∃ cur : Array Value, w.heap[b]? = some (.cells cur e (0, 0))) : Kept e w w' := fun b cs t m ht hb => by
  refine (g.block b (Array.getElem?_eq_some_iff.1 hb).1 ?_).trans hb
  intro he
  obtain ⟨cur, hc⟩ := hv b he.symm
  rw [hb] at hc
  injection hc with hc
  injection hc with h1 h2
  exact ht h2
theorem RowO.keeps {e : TypeId} {k : Nat} {v : Value} {n : Nat} {xs : List Value} (h : RowO base e k v n xs w) (g : w.grownBy w' (blkOf v)) : Kept e w w' := kept_of_grown g fun b hb => (h.blk hb).2
theorem kept_of_turned {e : TypeId} {b : Nat} {cur : Array Value} (hb : w.heap[b]? = some (.cells cur e (0, 0))) (t : Turned b w w') : Kept e w w' := fun i cs t' m ht hi => by
  refine (t.block i (Array.getElem?_eq_some_iff.1 hi).1 ?_).trans hi
  rintro rfl
  rw [hb] at hi
  injection hi with hi
  injection hi with h1 h2
  exact ht h2.symm
end
end Go.Proofs.YtnajccljdjllgaaDoor
