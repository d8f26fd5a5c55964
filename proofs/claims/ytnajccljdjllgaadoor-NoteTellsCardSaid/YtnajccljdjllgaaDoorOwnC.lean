/- A shelf of the call's own: appends and stores. -/
import Derived.Test.YtnajccljdjllgaaDoorOwnT
set_option linter.unusedVariables false
set_option linter.unusedSimpArgs false
namespace Go.Proofs.YtnajccljdjllgaaDoor
open Go.RowKit Go.Lib
/-- One element was appended. -/
def AppR (base : Nat) (e : TypeId) (k : Nat) (w : World) (v : Value) (n : Nat) (xs cs : List Value) (v' : Value) (w' : World) : Prop :=
  RowO base e k v' (n + 1) (xs ++ cs) w' ∧ w.grownBy w' (blkOf v) ∧ (∃ g, blkOf v' = some g ∧ (blkOf v = some g ∨ w.heap.size ≤ g)) ∧ w.heap.size < w'.heap.size
section
variable {P : Program}
theorem run_one {base : Nat} {t ty e : TypeId} {i : TypeInfo} {z : Value} {k bytes : Nat} (ht : P.underlying t = some (.slice e)) (hi : P.info? e = some i) (hz : i.zero = some z) (hsize : i.size = k) (hby : i.bytes = bytes) (hzs : z.cells.size = k) (hk : 0 < k)
    {w : World} {v : Value} {n : Nat} {xs : List Value} (h : RowO base e k v n xs w) (hbase : base ≤ w.heap.size) (cs : List Value) (hcl : cs.length = k) (h1 : ∀ u ∈ cs, u.oneCell' = true) (hn : n + 1 ≤ 1000000000000) (hbytes : bytes ≤ 100) :
    ∃ v' w', (Builtin.append_ #[t, t] ty #[v, .slice (some ⟨w.heap.size, 0, none⟩) 1 1]).run P (w.alloc (.cells cs.toArray e)) = .ok v' w' ∧ AppR base e k w v n xs cs v' w' := by
  have hsz : (w.alloc (.cells cs.toArray e)).heap.size = w.heap.size + 1 := Array.size_push _
  obtain ⟨v', w', hrun, h2, h3, g, h4, h5⟩ := run_appO (P := P) (ty := ty) ht hi hz hsize hby hzs hk (h.grow ((Grow.refl w).alloc (.cells cs.toArray e))) (by rw [hsz]; omega) ⟨w.heap.size, 0, none⟩ 1 1 (by decide) cs (by rw [hcl]; omega) (fun j u hj => by
    have : (⟨w.heap.size, 0, none⟩ : Addr).add j = ⟨w.heap.size, j, none⟩ := by unfold Addr.add; split <;> simp_all
    rw [this, cell_of_row _ w.heap.size j cs.toArray e (0, 0) (heap_alloc_new w _)]
    simpa using hj) h1 hn hbytes
  refine ⟨v', w', hrun, h2, World.grownBy.trans (World.grownBy_alloc w _ _) h3, ⟨g, h4, ?_⟩, by have := h3.size; omega⟩
  rcases h5 with h5 | h5
  · exact .inl h5
  · exact .inr (by omega)
theorem wp_appR {base : Nat} {o : Oper} {a : Act} {K : Act → World → Prop} {Q : Exit → Act → World → Prop} (s x : Operand) (t : TypeId)
    (ho : o.op = .call { callee := .builtin .append, args := #[s, x], argTypes := #[t, t] })
    (e : TypeId) (i : TypeInfo) (z : Value) (k bytes : Nat) (ht : P.underlying t = some (.slice e)) (hi : P.info? e = some i) (hz : i.zero = some z) (hsize : i.size = k) (hby : i.bytes = bytes) (hzs : z.cells.size = k) (hsz : 0 < k)
    (v : Value) (n : Nat) (xs : List Value) (hs : a.eval s = v) (w : World) (hb : RowO base e k v n xs w) (hbase : base ≤ w.heap.size) (cs : List Value) (hcl : cs.length = k) (h1 : ∀ u ∈ cs, u.oneCell' = true)
    (hx : a.eval x = .slice (some ⟨w.heap.size, 0, none⟩) 1 1) (hn : n + 1 ≤ 1000000000000) (hbytes : bytes ≤ 100)
    (h : ∀ v' w', AppR base e k w v n xs cs v' w' → K (a.put o.dst v') w') : o.wp P a (w.alloc (.cells cs.toArray e)) K Q := by
  obtain ⟨v', w', hrun, h2⟩ := run_one (P := P) (ty := o.type) ht hi hz hsize hby hzs hsz hb hbase cs hcl h1 hn hbytes
  unfold Oper.wp execOp
  simp only [ho, resolve, invoke, builtin, Sem.run_bind, Sem.run_pure, Result.andThen_ok, List.map_toArray, List.map_cons, List.map_nil, hs, hx, hrun]
  exact h v' w' h2
theorem app_R {base : Nat} {ops : Array Oper} {rest : List Oper} {o : Oper} {a : Act} {Q : Exit → Act → World → Prop} (hgd : o.guard = none) (s x : Operand) (t : TypeId)
    (ho : o.op = .call { callee := .builtin .append, args := #[s, x], argTypes := #[t, t] })
    (e : TypeId) (i : TypeInfo) (z : Value) (k bytes : Nat) (ht : P.underlying t = some (.slice e)) (hi : P.info? e = some i) (hz : i.zero = some z) (hsize : i.size = k) (hby : i.bytes = bytes) (hzs : z.cells.size = k) (hsz : 0 < k)
    (v : Value) (n : Nat) (xs : List Value) (hs : a.eval s = v) (w : World) (hb : RowO base e k v n xs w) (hbase : base ≤ w.heap.size) (cs : List Value) (hcl : cs.length = k) (h1 : ∀ u ∈ cs, u.oneCell' = true)
    (hx : a.eval x = .slice (some ⟨w.heap.size, 0, none⟩) 1 1) (hn : n + 1 ≤ 1000000000000) (hbytes : bytes ≤ 100)
    (h : ∀ v' w', AppR base e k w v n xs cs v' w' → wpList P ops Q rest (a.put o.dst v') w') : wpList P ops Q (o :: rest) a (w.alloc (.cells cs.toArray e)) :=
  wpList_plain hgd fun _ hK => wp_appR s x t ho e i z k bytes ht hi hz hsize hby hzs hsz v n xs hs w hb hbase cs hcl h1 hx hn hbytes fun v' w' h2 => hK _ _ (h v' w' h2)
theorem step_R {base : Nat} {ops : Array Oper} {o : Oper} {a : Act} {K : Act → World → Prop} {Q : Exit → Act → World → Prop} {E : Prop} (hgd : o.guard = none) (s x : Operand) (t : TypeId)
    (ho : o.op = .call { callee := .builtin .append, args := #[s, x], argTypes := #[t, t] })
    (e : TypeId) (i : TypeInfo) (z : Value) (k bytes : Nat) (ht : P.underlying t = some (.slice e)) (hi : P.info? e = some i) (hz : i.zero = some z) (hsize : i.size = k) (hby : i.bytes = bytes) (hzs : z.cells.size = k) (hsz : 0 < k)
    (v : Value) (n : Nat) (xs : List Value) (hs : a.eval s = v) (w : World) (hb : RowO base e k v n xs w) (hbase : base ≤ w.heap.size) (cs : List Value) (hcl : cs.length = k) (h1 : ∀ u ∈ cs, u.oneCell' = true)
    (hx : a.eval x = .slice (some ⟨w.heap.size, 0, none⟩) 1 1) (hn : n + 1 ≤ 1000000000000) (hbytes : bytes ≤ 100)
    (h : ∀ v' w', AppR base e k w v n xs cs v' w' → K (a.put o.dst v') w') : if Region.wanted o (yielded ops a.tmps) = true then Oper.wp P o a (w.alloc (.cells cs.toArray e)) K Q else E := by
  have hw : Region.wanted o (yielded ops a.tmps) = true := by simp [Region.wanted, hgd]
  rw [if_pos hw]
  exact wp_appR s x t ho e i z k bytes ht hi hz hsize hby hzs hsz v n xs hs w hb hbase cs hcl h1 hx hn hbytes h
end
theorem pairwise_set {α : Type} {R : α → α → Prop} (hsym : ∀ x y, R x y → R y x) {l : List α} (h : l.Pairwise R) {i : Nat} {y : α} (hy : ∀ (j : Nat) x, l[j]? = some x → j ≠ i → R x y) : (l.set i y).Pairwise R := by
  rw [List.pairwise_iff_getElem] at h ⊢
  intro p q hp hq hpq
  rw [List.length_set] at hp hq
  rw [List.getElem_set, List.getElem_set]
  by_cases e1 : i = p
  · rw [if_pos e1, if_neg (by omega)]
    exact hsym _ _ (hy q _ (List.getElem?_eq_getElem hq) (by omega))
  · rw [if_neg e1]
    by_cases e2 : i = q
    · rw [if_pos e2]; exact hy p _ (List.getElem?_eq_getElem hp) (by omega)
    · rw [if_neg e2]; exact h p q hp hq hpq
theorem mem_set_cases {α : Type} {l : List α} {i : Nat} {y x : α} (h : x ∈ l.set i y) : x = y ∨ ∃ j : Nat, j ≠ i ∧ l[j]? = some x := by
  obtain ⟨j, hj⟩ := List.getElem?_of_mem h
  rw [List.getElem?_set] at hj
  by_cases e : i = j
  · rw [if_pos e] at hj
    split at hj
    · exact .inl (Option.some.inj hj).symm
    · cases hj
  · rw [if_neg e] at hj; exact .inr ⟨j, fun h => e h.symm, hj⟩
theorem sep_sym {f : NV → Value} : ∀ x y : NV, (∀ b, blkOf (f x) = some b → blkOf (f y) ≠ some b) → (∀ b, blkOf (f y) = some b → blkOf (f x) ≠ some b) := fun x y h b h1 h2 => h b h2 h1
theorem sep_of {f : NV → Value} {Y : List NV} (h : Y.Pairwise fun y z => ∀ b, blkOf (f y) = some b → blkOf (f z) ≠ some b) (hs : ∀ x y : NV, (∀ b, blkOf (f x) = some b → blkOf (f y) ≠ some b) → (∀ b, blkOf (f y) = some b → blkOf (f x) ≠ some b)) {j i : Nat} {x y : NV} (hj : Y[j]? = some x) (hy : Y[i]? = some y) (hji : j ≠ i) : ∀ b, blkOf (f x) = some b → blkOf (f y) ≠ some b := by
  obtain ⟨h1, rfl⟩ := List.getElem?_eq_some_iff.1 hj
  obtain ⟨h2, rfl⟩ := List.getElem?_eq_some_iff.1 hy
  rw [List.pairwise_iff_getElem] at h
  rcases Nat.lt_or_gt_of_ne hji with h3 | h3
  · exact h j i h1 h2 h3
  · exact hs _ _ (h i j h2 h1 h3)
section
variable {base : Nat} {bv nv : Value} {X : List Book} {Y : List NV} {w w' : World}
theorem OwnS.mk' (h : RowO base 37 2 bv X.length (X.flatMap bookC) w) {nv' : Value} {Y' : List NV} (k : Kept 41 w w') (hb : RowO base 41 5 nv' Y'.length (Y'.flatMap noteC) w')
    (ht : ∀ y ∈ Y', RowO base 9 1 y.tv y.n.tags.length (strC y.n.tags) w) (hs : ∀ y ∈ Y', RowO base 3 1 y.sv y.n.sheets.length (intC y.n.sheets) w)
    (h1 : Y'.Pairwise fun y z => ∀ b, blkOf y.tv = some b → blkOf z.tv ≠ some b) (h2 : Y'.Pairwise fun y z => ∀ b, blkOf y.sv = some b → blkOf z.sv ≠ some b) : OwnS base bv nv' X Y' w' :=
  ⟨h.kept (by decide) k, hb, fun y hy => (ht y hy).kept (by decide) k, fun y hy => (hs y hy).kept (by decide) k, h1, h2⟩
theorem OwnS.addBook (h : OwnS base bv nv X Y w) {x : Book} {bv' : Value} (r : AppR base 37 2 w bv X.length (X.flatMap bookC) (bookC x) bv' w') : OwnS base bv' nv (X ++ [x]) Y w' :=
  h.books' (h.books.keeps r.2.1) (by rw [List.length_append, List.flatMap_append]; simpa using r.1)
theorem OwnS.addNote (h : OwnS base bv nv X Y w) {y : NV} (ht : y.tv = .slice none 0 0 ∧ y.n.tags = []) (hs : y.sv = .slice none 0 0 ∧ y.n.sheets = []) {nv' : Value} (r : AppR base 41 5 w nv Y.length (Y.flatMap noteC) (noteC y) nv' w') : OwnS base bv nv' X (Y ++ [y]) w' := by
  have e1 : blkOf y.tv = none := by rw [ht.1]; rfl
  have e2 : blkOf y.sv = none := by rw [hs.1]; rfl
  refine h.notes' (h.notes.keeps r.2.1) (by rw [List.length_append, List.flatMap_append]; simpa using r.1) (fun z hz => ?_) (fun z hz => ?_) ?_ ?_
  · rcases List.mem_append.1 hz with hz | hz
    · exact h.tags z hz
    · obtain rfl : z = y := by simpa using hz
      rw [ht.1, ht.2]; exact .nil
  · rcases List.mem_append.1 hz with hz | hz
    · exact h.sheets z hz
    · obtain rfl : z = y := by simpa using hz
      rw [hs.1, hs.2]; exact .nil
  · refine List.pairwise_append.2 ⟨h.tsep, List.pairwise_singleton _ _, fun a ha b hb c _ hc => ?_⟩
    obtain rfl : b = y := by simpa using hb
    rw [e1] at hc; cases hc
  · refine List.pairwise_append.2 ⟨h.ssep, List.pairwise_singleton _ _, fun a ha b hb c _ hc => ?_⟩
    obtain rfl : b = y := by simpa using hb
    rw [e2] at hc; cases hc
/-- A note's cells. -/
theorem OwnS.note (h : OwnS base bv nv X Y w) {i : Nat} {y : NV} (hy : Y[i]? = some y) : ∃ b c, nv = .slice (some ⟨b, 0, none⟩) Y.length c ∧ b < w.heap.size ∧ Y.length ≤ c ∧ blkOf nv = some b ∧ (∀ j u, (noteC y)[j]? = some u → w.cell? ⟨b, i * 5 + j, none⟩ = some u ∧ w.frozen? ⟨b, i * 5 + j, none⟩ = false) := by
  have key : ∀ j u, (noteC y)[j]? = some u → (Y.flatMap noteC)[i * 5 + j]? = some u := fun j u hu => by
    rw [flat_get noteC (fun _ => rfl) Y i j y hy (by have := (List.getElem?_eq_some_iff.1 hu).1; simpa using this)]; exact hu
  obtain ⟨b, c, e, -, -, hb, hbk⟩ := h.notes.cell (key 0 _ rfl)
  obtain ⟨a, c', e', hc⟩ := h.notes.slice
  rw [e] at e'
  injection e' with e1 e2 e3
  refine ⟨b, c, e, hb, by rw [e3]; exact hc, hbk, fun j u hu => ?_⟩
  obtain ⟨b', c'', e4, h1, h2, -, -⟩ := h.notes.cell (key j u hu)
  rw [e] at e4
  injection e4 with e5
  injection e5 with e6
  injection e6 with e7
  subst e7
  exact ⟨h1, h2⟩
theorem OwnS.book (h : OwnS base bv nv X Y w) {i : Nat} {x : Book} (hx : X[i]? = some x) : ∃ b c, bv = .slice (some ⟨b, 0, none⟩) X.length c ∧ b < w.heap.size ∧ X.length ≤ c ∧ blkOf bv = some b ∧ (∀ j u, (bookC x)[j]? = some u → w.cell? ⟨b, i * 2 + j, none⟩ = some u ∧ w.frozen? ⟨b, i * 2 + j, none⟩ = false) := by
  have key : ∀ j u, (bookC x)[j]? = some u → (X.flatMap bookC)[i * 2 + j]? = some u := fun j u hu => by
    rw [flat_get bookC (fun _ => rfl) X i j x hx (by have := (List.getElem?_eq_some_iff.1 hu).1; simpa using this)]; exact hu
  obtain ⟨b, c, e, -, -, hb, hbk⟩ := h.books.cell (key 0 _ rfl)
  obtain ⟨a, c', e', hc⟩ := h.books.slice
  rw [e] at e'
  injection e' with e1 e2 e3
  refine ⟨b, c, e, hb, by rw [e3]; exact hc, hbk, fun j u hu => ?_⟩
  obtain ⟨b', c'', e4, h1, h2, -, -⟩ := h.books.cell (key j u hu)
  rw [e] at e4
  injection e4 with e5
  injection e5 with e6
  injection e6 with e7
  subst e7
  exact ⟨h1, h2⟩
theorem OwnS.setBook (h : OwnS base bv nv X Y w) {i : Nat} {x : Book} (hx : X[i]? = some x) (s : ByteArray) {b c : Nat} (e : bv = .slice (some ⟨b, 0, none⟩) X.length c) :
    OwnS base bv nv (X.set i { x with name := s }) Y (w.setCell ⟨b, i * 2 + 1, none⟩ (.string s)) ∧ Turned b w (w.setCell ⟨b, i * 2 + 1, none⟩ (.string s)) := by
  have hc : (X.flatMap bookC)[i * 2 + 1]? = some (.string x.name) := by rw [flat_get bookC (fun _ => rfl) X i 1 x hx (by decide)]; rfl
  obtain ⟨b', c', e1, -, hr, ht, cur, hcur⟩ := h.books.stored hc (.string s)
  rw [e] at e1
  injection e1 with e2
  injection e2 with e3
  injection e3 with e4
  subst e4
  rw [flat_set bookC (fun _ => rfl) (y := { x with name := s }) hx (by decide) rfl] at hr
  exact ⟨h.books' (kept_of_turned hcur ht) (by rw [List.length_set]; exact hr), ht⟩
theorem OwnS.setBookOf (h : OwnS base bv nv X Y w) {i : Nat} {y : NV} (hy : Y[i]? = some y) (q : Int) {b c : Nat} (e : nv = .slice (some ⟨b, 0, none⟩) Y.length c) :
    OwnS base bv nv X (Y.set i { y with n := { y.n with book := q } }) (w.setCell ⟨b, i * 5 + 1, none⟩ (.int .i64 q)) ∧ Turned b w (w.setCell ⟨b, i * 5 + 1, none⟩ (.int .i64 q)) := by
  have hc : (Y.flatMap noteC)[i * 5 + 1]? = some (.int .i64 y.n.book) := by rw [flat_get noteC (fun _ => rfl) Y i 1 y hy (by decide)]; rfl
  obtain ⟨b', c', e1, -, hr, ht, cur, hcur⟩ := h.notes.stored hc (.int .i64 q)
  rw [e] at e1
  injection e1 with e2
  injection e2 with e3
  injection e3 with e4
  subst e4
  rw [flat_set noteC (fun _ => rfl) (y := { y with n := { y.n with book := q } }) hy (by decide) rfl] at hr
  have hm := List.mem_of_getElem? hy
  refine ⟨h.notes' (kept_of_turned hcur ht) (by rw [List.length_set]; exact hr) (fun z hz => ?_) (fun z hz => ?_) ?_ ?_, ht⟩
  · rcases mem_set_cases hz with rfl | ⟨j, -, hj⟩
    · exact h.tags y hm
    · exact h.tags z (List.mem_of_getElem? hj)
  · rcases mem_set_cases hz with rfl | ⟨j, -, hj⟩
    · exact h.sheets y hm
    · exact h.sheets z (List.mem_of_getElem? hj)
  · exact pairwise_set (sep_sym (f := NV.tv)) h.tsep (fun j x hj hji => sep_of (f := NV.tv) (x := x) (y := y) h.tsep sep_sym hj hy hji)
  · exact pairwise_set (sep_sym (f := NV.sv)) h.ssep (fun j x hj hji => sep_of (f := NV.sv) (x := x) (y := y) h.ssep sep_sym hj hy hji)
theorem OwnS.setName (h : OwnS base bv nv X Y w) {i : Nat} {y : NV} (hy : Y[i]? = some y) (s : ByteArray) {b c : Nat} (e : nv = .slice (some ⟨b, 0, none⟩) Y.length c) :
    OwnS base bv nv X (Y.set i { y with n := { y.n with name := s } }) (w.setCell ⟨b, i * 5 + 2, none⟩ (.string s)) ∧ Turned b w (w.setCell ⟨b, i * 5 + 2, none⟩ (.string s)) := by
  have hc : (Y.flatMap noteC)[i * 5 + 2]? = some (.string y.n.name) := by rw [flat_get noteC (fun _ => rfl) Y i 2 y hy (by decide)]; rfl
  obtain ⟨b', c', e1, -, hr, ht, cur, hcur⟩ := h.notes.stored hc (.string s)
  rw [e] at e1
  injection e1 with e2
  injection e2 with e3
  injection e3 with e4
  subst e4
  rw [flat_set noteC (fun _ => rfl) (y := { y with n := { y.n with name := s } }) hy (by decide) rfl] at hr
  have hm := List.mem_of_getElem? hy
  refine ⟨h.notes' (kept_of_turned hcur ht) (by rw [List.length_set]; exact hr) (fun z hz => ?_) (fun z hz => ?_) ?_ ?_, ht⟩
  · rcases mem_set_cases hz with rfl | ⟨j, -, hj⟩
    · exact h.tags y hm
    · exact h.tags z (List.mem_of_getElem? hj)
  · rcases mem_set_cases hz with rfl | ⟨j, -, hj⟩
    · exact h.sheets y hm
    · exact h.sheets z (List.mem_of_getElem? hj)
  · exact pairwise_set (sep_sym (f := NV.tv)) h.tsep (fun j x hj hji => sep_of (f := NV.tv) (x := x) (y := y) h.tsep sep_sym hj hy hji)
  · exact pairwise_set (sep_sym (f := NV.sv)) h.ssep (fun j x hj hji => sep_of (f := NV.sv) (x := x) (y := y) h.ssep sep_sym hj hy hji)
/-- A note's tags, in a row that was turned in its place or laid anew. -/
theorem OwnS.retag (h : OwnS base bv nv X Y w) {i : Nat} {y : NV} (hy : Y[i]? = some y) {v : Value} {l : List ByteArray} {w1 : World} (hr : RowO base 9 1 v l.length (strC l) w1) (g : w.grownBy w1 (blkOf y.tv))
    (hb : ∀ b, blkOf v = some b → blkOf y.tv = some b ∨ w.heap.size ≤ b) {b c : Nat} (e : nv = .slice (some ⟨b, 0, none⟩) Y.length c) :
    w1.cell? ⟨b, i * 5 + 3, none⟩ = some y.tv ∧ w1.frozen? ⟨b, i * 5 + 3, none⟩ = false ∧ OwnS base bv nv X (Y.set i ⟨{ y.n with tags := l }, v, y.sv⟩) (w1.setCell ⟨b, i * 5 + 3, none⟩ v) ∧ Turned b w1 (w1.setCell ⟨b, i * 5 + 3, none⟩ v) ∧ Kept 9 w w1 := by
  have hm := List.mem_of_getElem? hy
  have hkp : Kept 9 w w1 := (h.tags y hm).keeps g
  have hn := h.notes.kept (by decide) hkp
  have h1 : ∀ (j : Nat) z, Y[j]? = some z → j ≠ i → RowO base 9 1 z.tv z.n.tags.length (strC z.n.tags) w1 := fun j z hj hji => by
    have hz := h.tags z (List.mem_of_getElem? hj)
    exact hz.kept_of fun q hq => g.block q (hz.blk_lt hq) (fun e => sep_of h.tsep sep_sym hj hy hji q hq e.symm)
  have hc : (Y.flatMap noteC)[i * 5 + 3]? = some y.tv := by rw [flat_get noteC (fun _ => rfl) Y i 3 y hy (by decide)]; rfl
  obtain ⟨b', c', e1, hcc, hcf, -, -⟩ := hn.cell hc
  obtain ⟨b'', c'', e1', -, hst, ht, cur, hcur⟩ := hn.stored hc v
  rw [e] at e1 e1'
  injection e1 with e2
  injection e2 with e3
  injection e3 with e4
  subst e4
  injection e1' with e2
  injection e2 with e3
  injection e3 with e4
  subst e4
  have hk2 := kept_of_turned hcur ht
  rw [flat_set noteC (fun _ => rfl) (y := ⟨{ y.n with tags := l }, v, y.sv⟩) hy (by decide) rfl] at hst
  refine ⟨hcc, hcf, OwnS.mk' (h.books.kept (by decide) hkp) hk2 (by rw [List.length_set]; exact hst) (fun z hz => ?_) (fun z hz => ?_) ?_ ?_, ht, hkp⟩
  · rcases mem_set_cases hz with rfl | ⟨j, hji, hj⟩
    · exact hr
    · exact h1 j z hj hji
  · rcases mem_set_cases hz with rfl | ⟨j, -, hj⟩
    · exact (h.sheets y hm).kept (by decide) hkp
    · exact (h.sheets z (List.mem_of_getElem? hj)).kept (by decide) hkp
  · refine pairwise_set (sep_sym (f := NV.tv)) h.tsep (fun j x hj hji b h3 h4 => ?_)
    rcases hb b h4 with h5 | h5
    · exact sep_of h.tsep sep_sym hj hy hji b h3 h5
    · have := (h.tags x (List.mem_of_getElem? hj)).blk_lt h3; omega
  · exact pairwise_set (sep_sym (f := NV.sv)) h.ssep (fun j x hj hji => sep_of (f := NV.sv) (x := x) (y := y) h.ssep sep_sym hj hy hji)
/-- A note's sheets, in a row that was turned in its place or laid anew. -/
theorem OwnS.resheet (h : OwnS base bv nv X Y w) {i : Nat} {y : NV} (hy : Y[i]? = some y) {v : Value} {l : List Int} {w1 : World} (hr : RowO base 3 1 v l.length (intC l) w1) (g : w.grownBy w1 (blkOf y.sv))
    (hb : ∀ b, blkOf v = some b → blkOf y.sv = some b ∨ w.heap.size ≤ b) {b c : Nat} (e : nv = .slice (some ⟨b, 0, none⟩) Y.length c) :
    w1.cell? ⟨b, i * 5 + 4, none⟩ = some y.sv ∧ w1.frozen? ⟨b, i * 5 + 4, none⟩ = false ∧ OwnS base bv nv X (Y.set i ⟨{ y.n with sheets := l }, y.tv, v⟩) (w1.setCell ⟨b, i * 5 + 4, none⟩ v) ∧ Turned b w1 (w1.setCell ⟨b, i * 5 + 4, none⟩ v) ∧ Kept 3 w w1 := by
  have hm := List.mem_of_getElem? hy
  have hkp : Kept 3 w w1 := (h.sheets y hm).keeps g
  have hn := h.notes.kept (by decide) hkp
  have h1 : ∀ (j : Nat) z, Y[j]? = some z → j ≠ i → RowO base 3 1 z.sv z.n.sheets.length (intC z.n.sheets) w1 := fun j z hj hji => by
    have hz := h.sheets z (List.mem_of_getElem? hj)
    exact hz.kept_of fun q hq => g.block q (hz.blk_lt hq) (fun e => sep_of h.ssep sep_sym hj hy hji q hq e.symm)
  have hc : (Y.flatMap noteC)[i * 5 + 4]? = some y.sv := by rw [flat_get noteC (fun _ => rfl) Y i 4 y hy (by decide)]; rfl
  obtain ⟨b', c', e1, hcc, hcf, -, -⟩ := hn.cell hc
  obtain ⟨b'', c'', e1', -, hst, ht, cur, hcur⟩ := hn.stored hc v
  rw [e] at e1 e1'
  injection e1 with e2
  injection e2 with e3
  injection e3 with e4
  subst e4
  injection e1' with e2
  injection e2 with e3
  injection e3 with e4
  subst e4
  have hk2 := kept_of_turned hcur ht
  rw [flat_set noteC (fun _ => rfl) (y := ⟨{ y.n with sheets := l }, y.tv, v⟩) hy (by decide) rfl] at hst
  refine ⟨hcc, hcf, OwnS.mk' (h.books.kept (by decide) hkp) hk2 (by rw [List.length_set]; exact hst) (fun z hz => ?_) (fun z hz => ?_) ?_ ?_, ht, hkp⟩
  · rcases mem_set_cases hz with rfl | ⟨j, -, hj⟩
    · exact (h.tags y hm).kept (by decide) hkp
    · exact (h.tags z (List.mem_of_getElem? hj)).kept (by decide) hkp
  · rcases mem_set_cases hz with rfl | ⟨j, hji, hj⟩
    · exact hr
    · exact h1 j z hj hji
  · exact pairwise_set (sep_sym (f := NV.tv)) h.tsep (fun j x hj hji => sep_of (f := NV.tv) (x := x) (y := y) h.tsep sep_sym hj hy hji)
  · refine pairwise_set (sep_sym (f := NV.sv)) h.ssep (fun j x hj hji b h3 h4 => ?_)
    rcases hb b h4 with h5 | h5
    · exact sep_of h.ssep sep_sym hj hy hji b h3 h5
    · have := (h.sheets x (List.mem_of_getElem? hj)).blk_lt h3; omega
end
end Go.Proofs.YtnajccljdjllgaaDoor
