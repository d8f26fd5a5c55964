/- slices.Clone, at books, notes, texts and numbers: a row of the call's own. -/
import Derived.Test.YtnajccljdjllgaaDoorOwnC
import Derived.Test.YtnajccljdjllgaaDoorApp
import Derived.WalkSpells
set_option linter.unusedVariables false
set_option linter.unusedSimpArgs false
namespace Go.Proofs.YtnajccljdjllgaaDoor
open Go.RowKit Go.Lib
theorem RowO.base_mono {base base' : Nat} {e : TypeId} {k : Nat} {v : Value} {n : Nat} {xs : List Value} {w : World} (h : RowO base e k v n xs w) (hb : base' ≤ base) : RowO base' e k v n xs w := by
  rcases h with ⟨h1, h | ⟨b, cap, cur, h2, h3, h4⟩⟩ | h
  · exact .inl ⟨h1, .inl h⟩
  · exact .inl ⟨h1, .inr ⟨b, cap, cur, h2, by omega, h4⟩⟩
  · exact .inr h
section
variable {P : Program}
theorem append_none {t ty e : TypeId} {i : TypeInfo} (ht : P.underlying t = some (.slice e)) (hi : P.info? e = some i) (a ad : Option Addr) {n c c' : Nat} (hn : n ≤ c) (w : World) :
    (Builtin.append_ #[t, t] ty #[.slice a n c, .slice ad 0 c']).run P w = .ok (.slice a n c) w := by
  cases a <;> cases ad <;> simp [Builtin.append_, run_underlying ht, sizeOf, typeInfo, hi, Builtin.lenOf, Builtin.firstCells, loadCells, loadCellsFrom, hn, storeCells]
/-- Behind an append of what is read. -/
def AppRd {α : Type} (R : World → α → List Value → Prop) (base : Nat) (e : TypeId) (k : Nat) (w : World) (v : Value) (n : Nat) (xs : List Value) (l : List α) (v' : Value) (w' : World) : Prop :=
  ∃ news : List Value, RowO base e k v' (n + l.length) (xs ++ news) w' ∧ w.grownBy w' (blkOf v) ∧ (blkOf v' = blkOf v ∨ ∃ g, blkOf v' = some g ∧ w.heap.size ≤ g) ∧ news.length = l.length * k ∧ ∀ (i : Nat) a, l[i]? = some a → R w a ((news.drop (i * k)).take k)
theorem run_rd {α : Type} {R : World → α → List Value → Prop} {base : Nat} {t ty e : TypeId} {i : TypeInfo} {z : Value} {k bytes : Nat} (ht : P.underlying t = some (.slice e)) (hi : P.info? e = some i) (hz : i.zero = some z) (hsize : i.size = k) (hby : i.bytes = bytes) (hzs : z.cells.size = k) (hk : 0 < k)
    {w : World} {v u : Value} {n : Nat} {xs : List Value} (h : RowO base e k v n xs w) (hbase : base ≤ w.heap.size) {l : List α} (hr : Reads R k w u l) (h1 : ∀ a cs, R w a cs → ∀ u ∈ cs, u.oneCell' = true) (hn : n + l.length ≤ 1000000000000) (hbytes : bytes ≤ 100) :
    ∃ v' w', (Builtin.append_ #[t, t] ty #[v, u]).run P w = .ok v' w' ∧ AppRd R base e k w v n xs l v' w' := by
  obtain ⟨ad, c, news, rfl, hc, hl, hR, hlk, hcell⟩ := hr.news hk
  by_cases h0 : 0 < l.length
  · obtain ⟨b, off, rfl, hb, hcs⟩ := hcell h0
    have hone : ∀ u ∈ news, u.oneCell' = true := by
      intro u hu
      obtain ⟨j, hj, e⟩ := List.getElem_of_mem hu
      have hi : j / k < l.length := Nat.div_lt_of_lt_mul (by rw [Nat.mul_comm, ← hl]; exact hj)
      obtain ⟨y, hy, -⟩ := lt_get hi
      refine h1 y _ (hR _ y hy) u ?_
      have hd : j = j / k * k + j % k := by rw [Nat.mul_comm]; exact (Nat.div_add_mod j k).symm
      have hm : j % k < k := Nat.mod_lt _ hk
      refine List.mem_of_getElem? (i := j % k) ?_
      rw [List.getElem?_take_of_lt hm, List.getElem?_drop, ← hd, ← e]; exact List.getElem?_eq_getElem hj
    obtain ⟨v', w', hrun, h2, h3, g, h4, h5⟩ := run_appO (P := P) (ty := ty) ht hi hz hsize hby hzs hk h hbase ⟨b, off, none⟩ l.length c h0 news hl (fun j u hu => by
      have : (⟨b, off, none⟩ : Addr).add j = ⟨b, off + j, none⟩ := by simp [Addr.add]
      rw [this]; exact hcs j u hu) hone hn hbytes
    refine ⟨v', w', hrun, news, h2, h3, ?_, hl, hR⟩
    rcases h5 with h5 | h5
    · exact .inl (by rw [h4, h5])
    · exact .inr ⟨g, h4, h5⟩
  · have hnil : l = [] := List.eq_nil_of_length_eq_zero (by omega)
    subst hnil
    have hn0 : news = [] := List.eq_nil_of_length_eq_zero (by rw [hl]; simp)
    subst hn0
    obtain ⟨a, cc, rfl, hcc⟩ := h.slice
    exact ⟨_, w, append_none ht hi a ad hcc w, [], by simpa using h, World.grownBy.refl w _, .inl rfl, by simp, hR⟩
theorem app_Rd {α : Type} {R : World → α → List Value → Prop} {base : Nat} {ops : Array Oper} {rest : List Oper} {o : Oper} {a : Act} {Q : Exit → Act → World → Prop} (hgd : o.guard = none) (s x : Operand) (t : TypeId)
    (ho : o.op = .call { callee := .builtin .append, args := #[s, x], argTypes := #[t, t] })
    (e : TypeId) (i : TypeInfo) (z : Value) (k bytes : Nat) (ht : P.underlying t = some (.slice e)) (hi : P.info? e = some i) (hz : i.zero = some z) (hsize : i.size = k) (hby : i.bytes = bytes) (hzs : z.cells.size = k) (hk : 0 < k)
    (v u : Value) (n : Nat) (xs : List Value) (hs : a.eval s = v) (w : World) (h : RowO base e k v n xs w) (hbase : base ≤ w.heap.size) {l : List α} (hx : a.eval x = u) (hr : Reads R k w u l) (h1 : ∀ a cs, R w a cs → ∀ u ∈ cs, u.oneCell' = true) (hn : n + l.length ≤ 1000000000000) (hbytes : bytes ≤ 100)
    (hk' : ∀ v' w', AppRd R base e k w v n xs l v' w' → wpList P ops Q rest (a.put o.dst v') w') : wpList P ops Q (o :: rest) a w := by
  obtain ⟨v', w', hrun, h2⟩ := run_rd (P := P) (ty := o.type) ht hi hz hsize hby hzs hk h hbase hr h1 hn hbytes
  refine wpList_plain hgd fun _ hK => ?_
  unfold Oper.wp execOp
  simp only [ho, resolve, invoke, builtin, Sem.run_bind, Sem.run_pure, Result.andThen_ok, List.map_toArray, List.map_cons, List.map_nil, hs, hx, hrun]
  exact hK _ _ (hk' v' w' h2)
end
theorem Reads.hold {α : Type} {R : World → α → List Value → Prop} {k : Nat} {w W : World} {v : Value} {l : List α} (h : Reads R k w v l) (g : Grow w W) : Reads (fun _ => R w) k W v l := by
  obtain ⟨a, c, e, hc, h⟩ := h
  exact ⟨a, c, e, hc, h.grow g⟩
/-- What a Clone answers. -/
def RetClone {α : Type} (R : World → α → List Value → Prop) (e : TypeId) (k : Nat) (w : World) (l : List α) (e' : Ending) (w' : World) : Prop :=
  ∃ v xs, e' = .returned v ∧ RowO w.heap.size e k v l.length xs w' ∧ Grow w w' ∧ xs.length = l.length * k ∧ ∀ (i : Nat) a, l[i]? = some a → R w a ((xs.drop (i * k)).take k)
theorem empty_row (w : World) (e : TypeId) (k : Nat) (o : Obj) : RowO w.heap.size e k (.slice (some ⟨w.heap.size, 0, none⟩) 0 0) 0 [] (w.alloc o) := .inr ⟨rfl, rfl, _, rfl⟩
set_option maxRecDepth 100000 in
set_option maxHeartbeats 1000000 in
theorem clone_books (W0 : World) (v : Value) (l : List Book) (w : World) (h : Reads (fun _ => BookR W0) 2 w v l) (hz : l.length ≤ 1000000) :
    Calls Tryd.prog 93 #[v] w (RetClone (fun _ => BookR W0) 37 2 w l) := by
  obtain ⟨i0, hi, hz0, hz1, hz2⟩ := info_parts info_book
  obtain ⟨a, c, rfl⟩ := h.mk
  cases a with
  | none =>
    have hl : l.length = 0 := by
      rcases Nat.eq_zero_or_pos l.length with h0 | h0
      · exact h0
      · obtain ⟨_, _, e, _, hr⟩ := h
        injection e with e1
        obtain ⟨_, _, e2, _⟩ := hr h0
        rw [← e1] at e2; cases e2
    have hl' : l = [] := List.eq_nil_of_length_eq_zero hl
    subst hl'
    clear h hl
    have hq := fun W : World => Lib.run_eql_slice_nil (P := Tryd.prog) W 25 37 none 0 c 0 0 Tryd.underlying25
    go_enter Tryd.func93, Tryd.ntmps93
    go_wp2_with fail
    go_ret
    exact ⟨_, [], rfl, .nil, Grow.refl _, rfl, fun i a h => by simp at h⟩
  | some ad =>
    have g0 : Grow w (w.alloc (.cells #[] 37)) := (Grow.refl w).alloc _
    have hr : Reads (fun _ => BookR W0) 2 (w.alloc (.cells #[] 37)) (.slice (some ad) l.length c) l := by
      obtain ⟨a', c', e, h1, h2⟩ := h
      exact ⟨a', c', e, h1, h2.grow g0⟩
    have HRD := Lib.hid hr
    have hq := fun W : World => Lib.run_eql_slice_nil (P := Tryd.prog) W 25 37 (some ad) l.length c 0 0 Tryd.underlying25
    have hsz : (w.alloc (.cells #[] 37)).heap.size = w.heap.size + 1 := Array.size_push _
    have HSZ := Lib.hid hsz
    have HG := Lib.hid g0
    clear h hr hsz g0
    go_enter Tryd.func93, Tryd.ntmps93
    go_wp2_with (at_builtin; refine app_Rd (R := fun _ => BookR W0) (l := l) (base := w.heap.size) rfl _ _ 25 rfl 37 i0 _ 2 24 Tryd.underlying25 hi hz0 hz1 hz2 rfl (by decide) (.slice (some ⟨w.heap.size, 0, none⟩) 0 0) (.slice (some ad) l.length c) 0 [] rfl _ ?_ ?_ rfl ?_ (fun a cs hh => one_book W0 a cs hh) ?_ (by decide) ?_; exact empty_row w _ _ _; (rw [HSZ.out]; omega); exact HRD.out; omega; intro v' w' hout; have HO := Lib.hid hout; clear hout)
    go_ret
    obtain ⟨news, h1, h2, h3, h4, h5⟩ := HO.out
    rw [Nat.zero_add, List.nil_append] at h1
    refine ⟨_, news, rfl, h1, HG.out.trans (Below.grown (Grow.refl _) h2 (Nat.le_refl _) (fun b hb => by cases hb)), h4, h5⟩
set_option maxRecDepth 100000 in
set_option maxHeartbeats 1000000 in
theorem clone_notes (W0 : World) (v : Value) (l : List Note) (w : World) (h : Reads (fun _ => NoteR W0) 5 w v l) (hz : l.length ≤ 1000000) :
    Calls Tryd.prog 94 #[v] w (RetClone (fun _ => NoteR W0) 41 5 w l) := by
  obtain ⟨i0, hi, hz0, hz1, hz2⟩ := info_parts info_note
  obtain ⟨a, c, rfl⟩ := h.mk
  cases a with
  | none =>
    have hl : l.length = 0 := by
      rcases Nat.eq_zero_or_pos l.length with h0 | h0
      · exact h0
      · obtain ⟨_, _, e, _, hr⟩ := h
        injection e with e1
        obtain ⟨_, _, e2, _⟩ := hr h0
        rw [← e1] at e2; cases e2
    have hl' : l = [] := List.eq_nil_of_length_eq_zero hl
    subst hl'
    clear h hl
    have hq := fun W : World => Lib.run_eql_slice_nil (P := Tryd.prog) W 26 41 none 0 c 0 0 Tryd.underlying26
    go_enter Tryd.func94, Tryd.ntmps94
    go_wp2_with fail
    go_ret
    exact ⟨_, [], rfl, .nil, Grow.refl _, rfl, fun i a h => by simp at h⟩
  | some ad =>
    have g0 : Grow w (w.alloc (.cells #[] 41)) := (Grow.refl w).alloc _
    have hr : Reads (fun _ => NoteR W0) 5 (w.alloc (.cells #[] 41)) (.slice (some ad) l.length c) l := by
      obtain ⟨a', c', e, h1, h2⟩ := h
      exact ⟨a', c', e, h1, h2.grow g0⟩
    have HRD := Lib.hid hr
    have hq := fun W : World => Lib.run_eql_slice_nil (P := Tryd.prog) W 26 41 (some ad) l.length c 0 0 Tryd.underlying26
    have hsz : (w.alloc (.cells #[] 41)).heap.size = w.heap.size + 1 := Array.size_push _
    have HSZ := Lib.hid hsz
    have HG := Lib.hid g0
    clear h hr hsz g0
    go_enter Tryd.func94, Tryd.ntmps94
    go_wp2_with (at_builtin; refine app_Rd (R := fun _ => NoteR W0) (l := l) (base := w.heap.size) rfl _ _ 26 rfl 41 i0 _ 5 80 Tryd.underlying26 hi hz0 hz1 hz2 rfl (by decide) (.slice (some ⟨w.heap.size, 0, none⟩) 0 0) (.slice (some ad) l.length c) 0 [] rfl _ ?_ ?_ rfl ?_ (fun a cs hh => one_note W0 a cs hh) ?_ (by decide) ?_; exact empty_row w _ _ _; (rw [HSZ.out]; omega); exact HRD.out; omega; intro v' w' hout; have HO := Lib.hid hout; clear hout)
    go_ret
    obtain ⟨news, h1, h2, h3, h4, h5⟩ := HO.out
    rw [Nat.zero_add, List.nil_append] at h1
    refine ⟨_, news, rfl, h1, HG.out.trans (Below.grown (Grow.refl _) h2 (Nat.le_refl _) (fun b hb => by cases hb)), h4, h5⟩
set_option maxRecDepth 100000 in
set_option maxHeartbeats 1000000 in
theorem clone_texts (W0 : World) (v : Value) (l : List ByteArray) (w : World) (h : Reads (fun _ => TextR W0) 1 w v l) (hz : l.length ≤ 1000000) :
    Calls Tryd.prog 95 #[v] w (RetClone (fun _ => TextR W0) 9 1 w l) := by
  obtain ⟨i0, hi, hz0, hz1, hz2⟩ := info_parts info_text
  obtain ⟨a, c, rfl⟩ := h.mk
  cases a with
  | none =>
    have hl : l.length = 0 := by
      rcases Nat.eq_zero_or_pos l.length with h0 | h0
      · exact h0
      · obtain ⟨_, _, e, _, hr⟩ := h
        injection e with e1
        obtain ⟨_, _, e2, _⟩ := hr h0
        rw [← e1] at e2; cases e2
    have hl' : l = [] := List.eq_nil_of_length_eq_zero hl
    subst hl'
    clear h hl
    have hq := fun W : World => Lib.run_eql_slice_nil (P := Tryd.prog) W 38 9 none 0 c 0 0 Tryd.underlying38
    go_enter Tryd.func95, Tryd.ntmps95
    go_wp2_with fail
    go_ret
    exact ⟨_, [], rfl, .nil, Grow.refl _, rfl, fun i a h => by simp at h⟩
  | some ad =>
    have g0 : Grow w (w.alloc (.cells #[] 9)) := (Grow.refl w).alloc _
    have hr : Reads (fun _ => TextR W0) 1 (w.alloc (.cells #[] 9)) (.slice (some ad) l.length c) l := by
      obtain ⟨a', c', e, h1, h2⟩ := h
      exact ⟨a', c', e, h1, h2.grow g0⟩
    have HRD := Lib.hid hr
    have hq := fun W : World => Lib.run_eql_slice_nil (P := Tryd.prog) W 38 9 (some ad) l.length c 0 0 Tryd.underlying38
    have hsz : (w.alloc (.cells #[] 9)).heap.size = w.heap.size + 1 := Array.size_push _
    have HSZ := Lib.hid hsz
    have HG := Lib.hid g0
    clear h hr hsz g0
    go_enter Tryd.func95, Tryd.ntmps95
    go_wp2_with (at_builtin; refine app_Rd (R := fun _ => TextR W0) (l := l) (base := w.heap.size) rfl _ _ 38 rfl 9 i0 _ 1 16 Tryd.underlying38 hi hz0 hz1 hz2 rfl (by decide) (.slice (some ⟨w.heap.size, 0, none⟩) 0 0) (.slice (some ad) l.length c) 0 [] rfl _ ?_ ?_ rfl ?_ (fun a cs hh => one_text W0 a cs hh) ?_ (by decide) ?_; exact empty_row w _ _ _; (rw [HSZ.out]; omega); exact HRD.out; omega; intro v' w' hout; have HO := Lib.hid hout; clear hout)
    go_ret
    obtain ⟨news, h1, h2, h3, h4, h5⟩ := HO.out
    rw [Nat.zero_add, List.nil_append] at h1
    refine ⟨_, news, rfl, h1, HG.out.trans (Below.grown (Grow.refl _) h2 (Nat.le_refl _) (fun b hb => by cases hb)), h4, h5⟩
set_option maxRecDepth 100000 in
set_option maxHeartbeats 1000000 in
theorem clone_ints (W0 : World) (v : Value) (l : List Int) (w : World) (h : Reads (fun _ => IntR W0) 1 w v l) (hz : l.length ≤ 1000000) :
    Calls Tryd.prog 96 #[v] w (RetClone (fun _ => IntR W0) 3 1 w l) := by
  obtain ⟨i0, hi, hz0, hz1, hz2⟩ := info_parts info_int
  obtain ⟨a, c, rfl⟩ := h.mk
  cases a with
  | none =>
    have hl : l.length = 0 := by
      rcases Nat.eq_zero_or_pos l.length with h0 | h0
      · exact h0
      · obtain ⟨_, _, e, _, hr⟩ := h
        injection e with e1
        obtain ⟨_, _, e2, _⟩ := hr h0
        rw [← e1] at e2; cases e2
    have hl' : l = [] := List.eq_nil_of_length_eq_zero hl
    subst hl'
    clear h hl
    have hq := fun W : World => Lib.run_eql_slice_nil (P := Tryd.prog) W 39 3 none 0 c 0 0 Tryd.underlying39
    go_enter Tryd.func96, Tryd.ntmps96
    go_wp2_with fail
    go_ret
    exact ⟨_, [], rfl, .nil, Grow.refl _, rfl, fun i a h => by simp at h⟩
  | some ad =>
    have g0 : Grow w (w.alloc (.cells #[] 3)) := (Grow.refl w).alloc _
    have hr : Reads (fun _ => IntR W0) 1 (w.alloc (.cells #[] 3)) (.slice (some ad) l.length c) l := by
      obtain ⟨a', c', e, h1, h2⟩ := h
      exact ⟨a', c', e, h1, h2.grow g0⟩
    have HRD := Lib.hid hr
    have hq := fun W : World => Lib.run_eql_slice_nil (P := Tryd.prog) W 39 3 (some ad) l.length c 0 0 Tryd.underlying39
    have hsz : (w.alloc (.cells #[] 3)).heap.size = w.heap.size + 1 := Array.size_push _
    have HSZ := Lib.hid hsz
    have HG := Lib.hid g0
    clear h hr hsz g0
    go_enter Tryd.func96, Tryd.ntmps96
    go_wp2_with (at_builtin; refine app_Rd (R := fun _ => IntR W0) (l := l) (base := w.heap.size) rfl _ _ 39 rfl 3 i0 _ 1 8 Tryd.underlying39 hi hz0 hz1 hz2 rfl (by decide) (.slice (some ⟨w.heap.size, 0, none⟩) 0 0) (.slice (some ad) l.length c) 0 [] rfl _ ?_ ?_ rfl ?_ (fun a cs hh => one_int W0 a cs hh) ?_ (by decide) ?_; exact empty_row w _ _ _; (rw [HSZ.out]; omega); exact HRD.out; omega; intro v' w' hout; have HO := Lib.hid hout; clear hout)
    go_ret
    obtain ⟨news, h1, h2, h3, h4, h5⟩ := HO.out
    rw [Nat.zero_add, List.nil_append] at h1
    refine ⟨_, news, rfl, h1, HG.out.trans (Below.grown (Grow.refl _) h2 (Nat.le_refl _) (fun b hb => by cases hb)), h4, h5⟩
end Go.Proofs.YtnajccljdjllgaaDoor
