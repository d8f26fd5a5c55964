/- Rows of the call's own under the library's sorts and deletions: items, texts, numbers. -/
import Derived.Test.YtnajccljdjllgaaDoorShelf2
import Derived.Test.YtnajccljdjllgaaDoorItem
import Derived.Test.YtnajccljdjllgaaDoorDelG
import Derived.Test.YtnajccljdjllgaaDoorSt
set_option linter.unusedVariables false
set_option linter.unusedSimpArgs false
namespace Go.Proofs.YtnajccljdjllgaaDoor
open Go.RowKit Go.Lib Go.Sort
/-- A block's cells are laid anew. -/
theorem mapB {base k n c b : Nat} {e : TypeId} {xs xs' : List Value} {w : World} (h : RowO base e k (.slice (some ⟨b, 0, none⟩) n (c + 1)) n xs w) (f : Array Value → Array Value) (hs : ∀ cs, (f cs).size = cs.size)
    (hx : ∀ cs : Array Value, cs.toList.take (n * k) = xs → n * k ≤ cs.size → (f cs).toList.take (n * k) = xs') (hl : xs'.length = n * k) :
    RowO base e k (.slice (some ⟨b, 0, none⟩) n (c + 1)) n xs' (mapBlock w b f) ∧ Turned b w (mapBlock w b f) := by
  have ht : Turned b w (mapBlock w b f) := ⟨rfl, rfl, rfl, by unfold mapBlock; simp, fun i _ hb => by unfold mapBlock; simp [Array.getElem?_modify, Ne.symm hb]⟩
  rcases h with ⟨h1, ⟨h2, -⟩ | ⟨g, cap, cur, e2, h3, h4, h5, h6, h7, h8⟩⟩ | ⟨-, -, a, e2⟩
  · cases h2
  · injection e2 with e2 e3 e4
    injection e2 with e2
    injection e2 with e2
    subst e2 e4
    have hm : n * k ≤ (c + 1) * k := Nat.mul_le_mul_right k h5
    refine ⟨.inl ⟨hl, .inr ⟨b, c + 1, f cur, rfl, h3, ?_, h5, h6, by rw [hs, h7], hx cur h8 (by omega)⟩⟩, ht⟩
    unfold mapBlock
    simp [Array.getElem?_modify, h4, onCells]
  · injection e2 with _ _ e2
    omega
theorem putCells_size {α : Type} [Inhabited α] (enc : α → Value) (off : Nat) (d : Array α) (c : Array Value) : (putCells enc off d c).size = c.size := by unfold putCells; simp
theorem putCells_take {α : Type} [Inhabited α] (enc : α → Value) (d : Array α) (c : Array Value) (h : d.size ≤ c.size) : (putCells enc 0 d c).toList.take d.size = d.toList.map enc := by
  apply List.ext_getElem?
  intro j
  rw [List.getElem?_take]
  by_cases hj : j < d.size
  · rw [if_pos hj, Array.getElem?_toList, List.getElem?_map, Array.getElem?_toList]
    unfold putCells
    rw [Array.getElem?_mapIdx, Array.getElem?_eq_getElem (by omega), Array.getElem?_eq_getElem hj]
    simp [hj]
  · rw [if_neg hj, List.getElem?_eq_none (by simp; omega)]
theorem grow_turned (b : Nat) (w : World) (os : Array Obj) : Turned b w (grow w os) := ⟨rfl, rfl, rfl, by unfold grow; simp, fun i hi _ => by unfold grow; exact Array.getElem?_append_left hi⟩
theorem ahead_turned (b : Nat) (w : World) (n : Nat) : Turned b w (Sort.ahead w n) := ⟨rfl, rfl, rfl, by simp, fun i hi _ => by simp⟩
/-- A row is laid anew by a sort. -/
theorem row_sorted {α : Type} [Inhabited α] (enc : α → Value) {base k n c b : Nat} {e : TypeId} {xs : List Value} {w : World} (h : RowO base e k (.slice (some ⟨b, 0, none⟩) n (c + 1)) n xs w) (hlt : b < w.heap.size) (d : Array α) (hd : d.size = n * k) (m : Nat) (os : Array Obj) :
    RowO base e k (.slice (some ⟨b, 0, none⟩) n (c + 1)) n (d.toList.map enc) (grow (putRow enc (Sort.ahead w m) b 0 d) os) ∧ Turned b w (grow (putRow enc (Sort.ahead w m) b 0 d) os) := by
  have t0 := ahead_turned b w m
  have h0 : RowO base e k (.slice (some ⟨b, 0, none⟩) n (c + 1)) n xs (Sort.ahead w m) := h.kept_of fun g _ => by simp
  obtain ⟨h1, t1⟩ := mapB (xs' := d.toList.map enc) h0 (putCells enc 0 d) (putCells_size enc 0 d) (fun cs _ hc => by rw [← hd]; exact putCells_take enc d cs (by omega)) (by simp [hd])
  have t2 := grow_turned b (putRow enc (Sort.ahead w m) b 0 d) os
  refine ⟨h1.kept_of fun g hg => ?_, (t0.trans t1).trans t2⟩
  have := h1.blk_lt hg
  unfold grow
  exact Array.getElem?_append_left this
/-! Items, by name. -/
theorem ltOf_item (a b : Item) : ltOf (fun x y : Item => cmpS x.name y.name) a b = ltS a.name b.name := by
  unfold ltOf cmpS
  cases h1 : ltS a.name b.name
  · cases h2 : ltS b.name a.name <;> simp [h1, h2]
  · simp [h1]
theorem ltS_ntrans {a b c : ByteArray} (h1 : ltS a b = false) (h2 : ltS b c = false) : ltS a c = false := by
  cases h : ltS a c with
  | false => rfl
  | true =>
    cases h3 : ltS b a with
    | true => rw [ltS_trans h3 h] at h2; cases h2
    | false =>
      have := ltS_total h1 h3
      subst this
      rw [h] at h2; cases h2
theorem item_swo : SWO (ltOf (fun x y : Item => cmpS x.name y.name)) :=
  ⟨fun x => by rw [ltOf_item]; exact ltS_irrefl _, fun x y z h1 h2 => by rw [ltOf_item] at *; exact ltS_trans h1 h2, fun x y z h1 h2 => by rw [ltOf_item] at *; exact ltS_ntrans h1 h2⟩
set_option maxRecDepth 100000 in
theorem byName_any (x y : Item) (w : World) : Calls Tryd.prog 63 #[.agg #[.int .i64 x.id, .string x.name], .agg #[.int .i64 y.id, .string y.name]] w fun e w' => e = .returned (.int .i64 (cmpS x.name y.name)) ∧ ∃ os, w' = grow w os := by
  have c1 := cmpS_any x.name y.name
  go_enter Tryd.func63, Tryd.ntmps63
  go_wp2_with fail
  refine (c1 _).mono ?_
  rintro e w1 ⟨rfl, rfl⟩
  go_wp2_with fail
  go_ret
  refine ⟨rfl, #[.cells #[.int .i64 x.id, .string x.name] 63] ++ #[.cells #[.int .i64 y.id, .string y.name] 63], ?_⟩
  rw [alloc_eq_grow, alloc_eq_grow, grow_grow]
theorem flatK_item (l : List Item) : (flatK itemC 2 l.toArray).toList = l.flatMap itemC := by
  apply List.ext_getElem?
  intro j
  have hl : (l.flatMap itemC).length = l.length * 2 := flat_len itemC (fun _ => rfl) l
  by_cases hj : j < l.length * 2
  · have hd : j = j / 2 * 2 + j % 2 := by omega
    have hq : j / 2 < l.length := by omega
    have hm : j % 2 < 2 := Nat.mod_lt _ (by decide)
    have g1 := flat_get itemC (fun _ => rfl) l (j / 2) (j % 2) l[j / 2] (List.getElem?_eq_getElem hq) hm
    rw [← hd] at g1
    rw [g1, Array.getElem?_toList, Array.getElem?_eq_getElem (by simp; omega)]
    have := get_flatK itemC 2 l.toArray j (by simpa using hj)
    rw [getElem!_pos _ _ (by simp; omega)] at this
    rw [this]
    have e1 : l.toArray[j / 2]! = l[j / 2] := by simp [hq]
    rw [e1]
    have hm2 : j % 2 < (itemC l[j / 2]).length := hm
    rw [List.getElem?_eq_getElem hm2, List.getElem!_eq_getElem?_getD, List.getElem?_eq_getElem hm2]
    rfl
  · rw [List.getElem?_eq_none (by simp; omega), List.getElem?_eq_none (by omega)]
/-- What a row of items holds, to the sort. -/
theorem holds_of_row {α : Type} [Inhabited α] (enc : α → Value) {base n c b k : Nat} {e : TypeId} {w : World} {d : Array α} (h : RowO base e k (.slice (some ⟨b, 0, none⟩) n c) n (d.toList.map enc) w) : Holds enc w b 0 d := fun j hj => by
  have hc : (d.toList.map enc)[j]? = some (enc d[j]!) := by
    have e : d[j]! = d[j]'hj := by simp [hj]
    rw [e, List.getElem?_map, Array.getElem?_toList, Array.getElem?_eq_getElem hj]; rfl
  obtain ⟨b', c', e1, h1, h2, -⟩ := h.cell hc
  injection e1 with e1
  injection e1 with e1
  injection e1 with e1
  subst e1
  rw [Nat.zero_add]
  exact ⟨h1, h2⟩
set_option maxRecDepth 100000 in
theorem sortItems_any (base : Nat) (v : Value) (l : List Item) (w : World) (h : RowO base 63 2 v l.length (l.flatMap itemC) w) (hz : l.length ≤ 1000000) :
    Calls Tryd.prog 62 #[v, .func (.func 63) #[] #[]] w fun e w' => e = .returned (.tuple #[]) ∧ ∃ l' : List Item, l'.Perm l ∧ l'.Pairwise (fun a b => ltS b.name a.name = false) ∧ RowO base 63 2 v l'.length (l'.flatMap itemC) w' ∧ w.grownBy w' (blkOf v) := by
  obtain ⟨a, c, rfl, hc⟩ := h.slice
  by_cases h0 : l.length = 0
  · have hl : l = [] := List.eq_nil_of_length_eq_zero h0
    subst hl
    refine (AnyF.slices_SortFunc_none Tryd.sortItems a c (.func (.func 63) #[] #[]) w).mono ?_
    rintro e w' ⟨rfl, rfl⟩
    exact ⟨rfl, [], .nil, .nil, h, World.grownBy.refl _ _⟩
  · obtain ⟨b, cc, hbc⟩ : ∃ b cc, (Value.slice a l.length c) = .slice (some ⟨b, 0, none⟩) l.length (cc + 1) := by
      obtain ⟨x, hx, -⟩ := lt_get (l := l) (i := 0) (by omega)
      obtain ⟨u, hu⟩ : ∃ u, (l.flatMap itemC)[0 * 2 + 0]? = some u := ⟨_, (flat_get itemC (fun _ => rfl) l 0 0 x hx (by decide)).trans rfl⟩
      obtain ⟨b, c', e, -⟩ := h.cell hu
      injection e with e1 e2 e3
      cases c with
      | zero => omega
      | succ c => exact ⟨b, c, by rw [e1]⟩
    injection hbc with e1 e2 e3
    subst e1 e3
    have hlt := h.blk_lt (g := b) rfl
    have hK : HoldsK itemC 2 w b 0 l.toArray := holds_of_row id (k := 2) (by rw [flatK_item, List.map_id]; exact h)
    have hcmp : CmpLays Tryd.prog 63 #[] itemC 2 (fun x y : Item => cmpS x.name y.name) b 0 l.toArray.size w := fun m os dk _ x y => (byName_any x y _).mono fun e w' ⟨h1, os', h2⟩ => ⟨h1, 0, os', h2⟩
    have hS := AnyQ.slices_SortFunc Tryd.sortItems 2 (fun _ => by kernel_rfl) (fun _ => by kernel_rfl) itemC (fun _ => rfl) (fun x v hv => by simp at hv; rcases hv with rfl | rfl <;> rfl) (fun x y : Item => cmpS x.name y.name) item_swo 63 #[] b 0 (cc + 1) l.toArray w (fun _ _ => rfl) hcmp hK hlt (by simp; omega)
    rw [List.size_toArray] at hS
    refine hS.mono ?_
    rintro e w' ⟨rfl, d', m, os, ⟨hp1, -, hp3⟩, hs, rfl⟩
    rw [List.size_toArray] at hp1
    have hd : d' = d'.toList.toArray := by simp
    have hn : d'.toList.length = l.length := by simpa using hp1
    have hn2 : d'.size = l.length := hp1
    have hF : (flatK itemC 2 d').size = l.length * 2 := by rw [size_flatK, hn2]
    obtain ⟨r1, r2⟩ := row_sorted id (k := 2) h hlt (flatK itemC 2 d') hF m os
    refine ⟨rfl, d'.toList, ?_, ?_, ?_, ⟨r2.os, r2.tape, r2.output, r2.size, fun k hk hne => r2.block k hk fun e => hne (by rw [e]; rfl)⟩⟩
    · have h1 : d'.extract 0 l.length = d' := by rw [← hn2]; simp
      have h2 : l.toArray.extract 0 l.length = l.toArray := by simp
      rw [h1, h2] at hp3
      simpa using hp3
    · rw [List.pairwise_iff_getElem]
      intro i j hi hj hij
      have := hs i j (Nat.zero_le _) hij (by simpa using (show j < l.length by simpa [hn] using hj))
      have hi2 : i < d'.size := by simpa using hi
      have hj2 : j < d'.size := by simpa using hj
      have ei : d'[i]! = d'[i]'hi2 := by simp [hi2]
      have ej : d'[j]! = d'[j]'hj2 := by simp [hj2]
      rw [ltOf_item, ei, ej] at this
      simpa using this
    · rw [hn]
      rw [List.map_id] at r1
      have e3 : (flatK itemC 2 d').toList = d'.toList.flatMap itemC := by rw [hd]; simpa using flatK_item d'.toList
      rw [← e3]
      exact r1
/-! Texts. -/
theorem encStr_of (t : ByteArray) : encStr t.data.toList = .string t := by simp [encStr]
def tx (l : List UInt8) : ByteArray := ⟨l.toArray⟩
theorem tx_of (t : ByteArray) : tx t.data.toList = t := by simp [tx]
theorem sortTexts_any (base : Nat) (v : Value) (l : List ByteArray) (w : World) (h : RowO base 9 1 v l.length (strC l) w) (hz : l.length ≤ 1000000) :
    Calls Tryd.prog 88 #[v] w fun e w' => e = .returned (.tuple #[]) ∧ ∃ l' : List ByteArray, l'.Perm l ∧ l'.Pairwise (fun a b => ltS b a = false) ∧ RowO base 9 1 v l'.length (strC l') w' ∧ w.grownBy w' (blkOf v) := by
  obtain ⟨a, c, rfl, hc⟩ := h.slice
  by_cases h0 : l.length = 0
  · have hl : l = [] := List.eq_nil_of_length_eq_zero h0
    subst hl
    refine (Any.slices_Sort_string_none Tryd.sortTexts a c w).mono ?_
    rintro e w' ⟨rfl, rfl⟩
    exact ⟨rfl, [], .nil, .nil, h, World.grownBy.refl _ _⟩
  · obtain ⟨b, cc, hbc⟩ : ∃ b cc, (Value.slice a l.length c) = .slice (some ⟨b, 0, none⟩) l.length (cc + 1) := by
      obtain ⟨x, hx, -⟩ := lt_get (l := l) (i := 0) (by omega)
      obtain ⟨b, c', e, -⟩ := h.cell (j := 0) (u := .string x) (by rw [List.getElem?_map, hx]; rfl)
      injection e with e1 e2 e3
      cases c with
      | zero => omega
      | succ c => exact ⟨b, c, by rw [e1]⟩
    injection hbc with e1 e2 e3
    subst e1 e3
    have hlt := h.blk_lt (g := b) rfl
    have hmap : ∀ m : List ByteArray, (m.map (fun t => t.data.toList)).map encStr = strC m := fun m => by
      rw [List.map_map]; apply List.map_congr_left; intro t _; exact encStr_of t
    have hH : Holds encStr w b 0 (l.map (fun t => t.data.toList)).toArray := holds_of_row encStr (k := 1) (by simpa [hmap] using h)
    have hS := Any.slices_Sort_string Tryd.sortTexts b 0 (cc + 1) (l.map (fun t => t.data.toList)) w hH hlt (by simp; omega)
    rw [List.length_map] at hS
    refine hS.mono ?_
    rintro e w' ⟨rfl, m, os, rfl⟩
    have hperm := List.mergeSort_perm (l.map (fun t : ByteArray => t.data.toList)) (fun x y => decide (x ≤ y))
    have hsort := List.pairwise_mergeSort (le := fun x y : List UInt8 => decide (x ≤ y)) (fun a b c h1 h2 => by simp only [decide_eq_true_eq] at *; exact List.le_trans h1 h2) (fun a b => by simp only [Bool.or_eq_true, decide_eq_true_eq]; exact List.le_total a b) (l.map (fun t : ByteArray => t.data.toList))
    generalize hM : (l.map (fun t : ByteArray => t.data.toList)).mergeSort (fun x y => decide (x ≤ y)) = M at *
    have hMl : M.length = l.length := by rw [hperm.length_eq, List.length_map]
    obtain ⟨r1, r2⟩ := row_sorted encStr (k := 1) h hlt M.toArray (by simp [hMl]) m os
    have hback : (M.map tx).Perm l := by
      have := hperm.map tx
      rw [List.map_map] at this
      have e : l.map (tx ∘ fun t : ByteArray => t.data.toList) = l := by
        conv => rhs; rw [← List.map_id l]
        apply List.map_congr_left; intro t _; exact tx_of t
      rw [e] at this; exact this
    refine ⟨rfl, M.map tx, hback, ?_, ?_, ⟨r2.os, r2.tape, r2.output, r2.size, fun k hk hne => r2.block k hk fun e => hne (by rw [e]; rfl)⟩⟩
    · rw [List.pairwise_map]
      refine hsort.imp fun {a b} hab => ?_
      rw [ltS_list]
      simp only [decide_eq_true_eq] at hab
      simp only [decide_eq_false_iff_not]
      simpa [tx] using List.not_lt.2 hab
    · rw [List.length_map, hMl]
      have e : strC (M.map tx) = M.toArray.toList.map encStr := by simp [tx, encStr]
      rw [e]; exact r1
/-! A text among others, of whoever's they are. -/
theorem hasText_any (v : Value) (l : List ByteArray) (t : ByteArray) (w : World) (h : Texts w v l) (hz : l.length ≤ 1000000) :
    Calls Tryd.prog 87 #[v, .string t] w fun e w' => e = .returned (.bool (hasT t l)) ∧ w' = w := by
  have hh : ∀ m : List ByteArray, Lib.containsS m t = hasT t m := fun m => by
    rw [Bool.eq_iff_iff, Lib.containsS_iff, hasT_iff]
  obtain ⟨a, c, rfl⟩ := h.mk
  by_cases h0 : l.length = 0
  · have hl : l = [] := List.eq_nil_of_length_eq_zero h0
    subst hl
    exact Any.slices_Contains_string_empty Tryd.hasText a c t w
  · obtain ⟨x, hx, -⟩ := lt_get (l := l) (i := 0) (by omega)
    obtain ⟨b, off, rfl, -, -⟩ := h.at hx
    have := Any.slices_Contains_string Tryd.hasText b off l.length c l t w (Nat.le_refl _) (by omega) (fun j hj => by
      obtain ⟨y, hy, -⟩ := lt_get hj
      obtain ⟨b', off', e, -, hc⟩ := h.at hy
      injection e with e
      injection e with e1 e2
      subst e1 e2
      rw [getD_of hy]; exact hc)
    rw [List.take_length, hh] at this
    exact this
/-! A number taken out. -/
theorem delInt_any (base : Nat) (v : Value) (l : List Int) (k : Nat) (w : World) (h : RowO base 3 1 v l.length (intC l) w) (hk : k < l.length) (hz : l.length ≤ 1000000) :
    Calls Tryd.prog 86 #[v, .int .i64 k, .int .i64 ((k : Int) + 1)] w fun e w' => ∃ v', e = .returned v' ∧ RowO base 3 1 v' (l.eraseIdx k).length (intC (l.eraseIdx k)) w' ∧ w.grownBy w' (blkOf v) ∧ blkOf v' = blkOf v := by
  obtain ⟨a, c, rfl, hc⟩ := h.slice
  obtain ⟨b, cc, hbc⟩ : ∃ b cc, (Value.slice a l.length c) = .slice (some ⟨b, 0, none⟩) l.length (cc + 1) := by
    obtain ⟨x, hx, -⟩ := lt_get hk
    obtain ⟨b, c', e, -⟩ := h.cell (j := k) (u := .int .i64 x) (by rw [List.getElem?_map, hx]; rfl)
    injection e with e1 e2 e3
    cases c with
    | zero => omega
    | succ c => exact ⟨b, c, by rw [e1]⟩
  injection hbc with e1 e2 e3
  subst e1 e3
  have hlt := h.blk_lt (g := b) rfl
  obtain ⟨-, cur, hcur⟩ := h.blk (g := b) rfl
  have hcm : cc + 1 ≤ 9223372036854775807 := by
    rcases h with ⟨h1, ⟨h2, -⟩ | ⟨g, cap, cur2, e2, h3, h4, h5, h6, h7, h8⟩⟩ | ⟨-, -, a, e2⟩
    · cases h2
    · injection e2 with e2 e3 e4
      subst e4
      unfold maxLen at h6; omega
    · injection e2 with _ _ e2
      omega
  have hH : Holds (Value.int .i64) w b 0 l.toArray := holds_of_row (Value.int .i64) (k := 1) (by simpa using h)
  have hD := Any.slices_Delete_int Tryd.delInts b 0 (cc + 1) k (k + 1) l w hH (by omega) hcm (by omega) (by omega)
  rw [show ((k + 1 : Nat) : Int) = (k : Int) + 1 by omega] at hD
  refine hD.mono ?_
  rintro e w' ⟨rfl, q, rfl⟩
  have hl : l.take k ++ l.drop (k + 1) = l.eraseIdx k := (List.eraseIdx_eq_take_drop_succ l k).symm
  have hel : (l.eraseIdx k).length = l.length - 1 := List.length_eraseIdx_of_lt hk
  rw [hl, show k + 1 - k = 1 by omega]
  obtain ⟨r1, r2⟩ := row_sorted (Value.int .i64) (k := 1) h hlt (l.eraseIdx k ++ List.replicate 1 0).toArray (by simp [hel]; omega) q #[]
  rw [grow_empty] at r1 r2
  refine ⟨_, rfl, ?_, ⟨r2.os, r2.tape, r2.output, r2.size, fun k hk hne => r2.block k hk fun e => hne (by rw [e]; rfl)⟩, rfl⟩
  obtain ⟨-, cur2, hcur2⟩ := r1.blk (g := b) rfl
  have := r1.cut (i := l.length - 1) hcur2 hcur2 rfl (by omega) (fun _ _ => rfl)
  rw [hel]
  have e4 : ((l.eraseIdx k ++ List.replicate 1 0).toArray.toList.map (Value.int .i64)).take ((l.length - 1) * 1) = intC (l.eraseIdx k) := by
    rw [Nat.mul_one, ← hel]; simp
  rw [e4] at this
  exact this
end Go.Proofs.YtnajccljdjllgaaDoor
