/- Which shelves may be, told with quantifiers. -/
import Derived.Test.YtnajccljdjllgaaDoorMay
set_option linter.unusedVariables false
set_option linter.unusedSimpArgs false
namespace Go.Proofs.YtnajccljdjllgaaDoor
open Go.RowKit Go.Lib
theorem pair_adj {α : Type} {R : α → α → Prop} (ht : ∀ x y z, R x y → R y z → R x z) : ∀ l : List α, (∀ (i : Nat) x y, l[i]? = some x → l[i + 1]? = some y → R x y) → l.Pairwise R
  | [], _ => .nil
  | [x], _ => by simp
  | x :: y :: l, h => by
    have ih := pair_adj ht (y :: l) (fun i a b ha hb => h (i + 1) a b (by simpa using ha) (by simpa using hb))
    refine List.pairwise_cons.2 ⟨fun z hz => ?_, ih⟩
    rcases List.mem_cons.1 hz with rfl | hz
    · exact h 0 x z rfl rfl
    · exact ht x y z (h 0 x y rfl rfl) ((List.pairwise_cons.1 ih).1 z hz)
theorem pair_get {α : Type} {R : α → α → Prop} {l : List α} (h : l.Pairwise R) {i j : Nat} {x y : α} (hi : l[i]? = some x) (hj : l[j]? = some y) (hij : i < j) : R x y := by
  obtain ⟨h1, rfl⟩ := List.getElem?_eq_some_iff.1 hi
  obtain ⟨h2, rfl⟩ := List.getElem?_eq_some_iff.1 hj
  exact List.pairwise_iff_getElem.1 h i j h1 h2 hij
theorem pair_of {α : Type} {R : α → α → Prop} {l : List α} (h : ∀ (i j : Nat) x y, i < j → l[i]? = some x → l[j]? = some y → R x y) : l.Pairwise R :=
  List.pairwise_iff_getElem.2 fun i j hi hj hij => h i j _ _ hij (List.getElem?_eq_getElem hi) (List.getElem?_eq_getElem hj)
theorem idx_neg {α : Type} {p : α → Bool} {l : List α} : idx p l < 0 ↔ ∀ x ∈ l, p x = false := by
  constructor
  · intro h x hx
    cases e : p x with
    | false => rfl
    | true =>
      exfalso
      induction l with
      | nil => cases hx
      | cons y l ih =>
        unfold idx at h
        have hb := idx_bd p l
        split at h
        · omega
        · rename_i hy
          rcases List.mem_cons.1 hx with rfl | hx
          · exact hy e
          · split at h
            · rename_i hh
              exact ih (by omega) hx
            · omega
  · intro h
    rw [idx_none fun j x hx => h x (List.mem_of_getElem? hx)]
    omega
theorem toList_ne {a b : ByteArray} : (a.toList == b.toList) = false ↔ a ≠ b := by
  rw [beq_eq_false_iff_ne]
  exact ⟨fun h e => h (by rw [e]), fun h e => h (eq_of_tl e)⟩
theorem toList_eq {a b : ByteArray} : (a.toList == b.toList) = true ↔ a = b := by
  rw [beq_iff_eq]
  exact ⟨eq_of_tl, fun e => by rw [e]⟩
theorem sheetsOk_iff (ns : Int) : ∀ (l S : List Int), sheetsOk ns S l = true ↔ l.Nodup ∧ (∀ x ∈ l, x ∉ S) ∧ ∀ x ∈ l, 1 ≤ x ∧ x ≤ ns - 1
  | [], S => by simp [sheetsOk]
  | x :: l, S => by
    rw [sheetsOk, Bool.and_eq_true, Bool.and_eq_true, Bool.and_eq_true, sheetsOk_iff ns l (x :: S)]
    simp only [Bool.not_eq_true', decide_eq_false_iff_not, decide_eq_true_eq, List.nodup_cons, List.mem_cons, forall_eq_or_imp, not_or]
    constructor
    · rintro ⟨⟨h1, h2⟩, h3, h4, h5⟩
      exact ⟨⟨fun hx => (h4 x hx).1 rfl, h3⟩, ⟨h1, fun y hy => (h4 y hy).2⟩, h2, h5⟩
    · rintro ⟨⟨h1, h2⟩, ⟨h3, h4⟩, h5, h6⟩
      exact ⟨⟨h3, h5⟩, h2, fun y hy => ⟨fun e => h1 (e ▸ hy), h4 y hy⟩, h6⟩
structure MayP (s : Shelf) : Prop where
  nb : 1 ≤ s.nb ∧ s.nb ≤ 65536
  nn : 1 ≤ s.nn ∧ s.nn ≤ 65536
  ns : 1 ≤ s.ns ∧ s.ns ≤ 4096
  bl : s.books.length ≤ 6
  nl : s.notes.length ≤ 12
  bid : ∀ b ∈ s.books, 1 ≤ b.id ∧ b.id ≤ s.nb - 1
  bmay : ∀ b ∈ s.books, mayB b.name = true
  binc : s.books.Pairwise fun a b => a.id < b.id
  bnew : s.books.Pairwise fun a b => a.name ≠ b.name
  nid : ∀ n ∈ s.notes, 1 ≤ n.id ∧ n.id ≤ s.nn - 1
  nmay : ∀ n ∈ s.notes, mayB n.name = true
  nbook : ∀ n ∈ s.notes, ∃ b ∈ s.books, b.id = n.book
  ninc : s.notes.Pairwise fun a b => a.id < b.id
  nnew : s.notes.Pairwise fun a b => ¬ (a.book = b.book ∧ a.name = b.name)
  tmay : ∀ n ∈ s.notes, ∀ t ∈ n.tags, mayB t = true
  tinc : ∀ n ∈ s.notes, n.tags.Pairwise fun a b => ltS a b = true
  tl : ∀ n ∈ s.notes, n.tags.length ≤ 4
  sl : ∀ n ∈ s.notes, n.sheets.length ≤ 8
  sid : ∀ x ∈ s.notes.flatMap (·.sheets), 1 ≤ x ∧ x ≤ s.ns - 1
  snew : (s.notes.flatMap (·.sheets)).Nodup
theorem allTo_get {n : Nat} {p : Nat → Bool} (h : allTo n p = true) {i : Nat} (hi : i < n) : p i = true := allTo_iff.1 h i hi
theorem tagsB_iff {l : List ByteArray} : tagsB l = true ↔ (∀ t ∈ l, mayB t = true) ∧ (l.Pairwise fun a b => ltS a b = true) ∧ l.length ≤ 4 := by
  unfold tagsB
  rw [Bool.and_eq_true, decide_eq_true_eq, allTo_iff]
  constructor
  · rintro ⟨h, h4⟩
    refine ⟨fun t ht => ?_, pair_adj (R := fun a b => ltS a b = true) (fun x y z h1 h2 => ltS_trans h1 h2) l fun i x y hx hy => ?_, h4⟩
    · obtain ⟨i, hi⟩ := List.getElem?_of_mem ht
      have := h i (List.getElem?_eq_some_iff.1 hi).1
      unfold tagOk at this
      rw [Bool.and_eq_true, getD_of hi] at this
      exact this.1
    · have := h (i + 1) (List.getElem?_eq_some_iff.1 hy).1
      unfold tagOk at this
      rw [Bool.and_eq_true, getD_of hy, Nat.add_sub_cancel, getD_of hx] at this
      simpa using this.2
  · rintro ⟨h1, h2, h3⟩
    refine ⟨fun i hi => ?_, h3⟩
    obtain ⟨x, hx, -⟩ := lt_get hi
    unfold tagOk
    rw [Bool.and_eq_true, getD_of hx]
    refine ⟨h1 x (List.mem_of_getElem? hx), ?_⟩
    cases i with
    | zero => rfl
    | succ i =>
      obtain ⟨y, hy, -⟩ := lt_get (show i < l.length by omega)
      rw [Nat.add_sub_cancel, getD_of hy, pair_get h2 hy hx (by omega)]; simp
theorem idx_nonneg {α : Type} {p : α → Bool} {l : List α} : 0 ≤ idx p l ↔ ∃ x ∈ l, p x = true := by
  constructor
  · intro h
    apply Classical.byContradiction
    intro hn
    have : idx p l < 0 := idx_neg.2 fun x hx => by
      cases e : p x with
      | false => rfl
      | true => exact absurd ⟨x, hx, e⟩ hn
    omega
  · rintro ⟨x, hx, hp⟩
    apply Classical.byContradiction
    intro hn
    have := idx_neg.1 (show idx p l < 0 by omega) x hx
    rw [hp] at this; cases this
theorem mayS_iff {s : Shelf} : mayS s = true ↔ MayP s := by
  unfold mayS mayHead
  simp only [Bool.and_eq_true, decide_eq_true_eq, sheetsOk_iff, allTo_iff]
  constructor
  · rintro ⟨⟨⟨⟨⟨⟨⟨h1, h2⟩, h3⟩, h4⟩, h5⟩, hB⟩, hN⟩, h6, -, h7⟩
    have gB : ∀ (i : Nat) b, s.books[i]? = some b → ((1 ≤ b.id ∧ b.id ≤ s.nb - 1) ∧ mayB b.name = true) ∧ (∀ j a, j < i → s.books[j]? = some a → a.name ≠ b.name) ∧ (∀ a, s.books[i - 1]? = some a → i ≠ 0 → a.id < b.id) := fun i b hb => by
      have := hB i (List.getElem?_eq_some_iff.1 hb).1
      unfold bookOk at this
      simp only [Bool.and_eq_true, decide_eq_true_eq, bookAt, getD_of hb] at this
      obtain ⟨⟨⟨t1, t2⟩, t3⟩, t4⟩ := this
      refine ⟨⟨t1, t3⟩, fun j a hj ha => ?_, fun a ha h0 => ?_⟩
      · have := idx_neg.1 t4 a (List.mem_of_getElem? (i := j) (by rw [List.getElem?_take_of_lt hj]; exact ha))
        exact toList_ne.1 this
      · rw [getD_of ha] at t2
        simpa [h0] using t2
    have gN : ∀ (i : Nat) n, s.notes[i]? = some n → ((1 ≤ n.id ∧ n.id ≤ s.nn - 1) ∧ mayB n.name = true) ∧ (∃ b ∈ s.books, b.id = n.book) ∧ tagsB n.tags = true ∧ n.sheets.length ≤ 8 ∧ (∀ j a, j < i → s.notes[j]? = some a → ¬ (a.book = n.book ∧ a.name = n.name)) ∧ (∀ a, s.notes[i - 1]? = some a → i ≠ 0 → a.id < n.id) := fun i n hn => by
      have := hN i (List.getElem?_eq_some_iff.1 hn).1
      unfold noteOk noteHead noteNew at this
      simp only [Bool.and_eq_true, decide_eq_true_eq, noteAt, getD_of hn] at this
      obtain ⟨⟨⟨⟨⟨⟨t1, t2⟩, t3⟩, t4⟩, t5⟩, t6⟩, t7⟩ := this
      refine ⟨⟨t1, t3⟩, ?_, t5, t6, fun j a hj ha => ?_, fun a ha h0 => ?_⟩
      · obtain ⟨b, hb, e⟩ := idx_nonneg.1 t4
        exact ⟨b, hb, by simpa using e⟩
      · have := allTo_get t7 hj
        rw [getD_of ha] at this
        rintro ⟨e1, e2⟩
        rw [e1, e2] at this
        simp at this
      · rw [getD_of ha] at t2
        simpa [h0] using t2
    have inc : ∀ {α : Type} {l : List α} {f : α → Int}, (∀ (i : Nat) b, l[i]? = some b → ∀ a, l[i - 1]? = some a → i ≠ 0 → f a < f b) → l.Pairwise fun a b => f a < f b := fun h =>
      pair_adj (fun x y z h1 h2 => by omega) _ fun i x y hx hy => h (i + 1) y hy x (by simpa using hx) (by omega)
    have mB : ∀ {p : Book → Prop}, (∀ (i : Nat) b, s.books[i]? = some b → p b) → ∀ b ∈ s.books, p b := fun h b hb => by
      obtain ⟨i, hi⟩ := List.getElem?_of_mem hb; exact h i b hi
    have mN : ∀ {p : Note → Prop}, (∀ (i : Nat) b, s.notes[i]? = some b → p b) → ∀ b ∈ s.notes, p b := fun h b hb => by
      obtain ⟨i, hi⟩ := List.getElem?_of_mem hb; exact h i b hi
    exact {
      nb := h1, nn := h2, ns := h3, bl := h4, nl := h5
      bid := mB fun i b hb => (gB i b hb).1.1
      bmay := mB fun i b hb => (gB i b hb).1.2
      binc := inc fun i b hb => (gB i b hb).2.2
      bnew := pair_of fun i j x y hij hx hy => (gB j y hy).2.1 i x hij hx
      nid := mN fun i b hb => (gN i b hb).1.1
      nmay := mN fun i b hb => (gN i b hb).1.2
      nbook := mN fun i b hb => (gN i b hb).2.1
      ninc := inc fun i b hb => (gN i b hb).2.2.2.2.2
      nnew := pair_of fun i j x y hij hx hy => (gN j y hy).2.2.2.2.1 i x hij hx
      tmay := mN fun i b hb => (tagsB_iff.1 (gN i b hb).2.2.1).1
      tinc := mN fun i b hb => (tagsB_iff.1 (gN i b hb).2.2.1).2.1
      tl := mN fun i b hb => (tagsB_iff.1 (gN i b hb).2.2.1).2.2
      sl := mN fun i b hb => (gN i b hb).2.2.2.1
      sid := h7, snew := h6 }
  · intro h
    refine ⟨⟨⟨⟨⟨⟨⟨h.nb, h.nn⟩, h.ns⟩, h.bl⟩, h.nl⟩, fun i hi => ?_⟩, fun i hi => ?_⟩, h.snew, fun x _ => by simp, h.sid⟩
    · obtain ⟨b, hb, -⟩ := lt_get hi
      have hm := List.mem_of_getElem? hb
      unfold bookOk
      simp only [Bool.and_eq_true, decide_eq_true_eq, bookAt, getD_of hb]
      refine ⟨⟨⟨h.bid b hm, ?_⟩, h.bmay b hm⟩, idx_neg.2 fun a ha => ?_⟩
      · cases i with
        | zero => rfl
        | succ i =>
          obtain ⟨a, ha, -⟩ := lt_get (show i < s.books.length by omega)
          rw [Nat.add_sub_cancel, getD_of ha]
          have := pair_get h.binc ha hb (by omega)
          simp [this]
      · obtain ⟨j, hj⟩ := List.getElem?_of_mem ha
        rw [List.getElem?_take] at hj
        split at hj
        · rename_i hlt
          exact toList_ne.2 (pair_get h.bnew hj hb hlt)
        · cases hj
    · obtain ⟨n, hn, -⟩ := lt_get hi
      have hm := List.mem_of_getElem? hn
      unfold noteOk noteHead noteNew
      simp only [Bool.and_eq_true, decide_eq_true_eq, noteAt, getD_of hn]
      refine ⟨⟨⟨⟨⟨⟨h.nid n hm, ?_⟩, h.nmay n hm⟩, ?_⟩, tagsB_iff.2 ⟨h.tmay n hm, h.tinc n hm, h.tl n hm⟩⟩, h.sl n hm⟩, allTo_yes fun j hj => ?_⟩
      · cases i with
        | zero => rfl
        | succ i =>
          obtain ⟨a, ha, -⟩ := lt_get (show i < s.notes.length by omega)
          rw [Nat.add_sub_cancel, getD_of ha]
          have := pair_get h.ninc ha hn (by omega)
          simp [this]
      · obtain ⟨b, hb, e⟩ := h.nbook n hm
        exact idx_nonneg.2 ⟨b, hb, by simp [e]⟩
      · obtain ⟨a, ha, -⟩ := lt_get (show j < s.notes.length by omega)
        have := pair_get h.nnew ha hn hj
        rw [getD_of ha]
        cases e : (a.book == n.book && a.name.toList == n.name.toList) with
        | false => rfl
        | true =>
          rw [Bool.and_eq_true, beq_iff_eq, toList_eq] at e
          exact absurd e this
end Go.Proofs.YtnajccljdjllgaaDoor
