/- The sorted lists, and what is dropped with a book: plain words. -/
import Derived.Test.YtieohecgoaakmaaDoorOut
import Derived.Test.YtieohecgoaakmaaDoorItemL
set_option linter.unusedVariables false
set_option linter.unusedSimpArgs false
namespace Go.Proofs.YtieohecgoaakmaaDoor
open Go.RowKit Go.Lib
theorem self_filter {α : Type} {p : α → Bool} {l : List α} (h : ∀ x ∈ l, p x = true) : l.filter p = l := List.filter_eq_self.2 h
theorem there_of {s : Shelf} {id : Int} (h : noteE s id = 0) : foundB s id = true ∧ foundN s id = noteOf s id := ⟨by unfold foundB; rw [h]; rfl, if_pos h⟩
theorem booksI_eq {s : Shelf} (hm : mayS s = true) : booksI s = sortI (itemsB s) := if_pos hm
theorem notesI_eq {s : Shelf} {id : Int} (h : dropE s id = 0) : notesI s id = sortI (itemsN s id) := if_pos h
theorem booksI_len {s : Shelf} (hm : mayS s = true) : (booksI s).length = s.books.length := by
  rw [booksI_eq hm, (sortI_perm _).length_eq]; exact List.length_map ..
theorem notesI_len {s : Shelf} {id : Int} (h : dropE s id = 0) : (notesI s id).length = (s.notes.filter fun n => n.book == id).length := by
  rw [notesI_eq h, (sortI_perm _).length_eq]; exact List.length_map ..
theorem booksI_inc {s : Shelf} (hm : mayS s = true) : (booksI s).Pairwise (fun a b => ltS a.name b.name = true) := by
  rw [booksI_eq hm]; exact sortI_inc (itemsB_new (mayS_iff.1 hm))
theorem notesI_inc {s : Shelf} {id : Int} (h : dropE s id = 0) : (notesI s id).Pairwise (fun a b => ltS a.name b.name = true) := by
  rw [notesI_eq h]; exact sortI_inc (itemsN_new (mayS_iff.1 (dropE_zero.1 h).1) id)
theorem booksI_has {s : Shelf} (hm : mayS s = true) {X : Item} (h : X ∈ booksI s) : dropE s X.id = 0 := by
  rw [booksI_eq hm] at h
  obtain ⟨b, hb, rfl⟩ := List.mem_map.1 ((sortI_perm _).mem_iff.1 h)
  exact dropE_zero.2 ⟨hm, bookIx_pos.2 ⟨b, hb, rfl⟩⟩
theorem notesI_has {s : Shelf} {id : Int} (h : dropE s id = 0) {Y : Item} (hY : Y ∈ notesI s id) : ∃ n ∈ s.notes, n.book = id ∧ n.id = Y.id ∧ n.name = Y.name ∧ foundN s Y.id = n ∧ foundB s Y.id = true := by
  rw [notesI_eq h] at hY
  obtain ⟨n, hn, rfl⟩ := List.mem_map.1 ((sortI_perm _).mem_iff.1 hY)
  have h1 := List.mem_filter.1 hn
  have hm := (dropE_zero.1 h).1
  have q := noteOf_of (mayS_iff.1 hm) h1.1
  have hE : noteE s n.id = 0 := noteE_zero.2 ⟨hm, q.1⟩
  exact ⟨n, h1.1, by simpa using h1.2, rfl, rfl, (there_of hE).2.trans q.2, (there_of hE).1⟩
theorem filter_or {α : Type} (p q : α → Bool) : ∀ l : List α, (∀ x ∈ l, p x = true → q x = false) → (l.filter p).length + (l.filter q).length = (l.filter fun x => p x || q x).length
  | [], _ => rfl
  | x :: l, h => by
    have ih := filter_or p q l fun y hy => h y (by simp [hy])
    have hx := h x (by simp)
    cases hp : p x with
    | true => rw [List.filter_cons_of_pos hp, List.filter_cons_of_neg (by rw [hx hp]; simp), List.filter_cons_of_pos (by rw [hp]; rfl), List.length_cons, List.length_cons]; omega
    | false =>
      rw [List.filter_cons_of_neg (by rw [hp]; simp)]
      cases hq : q x with
      | true => rw [List.filter_cons_of_pos hq, List.filter_cons_of_pos (by rw [hp, hq]; rfl), List.length_cons, List.length_cons]; omega
      | false => rw [List.filter_cons_of_neg (by rw [hq]; simp), List.filter_cons_of_neg (by rw [hp, hq]; simp)]; exact ih
def totB (s : Shelf) (l : List Item) : Nat := (l.map fun X => (s.notes.filter fun n => n.book == X.id).length).sum
theorem totB_any (s : Shelf) : ∀ l : List Item, l.Pairwise (fun a b => a.id ≠ b.id) → totB s l = (s.notes.filter fun n => l.any fun X => n.book == X.id).length
  | [], _ => by rw [List.filter_eq_nil_iff.2 (by simp)]; rfl
  | X :: l, h => by
    obtain ⟨h1, h2⟩ := List.pairwise_cons.1 h
    have ih := totB_any s l h2
    unfold totB at ih ⊢
    rw [List.map_cons, List.sum_cons, ih]
    rw [filter_or (fun n : Note => n.book == X.id) (fun n : Note => l.any fun X => n.book == X.id) s.notes fun n _ hn => ?_]
    · rfl
    · rw [List.any_eq_false]
      intro Y hY
      have e : n.book = X.id := by simpa using hn
      have := h1 Y hY
      rw [e]; simpa using this
theorem booksI_ids {s : Shelf} (hm : mayS s = true) : (booksI s).Pairwise (fun a b => a.id ≠ b.id) := by
  rw [booksI_eq hm]
  refine ((sortI_perm _).pairwise_iff (fun h e => h e.symm)).2 ?_
  unfold itemsB
  rw [List.pairwise_map]
  exact (mayS_iff.1 hm).binc.imp fun h => by dsimp only; omega
theorem totB_all {s : Shelf} (hm : mayS s = true) : totB s (booksI s) = s.notes.length := by
  rw [totB_any s _ (booksI_ids hm), self_filter]
  intro n hn
  obtain ⟨b, hb, e⟩ := (mayS_iff.1 hm).nbook n hn
  rw [List.any_eq_true]
  exact ⟨⟨b.id, b.name⟩, by rw [booksI_eq hm]; exact (sortI_perm _).mem_iff.2 (List.mem_map.2 ⟨b, hb, rfl⟩), by simp [e]⟩
theorem totB_step {s : Shelf} {l : List Item} {i : Nat} {X : Item} (h : l[i]? = some X) (hd : dropE s X.id = 0) : totB s (l.take (i + 1)) = totB s (l.take i) + (notesI s X.id).length := by
  rw [List.take_add_one, h, notesI_len hd]
  unfold totB
  simp
theorem totB_le (s : Shelf) (l : List Item) (i : Nat) : totB s (l.take i) ≤ totB s l := by
  unfold totB
  conv => rhs; rw [← List.take_append_drop i l, List.map_append, List.sum_append]
  exact Nat.le_add_right _ _
theorem drop_none {s : Shelf} (hm : mayS s = true) : dropE s 0 = 4 := by
  unfold dropE
  rw [if_neg (by rw [hm]; simp), if_pos (bookIx_neg.2 fun b hb => by have := (mayS_iff.1 hm).bid b hb; omega)]
theorem dropE_may {s : Shelf} {id : Int} (hm : mayS s = true) (h : dropE s id ≠ 0) : dropE s id = 4 := by
  unfold dropE at h ⊢
  rw [if_neg (by rw [hm]; simp)] at h ⊢
  split at h
  · rename_i h2; rw [if_pos h2]
  · exact absurd rfl h
/-- The shelf without the first i of some notes. -/
def lessS (s : Shelf) (l : List Item) : Shelf := { s with notes := s.notes.filter fun n => !(l.any fun Y => n.id == Y.id) }
theorem lessS_may {s : Shelf} (p : MayP s) (l : List Item) : MayP (lessS s l) := p.subNotes (List.filter_sublist ..)
theorem less_step {s : Shelf} {id : Int} (h : dropE s id = 0) {i : Nat} {Y : Item} (hY : (notesI s id)[i]? = some Y) : discardR (lessS s ((notesI s id).take i)) Y.id = ⟨lessS s ((notesI s id).take (i + 1)), 0, 0⟩ := by
  have hm := (dropE_zero.1 h).1
  have p := mayS_iff.1 hm
  obtain ⟨n, hn, -, e, -, -, -⟩ := notesI_has h (List.mem_of_getElem? hY)
  have hnd : (notesI s id).Pairwise (fun a b => a.id ≠ b.id) := by
    rw [notesI_eq h]
    refine ((sortI_perm _).pairwise_iff (fun h e => h e.symm)).2 ?_
    unfold itemsN
    rw [List.pairwise_map]
    exact (p.ninc.sublist (List.filter_sublist ..)).imp fun h => by dsimp only; omega
  have hE : noteE (lessS s ((notesI s id).take i)) Y.id = 0 := by
    refine noteE_zero.2 ⟨mayS_iff.2 (lessS_may p _), noteIx_pos.2 ⟨n, List.mem_filter.2 ⟨hn, ?_⟩, e⟩⟩
    rw [Bool.not_eq_true', List.any_eq_false]
    intro Z hZ
    obtain ⟨j, hj⟩ := List.getElem?_of_mem hZ
    have hji : j < i := by
      have := (List.getElem?_eq_some_iff.1 hj).1
      rw [List.length_take] at this
      omega
    rw [List.getElem?_take_of_lt hji] at hj
    have := pair_get hnd hj hY hji
    rw [e]; simpa using fun e => this e.symm
  rw [discardR, resOf_ok hE]
  have e2 : ((s.notes.filter fun n => !(((notesI s id).take i).any fun Y => n.id == Y.id)).filter fun n => !(n.id == Y.id)) = s.notes.filter fun n => !(((notesI s id).take (i + 1)).any fun Y => n.id == Y.id) := by
    rw [List.filter_filter]
    apply List.filter_congr
    intro x _
    rw [List.take_add_one, hY, List.any_append]
    simp [Bool.and_comm]
  show (⟨⟨s.nb, s.nn, s.ns, s.books, (s.notes.filter fun n => !(((notesI s id).take i).any fun Y => n.id == Y.id)).filter fun n => !(n.id == Y.id)⟩, 0, 0⟩ : Res) = _
  rw [e2]; rfl
theorem less_nil (s : Shelf) : lessS s [] = s := by
  unfold lessS
  rw [show (s.notes.filter fun n => !(([] : List Item).any fun Y => n.id == Y.id)) = s.notes from self_filter fun _ _ => rfl]
theorem less_drop {s : Shelf} {id : Int} (h : dropE s id = 0) : dropR (lessS s (notesI s id)) id = ⟨(dropR s id).s, 0, 0⟩ := by
  obtain ⟨hm, hb⟩ := dropE_zero.1 h
  have p := mayS_iff.1 hm
  have hE : dropE (lessS s (notesI s id)) id = 0 := dropE_zero.2 ⟨mayS_iff.2 (lessS_may p _), hb⟩
  rw [dropR, resOf_ok hE, dropR, resOf_ok h]
  have e2 : ((s.notes.filter fun n => !((notesI s id).any fun Y => n.id == Y.id)).filter fun n => !(n.book == id)) = s.notes.filter fun n => !(n.book == id) := by
    rw [List.filter_filter]
    apply List.filter_congr
    intro x hx
    cases hxb : (x.book == id) with
    | true => rfl
    | false =>
      rw [Bool.not_false, Bool.true_and, Bool.not_eq_true', List.any_eq_false]
      intro Y hY
      obtain ⟨n, hn, e1, e2, -⟩ := notesI_has h hY
      intro e
      have e3 : x.id = Y.id := by simpa using e
      have := p.note_eq hx hn (e3.trans e2.symm)
      rw [this] at hxb
      exact absurd hxb (by simp [e1])
  show (⟨⟨s.nb, s.nn, s.ns, s.books.filter (fun b => !(b.id == id)), (s.notes.filter fun n => !((notesI s id).any fun Y => n.id == Y.id)).filter fun n => !(n.book == id)⟩, 0, 0⟩ : Res) = _
  rw [e2]
theorem drop_sizes {s : Shelf} {id : Int} (h : dropE s id = 0) : (dropR s id).s.notes.length + (notesI s id).length = s.notes.length ∧ (dropR s id).s.books.length + 1 = s.books.length := by
  obtain ⟨hm, hb⟩ := dropE_zero.1 h
  have p := mayS_iff.1 hm
  rw [dropR, resOf_ok h, notesI_len h]
  constructor
  · have := filter_or (fun n : Note => !(n.book == id)) (fun n : Note => n.book == id) s.notes fun n _ hn => by simpa using hn
    show (s.notes.filter fun n => !(n.book == id)).length + _ = _
    rw [this, self_filter]
    intro n _
    cases n.book == id <;> rfl
  · obtain ⟨x, hx, e⟩ := bookIx_pos.1 hb
    have := filter_or (fun b : Book => !(b.id == id)) (fun b : Book => b.id == id) s.books fun n _ hn => by simpa using hn
    rw [self_filter (p := fun x : Book => !(x.id == id) || x.id == id) (fun b _ => by cases b.id == id <;> rfl)] at this
    show (s.books.filter fun b => !(b.id == id)).length + 1 = _
    have h1 : (s.books.filter fun b => b.id == id).length = 1 := by
      have hmem : x ∈ s.books.filter fun b => b.id == id := List.mem_filter.2 ⟨hx, by simp [e]⟩
      have hpw := p.binc.sublist (List.filter_sublist (p := fun b : Book => b.id == id))
      match hL : s.books.filter fun b => b.id == id with
      | [] => rw [hL] at hmem; cases hmem
      | [_] => rw [hL]; rfl
      | a :: b :: _ =>
        rw [hL] at hpw
        have h2 := (List.pairwise_cons.1 hpw).1 b (by simp)
        have ha := (List.mem_filter.1 (show a ∈ s.books.filter fun b => b.id == id by rw [hL]; simp)).2
        have hb' := (List.mem_filter.1 (show b ∈ s.books.filter fun b => b.id == id by rw [hL]; simp)).2
        simp at ha hb'
        omega
    omega
end Go.Proofs.YtieohecgoaakmaaDoor
