/- Items sorted by their names: plain words. -/
import Derived.Test.YtieohecgoaakmaaDoorItem
import Derived.Test.YtieohecgoaakmaaDoorChg
set_option linter.unusedVariables false
set_option linter.unusedSimpArgs false
namespace Go.Proofs.YtieohecgoaakmaaDoor
open Go.RowKit Go.Lib
def insI (x : Item) : List Item → List Item
  | [] => [x]
  | y :: l => if ltS y.name x.name then y :: insI x l else x :: y :: l
def sortI (l : List Item) : List Item := l.foldl (fun acc x => insI x acc) []
def itemsB (s : Shelf) : List Item := s.books.map fun b => ⟨b.id, b.name⟩
def itemsN (s : Shelf) (id : Int) : List Item := (s.notes.filter fun n => n.book == id).map fun n => ⟨n.id, n.name⟩
def booksI (s : Shelf) : List Item := if mayS s = true then sortI (itemsB s) else []
def notesI (s : Shelf) (id : Int) : List Item := if dropE s id = 0 then sortI (itemsN s id) else []
theorem insI_perm (x : Item) : ∀ l : List Item, (insI x l).Perm (x :: l)
  | [] => .refl _
  | y :: l => by
    unfold insI
    split
    · exact (List.Perm.cons y (insI_perm x l)).trans (List.Perm.swap x y l)
    · exact .refl _
theorem insI_inc {x : Item} : ∀ {l : List Item}, l.Pairwise (fun a b => ltS a.name b.name = true) → (∀ y ∈ l, y.name ≠ x.name) → (insI x l).Pairwise (fun a b => ltS a.name b.name = true)
  | [], _, _ => by simp [insI]
  | y :: l, h, hn => by
    obtain ⟨h1, h2⟩ := List.pairwise_cons.1 h
    unfold insI
    split
    · rename_i hlt
      refine List.pairwise_cons.2 ⟨fun z hz => ?_, insI_inc h2 fun z hz => hn z (List.mem_cons_of_mem _ hz)⟩
      rcases List.mem_cons.1 ((insI_perm x l).mem_iff.1 hz) with rfl | hz
      · exact hlt
      · exact h1 z hz
    · rename_i hlt
      have hxy : ltS x.name y.name = true := by
        cases e : ltS x.name y.name with
        | true => rfl
        | false => exact absurd (ltS_total (by simpa using hlt) e) (hn y (by simp))
      refine List.pairwise_cons.2 ⟨fun z hz => ?_, h⟩
      rcases List.mem_cons.1 hz with rfl | hz
      · exact hxy
      · exact ltS_trans hxy (h1 z hz)
theorem fold_perm : ∀ (l acc : List Item), (l.foldl (fun acc x => insI x acc) acc).Perm (l ++ acc)
  | [], acc => .refl _
  | x :: l, acc => by
    rw [List.foldl_cons]
    refine (fold_perm l _).trans ?_
    refine ((insI_perm x acc).append_left l).trans ?_
    exact List.perm_middle
theorem fold_inc : ∀ (l acc : List Item), acc.Pairwise (fun a b => ltS a.name b.name = true) → (∀ x ∈ l, ∀ y ∈ acc, y.name ≠ x.name) → (l.Pairwise fun a b => a.name ≠ b.name) → (l.foldl (fun acc x => insI x acc) acc).Pairwise (fun a b => ltS a.name b.name = true)
  | [], acc, h, _, _ => h
  | x :: l, acc, h, hn, hd => by
    obtain ⟨d1, d2⟩ := List.pairwise_cons.1 hd
    rw [List.foldl_cons]
    refine fold_inc l _ (insI_inc h fun y hy => hn x (by simp) y hy) (fun z hz y hy => ?_) d2
    rcases List.mem_cons.1 ((insI_perm x acc).mem_iff.1 hy) with rfl | hy
    · exact d1 z hz
    · exact hn z (List.mem_cons_of_mem _ hz) y hy
theorem sortI_perm (l : List Item) : (sortI l).Perm l := by
  have := fold_perm l []
  rw [List.append_nil] at this; exact this
theorem sortI_inc {l : List Item} (h : l.Pairwise fun a b => a.name ≠ b.name) : (sortI l).Pairwise (fun a b => ltS a.name b.name = true) := fold_inc l [] .nil (fun _ _ _ hy => by cases hy) h
/-- Strictly rising lists of the same elements are one. -/
theorem strict_eq {α : Type} {R : α → α → Prop} (ha : ∀ x y, R x y → R y x → False) : ∀ {l m : List α}, l.Perm m → l.Pairwise R → m.Pairwise R → l = m
  | [], m, hp, _, _ => (List.nil_perm.1 hp).symm
  | x :: l, [], hp, _, _ => by have := hp.length_eq; simp at this
  | x :: l, y :: m, hp, h1, h2 => by
    obtain ⟨a1, a2⟩ := List.pairwise_cons.1 h1
    obtain ⟨b1, b2⟩ := List.pairwise_cons.1 h2
    have e : x = y := by
      apply Classical.byContradiction
      intro hne
      have hx : x ∈ m := by
        rcases List.mem_cons.1 (hp.mem_iff.1 (List.mem_cons_self ..)) with h | h
        · exact absurd h hne
        · exact h
      have hy : y ∈ l := by
        rcases List.mem_cons.1 (hp.mem_iff.2 (List.mem_cons_self ..)) with h | h
        · exact absurd h.symm hne
        · exact h
      exact ha x y (a1 y hy) (b1 x hx)
    subst e
    rw [strict_eq ha hp.cons_inv a2 b2]
theorem names_ne {l m : List Item} (hp : l.Perm m) (h : m.Pairwise fun a b => a.name ≠ b.name) : l.Pairwise fun a b => a.name ≠ b.name :=
  (hp.pairwise_iff (fun h e => h e.symm)).2 h
theorem strict_of {l : List Item} (h : l.Pairwise fun a b => ltS b.name a.name = false) (hn : l.Pairwise fun a b => a.name ≠ b.name) : l.Pairwise fun a b => ltS a.name b.name = true :=
  (h.and hn).imp fun {a b} ⟨h1, h2⟩ => by
    cases e : ltS a.name b.name with
    | true => rfl
    | false => exact absurd (ltS_total e h1) h2
/-- What is sorted is the one sorted list. -/
theorem sortI_of {l l' : List Item} (hp : l'.Perm l) (hs : l'.Pairwise fun a b => ltS b.name a.name = false) (hn : l.Pairwise fun a b => a.name ≠ b.name) : l' = sortI l :=
  strict_eq (R := fun a b : Item => ltS a.name b.name = true) (fun x y h1 h2 => by rw [ltS_asymm h1] at h2; cases h2) (hp.trans (sortI_perm l).symm) (strict_of hs (names_ne hp hn)) (sortI_inc hn)
theorem itemsB_new {s : Shelf} (p : MayP s) : (itemsB s).Pairwise fun a b => a.name ≠ b.name := by
  unfold itemsB
  rw [List.pairwise_map]
  exact p.bnew
theorem itemsN_new {s : Shelf} (p : MayP s) (id : Int) : (itemsN s id).Pairwise fun a b => a.name ≠ b.name := by
  unfold itemsN
  rw [List.pairwise_map]
  have := (p.nnew.sublist (List.filter_sublist (p := fun n : Note => n.book == id)))
  refine this.imp_of_mem fun {a b} ha hb h e => h ⟨?_, e⟩
  have h1 := (List.mem_filter.1 ha).2
  have h2 := (List.mem_filter.1 hb).2
  simp only [beq_iff_eq] at h1 h2
  omega
end Go.Proofs.YtieohecgoaakmaaDoor
