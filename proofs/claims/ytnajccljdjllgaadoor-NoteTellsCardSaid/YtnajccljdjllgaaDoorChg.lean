/- The changes of a shelf, in plain words, and that they keep it good. -/
import Derived.Test.YtnajccljdjllgaaDoorMayP
set_option linter.unusedVariables false
set_option linter.unusedSimpArgs false
namespace Go.Proofs.YtnajccljdjllgaaDoor
open Go.RowKit Go.Lib
def zS : Shelf := ⟨0, 0, 0, [], []⟩
structure Res where
  s : Shelf
  n : Int
  e : Int
def bad (e : Int) : Res := ⟨zS, 0, e⟩
def resOf (e : Int) (s : Shelf) (n : Int) : Res := if e = 0 then ⟨s, n, 0⟩ else bad e
theorem resOf_e (e : Int) (s : Shelf) (n : Int) : (resOf e s n).e = e := by
  unfold resOf; split
  · rename_i h; exact h.symm
  · rfl
theorem resOf_ok {e : Int} (h : e = 0) (s : Shelf) (n : Int) : resOf e s n = ⟨s, n, 0⟩ := if_pos h
theorem resOf_no {e : Int} (h : e ≠ 0) (s : Shelf) (n : Int) : resOf e s n = bad e := if_neg h
def bookIx (s : Shelf) (id : Int) : Int := idx (fun x : Book => x.id == id) s.books
def noteIx (s : Shelf) (id : Int) : Int := idx (fun x : Note => x.id == id) s.notes
def nameIx (l : List Book) (t : ByteArray) : Int := idx (fun x : Book => x.name.toList == t.toList) l
def noteOf (s : Shelf) (id : Int) : Note := s.notes.getD (noteIx s id).toNat default
def titleB (q : Int) (t : ByteArray) (but : Int) (x : Note) : Bool := (x.book == q) && (x.name.toList == t.toList) && (x.id != but)
def hasT (t : ByteArray) (l : List ByteArray) : Bool := l.any fun x => x.toList == t.toList
def updN (id : Int) (f : Note → Note) (l : List Note) : List Note := l.map fun n => if n.id = id then f n else n
def updB (id : Int) (t : ByteArray) (l : List Book) : List Book := l.map fun b => if b.id = id then ⟨b.id, t⟩ else b
/-- A text among others, in order. -/
def insT (t : ByteArray) : List ByteArray → List ByteArray
  | [] => [t]
  | x :: l => if ltS x t then x :: insT t l else t :: x :: l
def makeE (s : Shelf) (t : ByteArray) : Int := if mayS s = false then 2 else if mayB t = false then 6 else if 0 ≤ nameIx s.books t then 7 else if 6 ≤ (s.books.length : Int) ∨ 65536 ≤ s.nb then 3 else 0
def renameE (s : Shelf) (id : Int) (t : ByteArray) : Int := if mayS s = false then 2 else if bookIx s id < 0 then 4 else if mayB t = false then 6 else if 0 ≤ nameIx s.books t ∧ nameIx s.books t ≠ bookIx s id then 7 else 0
def dropE (s : Shelf) (id : Int) : Int := if mayS s = false then 2 else if bookIx s id < 0 then 4 else 0
def addE (s : Shelf) (id : Int) (t : ByteArray) : Int := if mayS s = false then 2 else if bookIx s id < 0 then 4 else if mayB t = false then 6 else if s.notes.any (titleB id t 0) = true then 7 else if 12 ≤ (s.notes.length : Int) ∨ 65536 ≤ s.nn then 3 else 0
def noteE (s : Shelf) (id : Int) : Int := if mayS s = false then 2 else if noteIx s id < 0 then 4 else 0
def retitleE (s : Shelf) (id : Int) (t : ByteArray) : Int := if mayS s = false then 2 else if noteIx s id < 0 then 4 else if mayB t = false then 6 else if s.notes.any (titleB (noteOf s id).book t id) = true then 7 else 0
def moveE (s : Shelf) (id q : Int) : Int := if mayS s = false then 2 else if noteIx s id < 0 ∨ bookIx s q < 0 then 4 else if s.notes.any (titleB q (noteOf s id).name id) = true then 7 else 0
def tagE (s : Shelf) (id : Int) (t : ByteArray) : Int := if mayS s = false then 2 else if noteIx s id < 0 then 4 else if mayB t = false then 6 else if hasT t (noteOf s id).tags = true then 7 else if 4 ≤ ((noteOf s id).tags.length : Int) then 3 else 0
def untagE (s : Shelf) (id : Int) (t : ByteArray) : Int := if mayS s = false then 2 else if noteIx s id < 0 then 4 else if hasT t (noteOf s id).tags = false then 4 else 0
def appendE (s : Shelf) (id : Int) : Int := if mayS s = false then 2 else if noteIx s id < 0 then 4 else if 8 ≤ ((noteOf s id).sheets.length : Int) ∨ 4095 < s.ns then 3 else 0
def sheetE (s : Shelf) (id k : Int) : Int := if mayS s = false then 2 else if noteIx s id < 0 then 4 else if k < 0 ∨ ((noteOf s id).sheets.length : Int) ≤ k then 2 else 0
def sheetN (s : Shelf) (id k : Int) : Int := (noteOf s id).sheets.getD k.toNat 0
def makeR (s : Shelf) (t : ByteArray) : Res := resOf (makeE s t) { s with nb := s.nb + 1, books := s.books ++ [⟨s.nb, t⟩] } s.nb
def renameR (s : Shelf) (id : Int) (t : ByteArray) : Res := resOf (renameE s id t) { s with books := updB id t s.books } 0
def dropR (s : Shelf) (id : Int) : Res := resOf (dropE s id) { s with books := s.books.filter (fun b => !(b.id == id)), notes := s.notes.filter (fun n => !(n.book == id)) } 0
def addR (s : Shelf) (id : Int) (t : ByteArray) : Res := resOf (addE s id t) { s with nn := s.nn + 1, notes := s.notes ++ [⟨s.nn, id, t, [], []⟩] } s.nn
def retitleR (s : Shelf) (id : Int) (t : ByteArray) : Res := resOf (retitleE s id t) { s with notes := updN id (fun n => { n with name := t }) s.notes } 0
def moveR (s : Shelf) (id q : Int) : Res := resOf (moveE s id q) { s with notes := updN id (fun n => { n with book := q }) s.notes } 0
def discardR (s : Shelf) (id : Int) : Res := resOf (noteE s id) { s with notes := s.notes.filter (fun n => !(n.id == id)) } 0
def tagR (s : Shelf) (id : Int) (t : ByteArray) : Res := resOf (tagE s id t) { s with notes := updN id (fun n => { n with tags := insT t n.tags }) s.notes } 0
def untagR (s : Shelf) (id : Int) (t : ByteArray) : Res := resOf (untagE s id t) { s with notes := updN id (fun n => { n with tags := n.tags.filter (fun x => !(x.toList == t.toList)) }) s.notes } 0
def appendR (s : Shelf) (id : Int) : Res := resOf (appendE s id) { s with ns := s.ns + 1, notes := updN id (fun n => { n with sheets := n.sheets ++ [s.ns] }) s.notes } s.ns
def replaceR (s : Shelf) (id k : Int) : Res := resOf (sheetE s id k) s (sheetN s id k)
def removeR (s : Shelf) (id k : Int) : Res := resOf (sheetE s id k) { s with notes := updN id (fun n => { n with sheets := n.sheets.eraseIdx k.toNat }) s.notes } (sheetN s id k)
theorem makeE_zero {s : Shelf} {t : ByteArray} : makeE s t = 0 ↔ mayS s = true ∧ mayB t = true ∧ nameIx s.books t < 0 ∧ s.books.length < 6 ∧ s.nb < 65536 := by
  unfold makeE
  cases mayS s <;> cases mayB t <;> simp
  all_goals (repeat' split)
  all_goals (first | omega | (constructor <;> (intro h; omega)))
theorem renameE_zero {s : Shelf} {id : Int} {t : ByteArray} : renameE s id t = 0 ↔ mayS s = true ∧ 0 ≤ bookIx s id ∧ mayB t = true ∧ (nameIx s.books t < 0 ∨ nameIx s.books t = bookIx s id) := by
  unfold renameE
  cases mayS s <;> cases mayB t <;> simp
  all_goals (repeat' split)
  all_goals (first | omega | (constructor <;> (intro h; omega)))
theorem dropE_zero {s : Shelf} {id : Int} : dropE s id = 0 ↔ mayS s = true ∧ 0 ≤ bookIx s id := by
  unfold dropE
  cases mayS s <;> simp
theorem addE_zero {s : Shelf} {id : Int} {t : ByteArray} : addE s id t = 0 ↔ mayS s = true ∧ 0 ≤ bookIx s id ∧ mayB t = true ∧ s.notes.any (titleB id t 0) = false ∧ s.notes.length < 12 ∧ s.nn < 65536 := by
  unfold addE
  cases mayS s <;> cases mayB t <;> cases s.notes.any (titleB id t 0) <;> simp
  all_goals (repeat' split)
  all_goals (first | omega | (constructor <;> (intro h; omega)))
theorem noteE_zero {s : Shelf} {id : Int} : noteE s id = 0 ↔ mayS s = true ∧ 0 ≤ noteIx s id := by
  unfold noteE
  cases mayS s <;> simp
theorem retitleE_zero {s : Shelf} {id : Int} {t : ByteArray} : retitleE s id t = 0 ↔ mayS s = true ∧ 0 ≤ noteIx s id ∧ mayB t = true ∧ s.notes.any (titleB (noteOf s id).book t id) = false := by
  unfold retitleE
  cases mayS s <;> cases mayB t <;> cases s.notes.any (titleB (noteOf s id).book t id) <;> simp
  all_goals (repeat' split)
  all_goals (first | omega | (constructor <;> (intro h; omega)))
theorem moveE_zero {s : Shelf} {id q : Int} : moveE s id q = 0 ↔ mayS s = true ∧ 0 ≤ noteIx s id ∧ 0 ≤ bookIx s q ∧ s.notes.any (titleB q (noteOf s id).name id) = false := by
  unfold moveE
  cases mayS s <;> cases s.notes.any (titleB q (noteOf s id).name id) <;> simp
  all_goals (repeat' split)
  all_goals (first | omega | (constructor <;> (intro h; omega)))
theorem tagE_zero {s : Shelf} {id : Int} {t : ByteArray} : tagE s id t = 0 ↔ mayS s = true ∧ 0 ≤ noteIx s id ∧ mayB t = true ∧ hasT t (noteOf s id).tags = false ∧ (noteOf s id).tags.length < 4 := by
  unfold tagE
  cases mayS s <;> cases mayB t <;> cases hasT t (noteOf s id).tags <;> simp
  all_goals (repeat' split)
  all_goals (first | omega | (constructor <;> (intro h; omega)))
theorem untagE_zero {s : Shelf} {id : Int} {t : ByteArray} : untagE s id t = 0 ↔ mayS s = true ∧ 0 ≤ noteIx s id ∧ hasT t (noteOf s id).tags = true := by
  unfold untagE
  cases mayS s <;> cases hasT t (noteOf s id).tags <;> simp
theorem appendE_zero {s : Shelf} {id : Int} : appendE s id = 0 ↔ mayS s = true ∧ 0 ≤ noteIx s id ∧ (noteOf s id).sheets.length < 8 ∧ s.ns ≤ 4095 := by
  unfold appendE
  cases mayS s <;> simp
  all_goals (repeat' split)
  all_goals (first | omega | (constructor <;> (intro h; omega)))
theorem sheetE_zero {s : Shelf} {id k : Int} : sheetE s id k = 0 ↔ mayS s = true ∧ 0 ≤ noteIx s id ∧ 0 ≤ k ∧ k < (noteOf s id).sheets.length := by
  unfold sheetE
  cases mayS s <;> simp
  all_goals (repeat' split)
  all_goals (first | omega | (constructor <;> (intro h; omega)))
theorem mayB_small {s : ByteArray} (h : mayB s = true) : s.size < 256 := by
  unfold mayB at h
  simp only [Bool.and_eq_true, decide_eq_true_eq] at h
  omega
theorem MayP.tame {s : Shelf} (h : MayP s) : TameS s := by
  refine ⟨⟨by have := h.bl; omega, by have := h.nl; omega, fun b hb => by have := mayB_small (h.bmay b hb); omega, fun n hn => ?_⟩, fun n hn y hy => ?_⟩
  · have a1 := mayB_small (h.nmay n hn)
    have a2 := h.tl n hn
    have a3 := h.sl n hn
    exact ⟨by omega, by omega, by omega, fun t ht => by have := mayB_small (h.tmay n hn t ht); omega⟩
  · have := h.sid y (List.mem_flatMap.2 ⟨n, hn, hy⟩)
    have := h.ns
    unfold Wf; omega
/-! Where a note, or a book, stands. -/
theorem idx_get {α : Type} {p : α → Bool} : ∀ {l : List α} {i : Int}, idx p l = i → 0 ≤ i → ∃ x, l[i.toNat]? = some x ∧ p x = true
  | [], i, h, h0 => by unfold idx at h; omega
  | x :: l, i, h, h0 => by
    unfold idx at h
    split at h
    · rename_i hp; subst h; exact ⟨x, rfl, hp⟩
    · split at h
      · omega
      · obtain ⟨y, hy, hpy⟩ := idx_get (l := l) (p := p) rfl (show 0 ≤ idx p l by have := idx_bd p l; omega)
        refine ⟨y, ?_, hpy⟩
        rw [← h, show (idx p l + 1).toNat = (idx p l).toNat + 1 by have := idx_bd p l; omega]
        simpa using hy
theorem noteOf_get {s : Shelf} {id : Int} (h : 0 ≤ noteIx s id) : s.notes[(noteIx s id).toNat]? = some (noteOf s id) ∧ (noteOf s id).id = id := by
  obtain ⟨x, hx, hp⟩ := idx_get (p := fun x : Note => x.id == id) (l := s.notes) rfl h
  have e : noteOf s id = x := getD_of hx
  rw [e]
  exact ⟨hx, by simpa using hp⟩
theorem noteOf_mem {s : Shelf} {id : Int} (h : 0 ≤ noteIx s id) : noteOf s id ∈ s.notes := List.mem_of_getElem? (noteOf_get h).1
theorem inc_eq {α : Type} {f : α → Int} {l : List α} (h : l.Pairwise fun a b => f a < f b) {x y : α} (hx : x ∈ l) (hy : y ∈ l) (e : f x = f y) : x = y := by
  obtain ⟨i, hi⟩ := List.getElem?_of_mem hx
  obtain ⟨j, hj⟩ := List.getElem?_of_mem hy
  rcases Nat.lt_trichotomy i j with h1 | h1 | h1
  · have := pair_get h hi hj h1; omega
  · subst h1; rw [hi] at hj; exact Option.some.inj hj
  · have := pair_get h hj hi h1; omega
theorem MayP.note_eq {s : Shelf} (h : MayP s) {x y : Note} (hx : x ∈ s.notes) (hy : y ∈ s.notes) (e : x.id = y.id) : x = y := inc_eq (f := Note.id) h.ninc hx hy e
theorem MayP.book_eq {s : Shelf} (h : MayP s) {x y : Book} (hx : x ∈ s.books) (hy : y ∈ s.books) (e : x.id = y.id) : x = y := inc_eq (f := Book.id) h.binc hx hy e
theorem noteIx_of {s : Shelf} (h : MayP s) {i : Nat} {x : Note} (hx : s.notes[i]? = some x) : noteIx s x.id = i ∧ noteOf s x.id = x := by
  have e : noteIx s x.id = i := idx_some hx (by simp) fun j y hj hy => by
    have := pair_get h.ninc hy hx hj
    simp; omega
  refine ⟨e, ?_⟩
  unfold noteOf
  rw [e, Int.toNat_natCast, getD_of hx]
theorem noteOf_of {s : Shelf} (h : MayP s) {x : Note} (hx : x ∈ s.notes) : 0 ≤ noteIx s x.id ∧ noteOf s x.id = x := by
  obtain ⟨i, hi⟩ := List.getElem?_of_mem hx
  have := noteIx_of h hi
  exact ⟨by omega, this.2⟩
theorem noteIx_neg {s : Shelf} {id : Int} : noteIx s id < 0 ↔ ∀ x ∈ s.notes, x.id ≠ id := by
  unfold noteIx; rw [idx_neg]; simp
theorem bookIx_neg {s : Shelf} {id : Int} : bookIx s id < 0 ↔ ∀ x ∈ s.books, x.id ≠ id := by
  unfold bookIx; rw [idx_neg]; simp
theorem bookIx_pos {s : Shelf} {id : Int} : 0 ≤ bookIx s id ↔ ∃ x ∈ s.books, x.id = id := by
  unfold bookIx; rw [idx_nonneg]; simp
theorem noteIx_pos {s : Shelf} {id : Int} : 0 ≤ noteIx s id ↔ ∃ x ∈ s.notes, x.id = id := by
  unfold noteIx; rw [idx_nonneg]; simp
theorem nameIx_neg {l : List Book} {t : ByteArray} : nameIx l t < 0 ↔ ∀ x ∈ l, x.name ≠ t := by
  unfold nameIx; rw [idx_neg]
  exact ⟨fun h x hx => toList_ne.1 (h x hx), fun h x hx => toList_ne.2 (h x hx)⟩
/-- Stored where it stands. -/
theorem set_updN {l : List Note} (hu : l.Pairwise fun a b => a.id < b.id) {i : Nat} {x : Note} (hx : l[i]? = some x) (f : Note → Note) : l.set i (f x) = updN x.id f l := by
  apply List.ext_getElem?
  intro j
  have hi := (List.getElem?_eq_some_iff.1 hx).1
  unfold updN
  rw [List.getElem?_map, List.getElem?_set]
  by_cases e : i = j
  · subst e
    rw [if_pos rfl, if_pos hi, hx]; simp
  · rw [if_neg e]
    cases hy : l[j]? with
    | none => rfl
    | some y =>
      have : ¬ y.id = x.id := fun e2 => by
        rcases Nat.lt_or_gt_of_ne e with h | h
        · have := pair_get hu hx hy h; omega
        · have := pair_get hu hy hx h; omega
      simp [this]
theorem set_updB {l : List Book} (hu : l.Pairwise fun a b => a.id < b.id) {i : Nat} {x : Book} (hx : l[i]? = some x) (t : ByteArray) : l.set i ⟨x.id, t⟩ = updB x.id t l := by
  apply List.ext_getElem?
  intro j
  have hi := (List.getElem?_eq_some_iff.1 hx).1
  unfold updB
  rw [List.getElem?_map, List.getElem?_set]
  by_cases e : i = j
  · subst e
    rw [if_pos rfl, if_pos hi, hx]; simp
  · rw [if_neg e]
    cases hy : l[j]? with
    | none => rfl
    | some y =>
      have : ¬ y.id = x.id := fun e2 => by
        rcases Nat.lt_or_gt_of_ne e with h | h
        · have := pair_get hu hx hy h; omega
        · have := pair_get hu hy hx h; omega
      simp [this]
/-! A shelf that may be may be behind each change. -/
theorem flat_sub {α β : Type} (f : α → List β) {l m : List α} (h : l.Sublist m) : (l.flatMap f).Sublist (m.flatMap f) := by
  induction h with
  | slnil => simp
  | cons a _ ih => rw [List.flatMap_cons]; exact ih.trans (List.sublist_append_right _ _)
  | cons_cons a _ ih => rw [List.flatMap_cons, List.flatMap_cons]; exact (List.Sublist.refl _).append ih
theorem flat_sub2 {α β : Type} (f : α → List β) (g : α → α) : ∀ l : List α, (∀ x ∈ l, (f (g x)).Sublist (f x)) → ((l.map g).flatMap f).Sublist (l.flatMap f)
  | [], _ => by simp
  | x :: l, h => by
    rw [List.map_cons, List.flatMap_cons, List.flatMap_cons]
    exact (h x (by simp)).append (flat_sub2 f g l fun y hy => h y (by simp [hy]))
theorem MayP.subNotes {s : Shelf} (h : MayP s) {Y : List Note} (hs : Y.Sublist s.notes) : MayP { s with notes := Y } :=
  have m := fun n (hn : n ∈ Y) => hs.subset hn
  have f := flat_sub (fun n : Note => n.sheets) hs
  { nb := h.nb, nn := h.nn, ns := h.ns, bl := h.bl, nl := Nat.le_trans hs.length_le h.nl, bid := h.bid, bmay := h.bmay, binc := h.binc, bnew := h.bnew,
    nid := fun n hn => h.nid n (m n hn), nmay := fun n hn => h.nmay n (m n hn), nbook := fun n hn => h.nbook n (m n hn), ninc := h.ninc.sublist hs, nnew := h.nnew.sublist hs,
    tmay := fun n hn => h.tmay n (m n hn), tinc := fun n hn => h.tinc n (m n hn), tl := fun n hn => h.tl n (m n hn), sl := fun n hn => h.sl n (m n hn),
    sid := fun x hx => h.sid x (f.subset hx), snew := h.snew.sublist f }
theorem make_may {s : Shelf} {t : ByteArray} (h : makeE s t = 0) : MayP (makeR s t).s := by
  obtain ⟨h0, h1, h2, h3, h4⟩ := makeE_zero.1 h
  have p := mayS_iff.1 h0
  rw [makeR, resOf_ok h]
  have hn := nameIx_neg.1 h2
  have m : ∀ {b : Book}, b ∈ s.books ++ [⟨s.nb, t⟩] → b ∈ s.books ∨ b = ⟨s.nb, t⟩ := fun hb => by simpa using hb
  have pnb := p.nb
  exact { p with
    nb := by show 1 ≤ s.nb + 1 ∧ s.nb + 1 ≤ 65536; omega
    bl := by show (s.books ++ [_]).length ≤ 6; rw [List.length_append]; simp; omega
    bid := fun b hb => by
      show 1 ≤ b.id ∧ b.id ≤ s.nb + 1 - 1
      rcases m hb with hb | rfl
      · have := p.bid b hb; omega
      · show 1 ≤ s.nb ∧ s.nb ≤ _; omega
    bmay := fun b hb => by
      rcases m hb with hb | rfl
      · exact p.bmay b hb
      · exact h1
    binc := List.pairwise_append.2 ⟨p.binc, by simp, fun a ha b hb => by
      have e : b = ⟨s.nb, t⟩ := by simpa using hb
      have := p.bid a ha
      rw [e]; show a.id < s.nb; omega⟩
    bnew := List.pairwise_append.2 ⟨p.bnew, by simp, fun a ha b hb => by
      have e : b = ⟨s.nb, t⟩ := by simpa using hb
      rw [e]; exact hn a ha⟩
    nbook := fun n hn => by
      obtain ⟨b, hb, e⟩ := p.nbook n hn
      exact ⟨b, List.mem_append_left _ hb, e⟩ }
theorem rename_own {s : Shelf} {id : Int} {t : ByteArray} (h : renameE s id t = 0) : ∀ b ∈ s.books, b.name = t → b.id = id := by
  obtain ⟨h0, h1, h2, h3⟩ := renameE_zero.1 h
  have p := mayS_iff.1 h0
  intro b hb e
  rcases h3 with h3 | h3
  · exact absurd e (nameIx_neg.1 h3 b hb)
  · obtain ⟨x, hx, hp⟩ := idx_get (p := fun x : Book => x.id == id) (l := s.books) rfl h1
    have hx2 : s.books[(nameIx s.books t).toNat]? = some x := by rw [h3]; exact hx
    obtain ⟨y, hy, hq⟩ := idx_get (p := fun x : Book => x.name.toList == t.toList) (l := s.books) (i := nameIx s.books t) rfl (by rw [h3]; exact h1)
    rw [hx2] at hy
    obtain rfl := Option.some.inj hy
    have hq2 := toList_eq.1 hq
    have hid : x.id = id := by simpa using hp
    obtain ⟨j, hj⟩ := List.getElem?_of_mem hb
    rcases Nat.lt_trichotomy (bookIx s id).toNat j with h4 | h4 | h4
    · exact absurd (hq2.trans e.symm) (pair_get p.bnew hx hj h4)
    · rw [← h4] at hj
      have hx3 : s.books[(bookIx s id).toNat]? = some x := hx
      rw [hx3] at hj
      rw [← Option.some.inj hj]; exact hid
    · exact absurd (e.trans hq2.symm) (pair_get p.bnew hj hx h4)
theorem updB_mem {id : Int} {t : ByteArray} {l : List Book} {b : Book} (h : b ∈ updB id t l) : ∃ a ∈ l, b.id = a.id ∧ (a.id = id ∧ b.name = t ∨ a.id ≠ id ∧ b.name = a.name) := by
  unfold updB at h
  obtain ⟨a, ha, rfl⟩ := List.mem_map.1 h
  refine ⟨a, ha, ?_⟩
  by_cases e : a.id = id
  · simp [e]
  · simp [e]
theorem updB_id (id : Int) (t : ByteArray) (a : Book) : (if a.id = id then (⟨a.id, t⟩ : Book) else a).id = a.id := by split <;> rfl
theorem rename_may {s : Shelf} {id : Int} {t : ByteArray} (h : renameE s id t = 0) : MayP (renameR s id t).s := by
  obtain ⟨h0, h1, h2, h3⟩ := renameE_zero.1 h
  have p := mayS_iff.1 h0
  have ho := rename_own h
  rw [renameR, resOf_ok h]
  exact { p with
    bl := by show (updB id t s.books).length ≤ 6; unfold updB; rw [List.length_map]; exact p.bl
    bid := fun b hb => by
      obtain ⟨a, ha, e, -⟩ := updB_mem hb
      rw [e]; exact p.bid a ha
    bmay := fun b hb => by
      obtain ⟨a, ha, -, ⟨-, e⟩ | ⟨-, e⟩⟩ := updB_mem hb
      · rw [e]; exact h2
      · rw [e]; exact p.bmay a ha
    binc := by
      show (updB id t s.books).Pairwise _
      unfold updB
      rw [List.pairwise_map]
      exact p.binc.imp fun {a b} h => by rw [updB_id, updB_id]; exact h
    bnew := by
      show (updB id t s.books).Pairwise _
      unfold updB
      rw [List.pairwise_map]
      have := (p.bnew.and p.binc).imp_of_mem (S := fun a b => (if a.id = id then (⟨a.id, t⟩ : Book) else a).name ≠ (if b.id = id then (⟨b.id, t⟩ : Book) else b).name) fun {a b} ha hb ⟨hab, hlt⟩ => by
        by_cases e1 : a.id = id
        · have e2 : ¬ b.id = id := by omega
          rw [if_pos e1, if_neg e2]
          exact fun e => e2 (ho b hb e.symm)
        · by_cases e2 : b.id = id
          · rw [if_neg e1, if_pos e2]
            exact fun e => e1 (ho a ha e)
          · rw [if_neg e1, if_neg e2]; exact hab
      exact this
    nbook := fun n hn => by
      obtain ⟨b, hb, e⟩ := p.nbook n hn
      exact ⟨_, List.mem_map.2 ⟨b, hb, rfl⟩, by rw [updB_id]; exact e⟩ }
theorem drop_may {s : Shelf} {id : Int} (h : dropE s id = 0) : MayP (dropR s id).s := by
  obtain ⟨h0, h1⟩ := dropE_zero.1 h
  have p := mayS_iff.1 h0
  rw [dropR, resOf_ok h]
  have q := p.subNotes (Y := s.notes.filter (fun n => !(n.book == id))) List.filter_sublist
  have hs : (s.books.filter (fun b => !(b.id == id))).Sublist s.books := List.filter_sublist
  have m := fun b (hb : b ∈ s.books.filter (fun b => !(b.id == id))) => hs.subset hb
  exact { q with
    bl := Nat.le_trans hs.length_le p.bl
    bid := fun b hb => p.bid b (m b hb)
    bmay := fun b hb => p.bmay b (m b hb)
    binc := p.binc.sublist hs
    bnew := p.bnew.sublist hs
    nbook := fun n hn => by
      obtain ⟨hn1, hn2⟩ := List.mem_filter.1 hn
      obtain ⟨b, hb, e⟩ := p.nbook n hn1
      exact ⟨b, List.mem_filter.2 ⟨hb, by rw [e]; exact hn2⟩, e⟩ }
theorem discard_may {s : Shelf} {id : Int} (h : noteE s id = 0) : MayP (discardR s id).s := by
  obtain ⟨h0, h1⟩ := noteE_zero.1 h
  rw [discardR, resOf_ok h]
  exact (mayS_iff.1 h0).subNotes List.filter_sublist
theorem any_title {l : List Note} {q : Int} {t : ByteArray} {but : Int} : l.any (titleB q t but) = false ↔ ∀ x ∈ l, x.book = q → x.name = t → x.id = but := by
  rw [List.any_eq_false]
  constructor
  · intro h x hx e1 e2
    apply Classical.byContradiction
    intro e3
    exact h x hx (by unfold titleB; simp [e1, e2, e3])
  · intro h x hx e
    unfold titleB at e
    rw [Bool.and_eq_true, Bool.and_eq_true, beq_iff_eq, toList_eq, bne_iff_ne] at e
    exact e.2 (h x hx e.1.1 e.1.2)
theorem add_may {s : Shelf} {id : Int} {t : ByteArray} (h : addE s id t = 0) : MayP (addR s id t).s := by
  obtain ⟨h0, h1, h2, h3, h4, h5⟩ := addE_zero.1 h
  have p := mayS_iff.1 h0
  rw [addR, resOf_ok h]
  have ht := any_title.1 h3
  have pnn := p.nn
  have m : ∀ {b : Note}, b ∈ s.notes ++ [⟨s.nn, id, t, [], []⟩] → b ∈ s.notes ∨ b = ⟨s.nn, id, t, [], []⟩ := fun hb => by simpa using hb
  have fl : (s.notes ++ [(⟨s.nn, id, t, [], []⟩ : Note)]).flatMap (·.sheets) = s.notes.flatMap (·.sheets) := by simp
  exact { p with
    nn := by show 1 ≤ s.nn + 1 ∧ s.nn + 1 ≤ 65536; omega
    nl := by show (s.notes ++ [_]).length ≤ 12; rw [List.length_append]; simp; omega
    nid := fun b hb => by
      show 1 ≤ b.id ∧ b.id ≤ s.nn + 1 - 1
      rcases m hb with hb | rfl
      · have := p.nid b hb; omega
      · show 1 ≤ s.nn ∧ s.nn ≤ _; omega
    nmay := fun b hb => by
      rcases m hb with hb | rfl
      · exact p.nmay b hb
      · exact h2
    nbook := fun n hn => by
      rcases m hn with hn | rfl
      · exact p.nbook n hn
      · exact bookIx_pos.1 h1
    ninc := List.pairwise_append.2 ⟨p.ninc, by simp, fun a ha b hb => by
      have e : b = ⟨s.nn, id, t, [], []⟩ := by simpa using hb
      have := p.nid a ha
      rw [e]; show a.id < s.nn; omega⟩
    nnew := List.pairwise_append.2 ⟨p.nnew, by simp, fun a ha b hb => by
      have e : b = ⟨s.nn, id, t, [], []⟩ := by simpa using hb
      rw [e]
      rintro ⟨e1, e2⟩
      have := ht a ha e1 e2
      have := p.nid a ha
      omega⟩
    tmay := fun n hn => by
      rcases m hn with hn | rfl
      · exact p.tmay n hn
      · intro t ht; cases ht
    tinc := fun n hn => by
      rcases m hn with hn | rfl
      · exact p.tinc n hn
      · exact .nil
    tl := fun n hn => by
      rcases m hn with hn | rfl
      · exact p.tl n hn
      · simp
    sl := fun n hn => by
      rcases m hn with hn | rfl
      · exact p.sl n hn
      · simp
    sid := by show ∀ x ∈ (s.notes ++ [(⟨s.nn, id, t, [], []⟩ : Note)]).flatMap (·.sheets), _; rw [fl]; exact p.sid
    snew := by show ((s.notes ++ [(⟨s.nn, id, t, [], []⟩ : Note)]).flatMap (·.sheets)).Nodup; rw [fl]; exact p.snew }
theorem updN_mem {id : Int} {f : Note → Note} {l : List Note} {b : Note} (h : b ∈ updN id f l) : ∃ a, (a ∈ l ∧ a.id = id ∧ b = f a) ∨ (a ∈ l ∧ a.id ≠ id ∧ b = a) := by
  unfold updN at h
  obtain ⟨a, ha, rfl⟩ := List.mem_map.1 h
  by_cases e : a.id = id
  · exact ⟨a, .inl ⟨ha, e, by simp [e]⟩⟩
  · exact ⟨a, .inr ⟨ha, e, by simp [e]⟩⟩
/-- One note is changed: what is to be seen of it. -/
theorem MayP.upd {s : Shelf} (p : MayP s) (id : Int) (f : Note → Note) {ns' : Int} (hns : 1 ≤ ns' ∧ ns' ≤ 4096)
    (h1 : ∀ n ∈ s.notes, n.id = id → (f n).id = n.id ∧ mayB (f n).name = true ∧ (∃ b ∈ s.books, b.id = (f n).book) ∧ (∀ t ∈ (f n).tags, mayB t = true) ∧ (f n).tags.Pairwise (fun a b => ltS a b = true) ∧ (f n).tags.length ≤ 4 ∧ (f n).sheets.length ≤ 8)
    (h2 : ∀ n ∈ s.notes, n.id = id → ∀ y ∈ s.notes, y.id ≠ id → ¬ (y.book = (f n).book ∧ y.name = (f n).name))
    (h3 : ∀ x ∈ (updN id f s.notes).flatMap (·.sheets), 1 ≤ x ∧ x ≤ ns' - 1) (h4 : ((updN id f s.notes).flatMap (·.sheets)).Nodup) : MayP { s with ns := ns', notes := updN id f s.notes } := by
  have hid : ∀ n ∈ s.notes, (if n.id = id then f n else n).id = n.id := fun n hn => by
    by_cases e : n.id = id
    · rw [if_pos e]; exact (h1 n hn e).1
    · rw [if_neg e]
  have m : ∀ {P : Note → Prop}, (∀ n ∈ s.notes, n.id = id → P (f n)) → (∀ n ∈ s.notes, P n) → ∀ n ∈ updN id f s.notes, P n := fun a b n hn => by
    obtain ⟨x, ⟨hx, e, rfl⟩ | ⟨hx, e, rfl⟩⟩ := updN_mem hn
    · exact a x hx e
    · exact b _ hx
  exact { p with
    ns := hns
    nl := by show (updN id f s.notes).length ≤ 12; unfold updN; rw [List.length_map]; exact p.nl
    nid := m (fun n hn e => by rw [(h1 n hn e).1]; exact p.nid n hn) p.nid
    nmay := m (fun n hn e => (h1 n hn e).2.1) p.nmay
    nbook := m (fun n hn e => (h1 n hn e).2.2.1) p.nbook
    tmay := m (fun n hn e => (h1 n hn e).2.2.2.1) p.tmay
    tinc := m (fun n hn e => (h1 n hn e).2.2.2.2.1) p.tinc
    tl := m (fun n hn e => (h1 n hn e).2.2.2.2.2.1) p.tl
    sl := m (fun n hn e => (h1 n hn e).2.2.2.2.2.2) p.sl
    ninc := by
      show (updN id f s.notes).Pairwise _
      unfold updN
      rw [List.pairwise_map]
      exact p.ninc.imp_of_mem fun {a b} ha hb h => by rw [hid a ha, hid b hb]; exact h
    nnew := by
      show (updN id f s.notes).Pairwise _
      unfold updN
      rw [List.pairwise_map]
      exact (p.nnew.and p.ninc).imp_of_mem fun {a b} ha hb ⟨hab, hlt⟩ => by
        by_cases e1 : a.id = id
        · have e2 : ¬ b.id = id := by omega
          rw [if_pos e1, if_neg e2]
          exact fun e => h2 a ha e1 b hb e2 ⟨e.1.symm, e.2.symm⟩
        · by_cases e2 : b.id = id
          · rw [if_neg e1, if_pos e2]
            exact h2 b hb e2 a ha e1
          · rw [if_neg e1, if_neg e2]; exact hab
    sid := h3, snew := h4 }
theorem flat_same {id : Int} {f : Note → Note} (hf : ∀ n, (f n).sheets.Sublist n.sheets) (l : List Note) : ((updN id f l).flatMap (·.sheets)).Sublist (l.flatMap (·.sheets)) :=
  flat_sub2 (fun n : Note => n.sheets) _ l fun x _ => by
    show (if x.id = id then f x else x).sheets.Sublist x.sheets
    split
    · exact hf x
    · exact List.Sublist.refl _
theorem upd_same {s : Shelf} (p : MayP s) (id : Int) (f : Note → Note) (hf : ∀ n, (f n).sheets.Sublist n.sheets)
    (h1 : ∀ n ∈ s.notes, n.id = id → (f n).id = n.id ∧ mayB (f n).name = true ∧ (∃ b ∈ s.books, b.id = (f n).book) ∧ (∀ t ∈ (f n).tags, mayB t = true) ∧ (f n).tags.Pairwise (fun a b => ltS a b = true) ∧ (f n).tags.length ≤ 4)
    (h2 : ∀ n ∈ s.notes, n.id = id → ∀ y ∈ s.notes, y.id ≠ id → ¬ (y.book = (f n).book ∧ y.name = (f n).name)) : MayP { s with notes := updN id f s.notes } :=
  p.upd id f p.ns (fun n hn e => by
    obtain ⟨a, b, c, d, e1, e2⟩ := h1 n hn e
    exact ⟨a, b, c, d, e1, e2, Nat.le_trans (hf n).length_le (p.sl n hn)⟩) h2 (fun x hx => p.sid x ((flat_same hf _).subset hx)) (p.snew.sublist (flat_same hf _))
theorem other_new {s : Shelf} (p : MayP s) {n y : Note} (hn : n ∈ s.notes) (hy : y ∈ s.notes) (e : y.id ≠ n.id) : ¬ (y.book = n.book ∧ y.name = n.name) := by
  obtain ⟨i, hi⟩ := List.getElem?_of_mem hn
  obtain ⟨j, hj⟩ := List.getElem?_of_mem hy
  rcases Nat.lt_trichotomy i j with h | h | h
  · exact fun c => pair_get p.nnew hi hj h ⟨c.1.symm, c.2.symm⟩
  · subst h; rw [hi] at hj; exact absurd (by rw [Option.some.inj hj]) e
  · exact pair_get p.nnew hj hi h
theorem retitle_may {s : Shelf} {id : Int} {t : ByteArray} (h : retitleE s id t = 0) : MayP (retitleR s id t).s := by
  obtain ⟨h0, h1, h2, h3⟩ := retitleE_zero.1 h
  have p := mayS_iff.1 h0
  rw [retitleR, resOf_ok h]
  have ht := any_title.1 h3
  refine upd_same p id _ (fun n => List.Sublist.refl _) (fun n hn e => ⟨rfl, h2, p.nbook n hn, p.tmay n hn, p.tinc n hn, p.tl n hn⟩) fun n hn e y hy hne => ?_
  have : n = noteOf s id := p.note_eq hn (noteOf_mem h1) (by rw [e, (noteOf_get h1).2])
  rintro ⟨e1, e2⟩
  exact hne (ht y hy (by rw [e1, ← this]) e2)
theorem move_may {s : Shelf} {id q : Int} (h : moveE s id q = 0) : MayP (moveR s id q).s := by
  obtain ⟨h0, h1, h2, h3⟩ := moveE_zero.1 h
  have p := mayS_iff.1 h0
  rw [moveR, resOf_ok h]
  have ht := any_title.1 h3
  refine upd_same p id _ (fun n => List.Sublist.refl _) (fun n hn e => ⟨rfl, p.nmay n hn, bookIx_pos.1 h2, p.tmay n hn, p.tinc n hn, p.tl n hn⟩) fun n hn e y hy hne => ?_
  have : n = noteOf s id := p.note_eq hn (noteOf_mem h1) (by rw [e, (noteOf_get h1).2])
  rintro ⟨e1, e2⟩
  exact hne (ht y hy e1 (by rw [e2, ← this]))
theorem hasT_iff {t : ByteArray} {l : List ByteArray} : hasT t l = true ↔ t ∈ l := by
  unfold hasT
  rw [List.any_eq_true]
  constructor
  · rintro ⟨x, hx, e⟩; rw [← toList_eq.1 e]; exact hx
  · intro h; exact ⟨t, h, by simp⟩
theorem hasT_no {t : ByteArray} {l : List ByteArray} : hasT t l = false ↔ t ∉ l := by
  rw [← hasT_iff]; cases hasT t l <;> simp
theorem insT_mem {t x : ByteArray} : ∀ {l : List ByteArray}, x ∈ insT t l ↔ x = t ∨ x ∈ l
  | [] => by simp [insT]
  | y :: l => by
    unfold insT
    split
    · rw [List.mem_cons, insT_mem (l := l), List.mem_cons]
      constructor
      · rintro (h | h | h)
        · exact .inr (.inl h)
        · exact .inl h
        · exact .inr (.inr h)
      · rintro (h | h | h)
        · exact .inr (.inl h)
        · exact .inl h
        · exact .inr (.inr h)
    · rw [List.mem_cons]
theorem insT_length (t : ByteArray) : ∀ l : List ByteArray, (insT t l).length = l.length + 1
  | [] => rfl
  | y :: l => by
    unfold insT
    split
    · rw [List.length_cons, insT_length t l, List.length_cons]
    · rfl
theorem insT_inc {t : ByteArray} : ∀ {l : List ByteArray}, l.Pairwise (fun a b => ltS a b = true) → t ∉ l → (insT t l).Pairwise (fun a b => ltS a b = true)
  | [], _, _ => by simp [insT]
  | y :: l, h, hn => by
    obtain ⟨h1, h2⟩ := List.pairwise_cons.1 h
    unfold insT
    split
    · rename_i hlt
      refine List.pairwise_cons.2 ⟨fun z hz => ?_, insT_inc h2 (fun hh => hn (List.mem_cons_of_mem _ hh))⟩
      rcases insT_mem.1 hz with rfl | hz
      · exact hlt
      · exact h1 z hz
    · rename_i hlt
      have hyt : ltS t y = true := by
        cases e : ltS t y with
        | true => rfl
        | false => exact absurd (ltS_total e (by simpa using hlt)) (fun e => hn (by rw [e]; simp))
      refine List.pairwise_cons.2 ⟨fun z hz => ?_, h⟩
      rcases List.mem_cons.1 hz with rfl | hz
      · exact hyt
      · exact ltS_trans hyt (h1 z hz)
theorem tag_may {s : Shelf} {id : Int} {t : ByteArray} (h : tagE s id t = 0) : MayP (tagR s id t).s := by
  obtain ⟨h0, h1, h2, h3, h4⟩ := tagE_zero.1 h
  have p := mayS_iff.1 h0
  rw [tagR, resOf_ok h]
  refine upd_same p id _ (fun n => List.Sublist.refl _) (fun n hn e => ?_) fun n hn e y hy hne => other_new (n := n) p hn hy (by rw [e]; exact hne)
  have en : n = noteOf s id := p.note_eq hn (noteOf_mem h1) (by rw [e, (noteOf_get h1).2])
  refine ⟨rfl, p.nmay n hn, p.nbook n hn, fun x hx => ?_, insT_inc (p.tinc n hn) (by rw [en]; exact hasT_no.1 h3), ?_⟩
  · rcases insT_mem.1 hx with rfl | hx
    · exact h2
    · exact p.tmay n hn x hx
  · show (insT t n.tags).length ≤ 4
    rw [insT_length, en]; omega
theorem untag_may {s : Shelf} {id : Int} {t : ByteArray} (h : untagE s id t = 0) : MayP (untagR s id t).s := by
  obtain ⟨h0, h1, h2⟩ := untagE_zero.1 h
  have p := mayS_iff.1 h0
  rw [untagR, resOf_ok h]
  refine upd_same p id _ (fun n => List.Sublist.refl _) (fun n hn e => ?_) fun n hn e y hy hne => other_new (n := n) p hn hy (by rw [e]; exact hne)
  have hs : (n.tags.filter (fun x => !(x.toList == t.toList))).Sublist n.tags := List.filter_sublist
  exact ⟨rfl, p.nmay n hn, p.nbook n hn, fun x hx => p.tmay n hn x (hs.subset hx), (p.tinc n hn).sublist hs, Nat.le_trans hs.length_le (p.tl n hn)⟩
theorem remove_may {s : Shelf} {id k : Int} (h : sheetE s id k = 0) : MayP (removeR s id k).s := by
  obtain ⟨h0, h1, h2⟩ := sheetE_zero.1 h
  have p := mayS_iff.1 h0
  rw [removeR, resOf_ok h]
  exact upd_same p id _ (fun n => List.eraseIdx_sublist _ _) (fun n hn e => ⟨rfl, p.nmay n hn, p.nbook n hn, p.tmay n hn, p.tinc n hn, p.tl n hn⟩) fun n hn e y hy hne => other_new (n := n) p hn hy (by rw [e]; exact hne)
theorem append_flat {id x : Int} : ∀ {l : List Note}, l.Pairwise (fun a b => a.id < b.id) → (∃ n ∈ l, n.id = id) → ((updN id (fun n => { n with sheets := n.sheets ++ [x] }) l).flatMap (·.sheets)).Perm (x :: l.flatMap (·.sheets))
  | [], _, h => by obtain ⟨n, hn, -⟩ := h; cases hn
  | y :: l, h, hh => by
    obtain ⟨h1, h2⟩ := List.pairwise_cons.1 h
    unfold updN
    rw [List.map_cons, List.flatMap_cons, List.flatMap_cons]
    by_cases e : y.id = id
    · rw [if_pos e]
      have : (l.map fun n => if n.id = id then { n with sheets := n.sheets ++ [x] } else n) = l := by
        conv => rhs; rw [← List.map_id l]
        apply List.map_congr_left
        intro n hn
        have := h1 n hn
        rw [if_neg (by omega)]; rfl
      rw [this]
      show (y.sheets ++ [x] ++ l.flatMap (·.sheets)).Perm _
      rw [List.append_assoc]
      exact List.perm_middle
    · rw [if_neg e]
      have ih := append_flat h2 (id := id) (x := x) (by
        obtain ⟨n, hn, e2⟩ := hh
        rcases List.mem_cons.1 hn with rfl | hn
        · exact absurd e2 e
        · exact ⟨n, hn, e2⟩)
      exact (ih.append_left y.sheets).trans List.perm_middle
theorem append_may {s : Shelf} {id : Int} (h : appendE s id = 0) : MayP (appendR s id).s := by
  obtain ⟨h0, h1, h2, h3⟩ := appendE_zero.1 h
  have p := mayS_iff.1 h0
  rw [appendR, resOf_ok h]
  have pf := append_flat (id := id) (x := s.ns) p.ninc (noteIx_pos.1 h1)
  have pns := p.ns
  refine p.upd id _ (ns' := s.ns + 1) ⟨by omega, by omega⟩ (fun n hn e => ?_) (fun n hn e y hy hne => other_new (n := n) p hn hy (by rw [e]; exact hne)) (fun x hx => ?_) ?_
  · have en : n = noteOf s id := p.note_eq hn (noteOf_mem h1) (by rw [e, (noteOf_get h1).2])
    refine ⟨rfl, p.nmay n hn, p.nbook n hn, p.tmay n hn, p.tinc n hn, p.tl n hn, ?_⟩
    show (n.sheets ++ [s.ns]).length ≤ 8
    rw [List.length_append, en]; simp; omega
  · rcases List.mem_cons.1 (pf.mem_iff.1 hx) with rfl | hx
    · omega
    · have := p.sid x hx; omega
  · rw [pf.nodup_iff, List.nodup_cons]
    exact ⟨fun hm => by have := p.sid _ hm; omega, p.snew⟩
end Go.Proofs.YtnajccljdjllgaaDoor
