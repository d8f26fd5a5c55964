/- What was made and dropped again, renamed twice, moved there and back: plain words. -/
import Derived.Test.YtieohecgoaakmaaDoorOut
set_option linter.unusedVariables false
set_option linter.unusedSimpArgs false
namespace Go.Proofs.YtieohecgoaakmaaDoor
open Go.RowKit Go.Lib
theorem make_s {s : Shelf} {t : ByteArray} (h : makeE s t = 0) : makeR s t = ⟨{ s with nb := s.nb + 1, books := s.books ++ [⟨s.nb, t⟩] }, s.nb, 0⟩ := resOf_ok h _ _
theorem filter_self {α : Type} {p : α → Bool} {l : List α} (h : ∀ x ∈ l, p x = true) : l.filter p = l := List.filter_eq_self.2 h
theorem drop_back {s : Shelf} {t : ByteArray} (h : makeE s t = 0) : dropR (makeR s t).s s.nb = ⟨{ s with nb := s.nb + 1 }, 0, 0⟩ := by
  have p := mayS_iff.1 (makeE_zero.1 h).1
  have q := make_may h
  rw [make_s h] at q ⊢
  have hd : dropE { s with nb := s.nb + 1, books := s.books ++ [⟨s.nb, t⟩] } s.nb = 0 := dropE_zero.2 ⟨mayS_iff.2 q, bookIx_pos.2 ⟨⟨s.nb, t⟩, by simp, rfl⟩⟩
  rw [dropR, resOf_ok hd]
  have e1 : (s.books ++ [(⟨s.nb, t⟩ : Book)]).filter (fun b => !(b.id == s.nb)) = s.books := by
    rw [List.filter_append, filter_self fun x hx => by have := p.bid x hx; simp; omega]
    simp
  have e2 : s.notes.filter (fun n => !(n.book == s.nb)) = s.notes := filter_self fun x hx => by
    obtain ⟨b, hb, e⟩ := p.nbook x hx
    have := p.bid b hb
    simp; omega
  show (⟨⟨s.nb + 1, s.nn, s.ns, (s.books ++ [(⟨s.nb, t⟩ : Book)]).filter (fun b => !(b.id == s.nb)), s.notes.filter (fun n => !(n.book == s.nb))⟩, 0, 0⟩ : Res) = _
  rw [e1, e2]
theorem name_or {s : Shelf} (p : MayP s) {id : Int} {t : ByteArray} (h0 : 0 ≤ bookIx s id) (h : ∀ b ∈ s.books, b.name = t → b.id = id) : nameIx s.books t < 0 ∨ nameIx s.books t = bookIx s id := by
  by_cases hn : nameIx s.books t < 0
  · exact .inl hn
  · right
    obtain ⟨x, hx, hp⟩ := idx_get (p := fun x : Book => x.name.toList == t.toList) (l := s.books) (i := nameIx s.books t) rfl (by omega)
    obtain ⟨y, hy, hq⟩ := idx_get (p := fun x : Book => x.id == id) (l := s.books) (i := bookIx s id) rfl h0
    have e1 := h x (List.mem_of_getElem? hx) (toList_eq.1 hp)
    have e2 : y.id = id := by simpa using hq
    rcases Nat.lt_trichotomy (nameIx s.books t).toNat (bookIx s id).toNat with h1 | h1 | h1
    · have := pair_get p.binc hx hy h1; omega
    · omega
    · have := pair_get p.binc hy hx h1; omega
theorem rename_s {s : Shelf} {id : Int} {t : ByteArray} (h : renameE s id t = 0) : renameR s id t = ⟨{ s with books := updB id t s.books }, 0, 0⟩ := resOf_ok h _ _
theorem rename_back {s : Shelf} {t o : ByteArray} (h : makeE s t = 0) (hr : renameE (makeR s t).s s.nb o = 0) : renameR (renameR (makeR s t).s s.nb o).s s.nb t = ⟨(makeR s t).s, 0, 0⟩ := by
  obtain ⟨h0, h1, h2, h3, h4⟩ := makeE_zero.1 h
  have p := mayS_iff.1 h0
  have hn := nameIx_neg.1 h2
  have q := make_may h
  have q2 := rename_may hr
  generalize ha : (makeR s t).s = a at *
  have hab : a.books = s.books ++ [⟨s.nb, t⟩] := by rw [← ha, make_s h]
  have huniq : ∀ b ∈ a.books, b.name = t ↔ b.id = s.nb := fun b hb => by
    rw [hab] at hb
    rcases List.mem_append.1 hb with hb | hb
    · have := p.bid b hb
      exact ⟨fun e => absurd e (hn b hb), fun e => by omega⟩
    · rw [List.mem_singleton.1 hb]; simp
  rw [rename_s hr] at q2 ⊢
  have h5 : 0 ≤ bookIx { a with books := updB s.nb o a.books } s.nb := bookIx_pos.2 (by
    obtain ⟨x, hx, e⟩ := bookIx_pos.1 (renameE_zero.1 hr).2.1
    exact ⟨_, List.mem_map.2 ⟨x, hx, rfl⟩, by rw [updB_id]; exact e⟩)
  have h6 : renameE { a with books := updB s.nb o a.books } s.nb t = 0 := by
    refine renameE_zero.2 ⟨mayS_iff.2 q2, h5, h1, name_or q2 h5 fun b hb e => ?_⟩
    obtain ⟨x, hx, e1, ⟨e2, -⟩ | ⟨e2, e3⟩⟩ := updB_mem hb
    · rw [e1]; exact e2
    · exact absurd ((huniq x hx).1 (by rw [← e3]; exact e)) e2
  rw [rename_s h6]
  have e : updB s.nb t (updB s.nb o a.books) = a.books := by
    unfold updB
    rw [List.map_map]
    conv => rhs; rw [← List.map_id a.books]
    apply List.map_congr_left
    intro b hb
    show (if (if b.id = s.nb then (⟨b.id, o⟩ : Book) else b).id = s.nb then (⟨(if b.id = s.nb then (⟨b.id, o⟩ : Book) else b).id, t⟩ : Book) else (if b.id = s.nb then (⟨b.id, o⟩ : Book) else b)) = b
    by_cases e : b.id = s.nb
    · simp only [if_pos e]
      rw [← (huniq b hb).2 e]
    · simp only [if_neg e]
  show (⟨⟨a.nb, a.nn, a.ns, updB s.nb t (updB s.nb o a.books), a.notes⟩, 0, 0⟩ : Res) = _
  rw [e]
theorem move_s {s : Shelf} {id q : Int} (h : moveE s id q = 0) : moveR s id q = ⟨{ s with notes := updN id (fun n => { n with book := q }) s.notes }, 0, 0⟩ := resOf_ok h _ _
theorem move_back {s : Shelf} {id q : Int} (h : moveE s id q = 0) : moveR (moveR s id q).s id (noteOf s id).book = ⟨s, 0, 0⟩ ∧ foundN s id = noteOf s id ∧ foundB s id = true := by
  obtain ⟨h0, h1, h2, h3⟩ := moveE_zero.1 h
  have p := mayS_iff.1 h0
  have q2 := move_may h
  have hx := noteOf_mem h1
  have hxi := (noteOf_get h1).2
  have hE : noteE s id = 0 := noteE_zero.2 ⟨h0, h1⟩
  refine ⟨?_, if_pos hE, by unfold foundB; rw [hE]; rfl⟩
  rw [move_s h] at q2 ⊢
  have hmem : ({ noteOf s id with book := q } : Note) ∈ updN id (fun n => { n with book := q }) s.notes := List.mem_map.2 ⟨noteOf s id, hx, by rw [if_pos hxi]⟩
  have hn2 : 0 ≤ noteIx { s with notes := updN id (fun n => { n with book := q }) s.notes } id := noteIx_pos.2 ⟨_, hmem, hxi⟩
  have ho := noteOf_of (s := { s with notes := updN id (fun n => { n with book := q }) s.notes }) q2 hmem
  have ho2 : noteOf { s with notes := updN id (fun n => { n with book := q }) s.notes } id = { noteOf s id with book := q } := by
    have := ho.2
    rw [show ({ noteOf s id with book := q } : Note).id = id from hxi] at this
    exact this
  have h6 : moveE { s with notes := updN id (fun n => { n with book := q }) s.notes } id (noteOf s id).book = 0 := by
    refine moveE_zero.2 ⟨mayS_iff.2 q2, hn2, bookIx_pos.2 (p.nbook _ hx), any_title.2 fun y hy e1 e2 => ?_⟩
    rw [ho2] at e2
    obtain ⟨z, ⟨hz, ez, rfl⟩ | ⟨hz, ez, rfl⟩⟩ := updN_mem hy
    · exact ez
    · exact absurd ⟨e1, e2⟩ (other_new p hx hz (by rw [hxi]; exact ez))
  rw [move_s h6]
  have e : updN id (fun n => { n with book := (noteOf s id).book }) (updN id (fun n => { n with book := q }) s.notes) = s.notes := by
    unfold updN
    rw [List.map_map]
    conv => rhs; rw [← List.map_id s.notes]
    apply List.map_congr_left
    intro n hn
    by_cases e : n.id = id
    · have : n = noteOf s id := p.note_eq hn hx (by rw [e, hxi])
      show (if (if n.id = id then ({ n with book := q } : Note) else n).id = id then ({ (if n.id = id then ({ n with book := q } : Note) else n) with book := (noteOf s id).book } : Note) else (if n.id = id then ({ n with book := q } : Note) else n)) = n
      simp only [if_pos e]
      rw [← this]
    · simp [e]
  show (⟨⟨s.nb, s.nn, s.ns, s.books, updN id (fun n => { n with book := (noteOf s id).book }) (updN id (fun n => { n with book := q }) s.notes)⟩, 0, 0⟩ : Res) = _
  rw [e]
end Go.Proofs.YtieohecgoaakmaaDoor
