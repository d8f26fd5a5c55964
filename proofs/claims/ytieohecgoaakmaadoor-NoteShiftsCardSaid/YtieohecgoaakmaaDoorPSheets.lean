/- A sheet that was appended, or removed: plain words. -/
import Derived.Test.YtieohecgoaakmaaDoorPTags
set_option linter.unusedVariables false
set_option linter.unusedSimpArgs false
namespace Go.Proofs.YtieohecgoaakmaaDoor
open Go.RowKit Go.Lib
theorem append_s {s : Shelf} {id : Int} (h : appendE s id = 0) : appendR s id = ⟨{ s with ns := s.ns + 1, notes := updN id (fun n => { n with sheets := n.sheets ++ [s.ns] }) s.notes }, s.ns, 0⟩ := resOf_ok h _ _
theorem remove_s {s : Shelf} {id k : Int} (h : sheetE s id k = 0) : removeR s id k = ⟨{ s with notes := updN id (fun n => { n with sheets := n.sheets.eraseIdx k.toNat }) s.notes }, sheetN s id k, 0⟩ := resOf_ok h _ _
/-- Which sheet stands where, of a note that is there. -/
theorem sheet_at {s : Shelf} {id : Int} (hm : mayS s = true) (h1 : 0 ≤ noteIx s id) {i : Nat} {y : Int} (hy : (noteOf s id).sheets[i]? = some y) : sheetE s id i = 0 ∧ sheetV s id i = y ∧ sheetN s id i = y := by
  have hi := (List.getElem?_eq_some_iff.1 hy).1
  have hE : sheetE s id i = 0 := sheetE_zero.2 ⟨hm, h1, by omega, by omega⟩
  have hN : sheetN s id i = y := by unfold sheetN; rw [Int.toNat_natCast]; exact getD_of hy
  exact ⟨hE, by unfold sheetV; rw [if_pos hE, hN], hN⟩
theorem sheet_past {s : Shelf} {id : Int} (hm : mayS s = true) (h1 : 0 ≤ noteIx s id) {k : Int} (hk : ((noteOf s id).sheets.length : Int) ≤ k) : sheetE s id k = 2 := by
  unfold sheetE
  rw [if_neg (by rw [hm]; simp), if_neg (by omega), if_pos (.inr hk)]
theorem found_of {s : Shelf} {id : Int} (h : noteE s id = 0) : foundB s id = true ∧ foundN s id = noteOf s id := ⟨by unfold foundB; rw [h]; rfl, if_pos h⟩
theorem not_found {s : Shelf} {id : Int} (h : noteE s id ≠ 0) : foundB s id = false := decide_eq_false h
theorem noteE_may {s : Shelf} {id : Int} (hm : mayS s = true) (h : noteE s id ≠ 0) : noteE s id = 4 := by
  unfold noteE at h ⊢
  rw [if_neg (by rw [hm]; simp)] at h ⊢
  split at h
  · rename_i h2; rw [if_pos h2]
  · exact absurd rfl h
theorem append_all {s : Shelf} {id : Int} (h : appendE s id = 0) :
    foundB s id = true ∧ foundN s id = noteOf s id ∧ (∀ (i : Nat) y, (noteOf s id).sheets[i]? = some y → sheetE (appendR s id).s id i = 0 ∧ sheetV (appendR s id).s id i = y) ∧
      sheetE (appendR s id).s id ((noteOf s id).sheets.length : Nat) = 0 ∧ sheetV (appendR s id).s id ((noteOf s id).sheets.length : Nat) = s.ns ∧
      removeR (appendR s id).s id ((noteOf s id).sheets.length : Nat) = ⟨{ s with ns := s.ns + 1 }, s.ns, 0⟩ ∧ sheetE (appendR s id).s id (((noteOf s id).sheets.length : Nat) + 1) = 2 := by
  obtain ⟨h0, h1, h2, h3⟩ := appendE_zero.1 h
  have p := mayS_iff.1 h0
  have q := append_may h
  rw [append_s h] at q ⊢
  obtain ⟨n1, n2⟩ := upd_note (f := fun n => { n with sheets := n.sheets ++ [s.ns] }) (ns' := s.ns + 1) (fun _ => rfl) h1 q
  have hE : noteE s id = 0 := noteE_zero.2 ⟨h0, h1⟩
  have hm := mayS_iff.2 q
  have hsh : (noteOf { s with ns := s.ns + 1, notes := updN id (fun n => { n with sheets := n.sheets ++ [s.ns] }) s.notes } id).sheets = (noteOf s id).sheets ++ [s.ns] := congrArg Note.sheets n2
  have hl : ((noteOf s id).sheets ++ [s.ns])[(noteOf s id).sheets.length]? = some s.ns := by simp
  have ha := sheet_at hm n1 (i := (noteOf s id).sheets.length) (y := s.ns) (by rw [hsh]; exact hl)
  refine ⟨(found_of hE).1, (found_of hE).2, fun i y hy => ?_, ha.1, ha.2.1, ?_, sheet_past hm n1 (by rw [hsh, List.length_append]; simp)⟩
  · have := sheet_at hm n1 (i := i) (y := y) (by rw [hsh, List.getElem?_append_left (List.getElem?_eq_some_iff.1 hy).1]; exact hy)
    exact ⟨this.1, this.2.1⟩
  · rw [remove_s ha.1]
    have e : updN id (fun n => { n with sheets := n.sheets.eraseIdx (((noteOf s id).sheets.length : Nat) : Int).toNat }) (updN id (fun n => { n with sheets := n.sheets ++ [s.ns] }) s.notes) = s.notes := by
      rw [updN_updN (f := fun n => { n with sheets := n.sheets ++ [s.ns] }) fun _ => rfl]
      refine updN_id fun n hn e => ?_
      have : n = noteOf s id := p.note_eq hn (noteOf_mem h1) (by rw [e, (noteOf_get h1).2])
      show ({ n with sheets := (n.sheets ++ [s.ns]).eraseIdx (((noteOf s id).sheets.length : Nat) : Int).toNat } : Note) = n
      rw [← this, Int.toNat_natCast, List.eraseIdx_append_of_length_le (Nat.le_refl _)]
      simp
    rw [ha.2.2]
    show (⟨⟨s.nb, s.nn, s.ns + 1, s.books, updN id (fun n => { n with sheets := n.sheets.eraseIdx (((noteOf s id).sheets.length : Nat) : Int).toNat }) (updN id (fun n => { n with sheets := n.sheets ++ [s.ns] }) s.notes)⟩, s.ns, 0⟩ : Res) = _
    rw [e]
theorem append_no {s : Shelf} {id : Int} (hm : mayS s = true) (h : appendE s id ≠ 0) : (foundB s id = false ∧ appendE s id = 4) ∨ (foundB s id = true ∧ appendE s id = 3) := by
  by_cases hE : noteE s id = 0
  · right
    refine ⟨(found_of hE).1, ?_⟩
    obtain ⟨h0, h1⟩ := noteE_zero.1 hE
    unfold appendE at h ⊢
    rw [if_neg (by rw [hm]; simp), if_neg (by omega)] at h ⊢
    split at h
    · rename_i h2; rw [if_pos h2]
    · exact absurd rfl h
  · left
    exact ⟨not_found hE, by rw [appendE_of hE]; exact noteE_may hm hE⟩
theorem remove_all {s : Shelf} {id : Int} {q : Nat} (hE : noteE s id = 0) (hq : q < (noteOf s id).sheets.length) :
    sheetE s id q = 0 ∧ mayS (removeR s id q).s = true ∧ (∀ (k : Nat), k + 1 < (noteOf s id).sheets.length → ∃ y, (noteOf s id).sheets[if k < q then k else k + 1]? = some y ∧ sheetE (removeR s id q).s id k = 0 ∧ sheetV (removeR s id q).s id k = y) ∧
      sheetE (removeR s id q).s id (((noteOf s id).sheets.length : Nat) - 1) = 2 ∧
      (∀ n ∈ s.notes, noteE (removeR s id q).s n.id = 0 ∧ (n.id ≠ id → noteOf (removeR s id q).s n.id = n)) := by
  obtain ⟨h0, h1⟩ := noteE_zero.1 hE
  have p := mayS_iff.1 h0
  have hS : sheetE s id q = 0 := sheetE_zero.2 ⟨h0, h1, by omega, by omega⟩
  have r := remove_may hS
  rw [remove_s hS] at r ⊢
  obtain ⟨n1, n2⟩ := upd_note (f := fun n => { n with sheets := n.sheets.eraseIdx (q : Int).toNat }) (ns' := s.ns) (fun _ => rfl) h1 r
  have hm := mayS_iff.2 r
  have hsh : (noteOf { s with notes := updN id (fun n => { n with sheets := n.sheets.eraseIdx (q : Int).toNat }) s.notes } id).sheets = (noteOf s id).sheets.eraseIdx q := by
    have := congrArg Note.sheets n2
    rw [Int.toNat_natCast] at this
    exact this
  refine ⟨hS, hm, fun k hk => ?_, sheet_past hm n1 (by rw [hsh, List.length_eraseIdx_of_lt hq]; omega), fun n hn => ?_⟩
  · have hlt : (if k < q then k else k + 1) < (noteOf s id).sheets.length := by split <;> omega
    have hy := List.getElem?_eq_getElem hlt
    refine ⟨_, hy, ?_⟩
    have := sheet_at hm n1 (i := k) (y := (noteOf s id).sheets[if k < q then k else k + 1]) (by rw [hsh, List.getElem?_eraseIdx, ← hy]; split <;> rfl)
    exact ⟨this.1, this.2.1⟩
  · have key : ∀ m ∈ updN id (fun n => { n with sheets := n.sheets.eraseIdx (q : Int).toNat }) s.notes, m.id = n.id → noteE { s with notes := updN id (fun n => { n with sheets := n.sheets.eraseIdx (q : Int).toNat }) s.notes } n.id = 0 ∧ noteOf { s with notes := updN id (fun n => { n with sheets := n.sheets.eraseIdx (q : Int).toNat }) s.notes } n.id = m := fun m hmem e => by
      have := noteOf_of (s := { s with notes := updN id (fun n => { n with sheets := n.sheets.eraseIdx (q : Int).toNat }) s.notes }) r hmem
      rw [e] at this
      exact ⟨noteE_zero.2 ⟨hm, this.1⟩, this.2⟩
    by_cases e : n.id = id
    · have hmem : ({ n with sheets := n.sheets.eraseIdx (q : Int).toNat } : Note) ∈ updN id (fun n => { n with sheets := n.sheets.eraseIdx (q : Int).toNat }) s.notes := List.mem_map.2 ⟨n, hn, by rw [if_pos e]⟩
      exact ⟨(key _ hmem rfl).1, fun h => absurd e h⟩
    · have hmem : n ∈ updN id (fun n => { n with sheets := n.sheets.eraseIdx (q : Int).toNat }) s.notes := List.mem_map.2 ⟨n, hn, by rw [if_neg e]⟩
      exact ⟨(key _ hmem rfl).1, fun _ => (key _ hmem rfl).2⟩
end Go.Proofs.YtieohecgoaakmaaDoor
