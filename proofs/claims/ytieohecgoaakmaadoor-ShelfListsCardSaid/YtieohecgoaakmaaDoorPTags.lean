/- A tag that was put on: plain words. -/
import Derived.Test.YtieohecgoaakmaaDoorOut
set_option linter.unusedVariables false
set_option linter.unusedSimpArgs false
namespace Go.Proofs.YtieohecgoaakmaaDoor
open Go.RowKit Go.Lib
theorem tag_s {s : Shelf} {id : Int} {t : ByteArray} (h : tagE s id t = 0) : tagR s id t = ⟨{ s with notes := updN id (fun n => { n with tags := insT t n.tags }) s.notes }, 0, 0⟩ := resOf_ok h _ _
theorem untag_s {s : Shelf} {id : Int} {t : ByteArray} (h : untagE s id t = 0) : untagR s id t = ⟨{ s with notes := updN id (fun n => { n with tags := n.tags.filter (fun x => !(x.toList == t.toList)) }) s.notes }, 0, 0⟩ := resOf_ok h _ _
/-- The note that was changed. -/
theorem upd_note {s : Shelf} {id : Int} {f : Note → Note} {ns' : Int} (hf : ∀ n, (f n).id = n.id) (h1 : 0 ≤ noteIx s id) (q : MayP { s with ns := ns', notes := updN id f s.notes }) :
    0 ≤ noteIx { s with ns := ns', notes := updN id f s.notes } id ∧ noteOf { s with ns := ns', notes := updN id f s.notes } id = f (noteOf s id) := by
  have hx := noteOf_mem h1
  have hxi := (noteOf_get h1).2
  have hmem : f (noteOf s id) ∈ updN id f s.notes := List.mem_map.2 ⟨noteOf s id, hx, by rw [if_pos hxi]⟩
  have ho := noteOf_of (s := { s with ns := ns', notes := updN id f s.notes }) q hmem
  rw [hf, hxi] at ho
  exact ho
theorem insT_filter {t : ByteArray} : ∀ {l : List ByteArray}, t ∉ l → (insT t l).filter (fun x => !(x.toList == t.toList)) = l
  | [], _ => by simp [insT]
  | y :: l, h => by
    have hy : y ≠ t := fun e => h (by rw [e]; simp)
    have hl : t ∉ l := fun e => h (List.mem_cons_of_mem _ e)
    have e1 : (!(y.toList == t.toList)) = true := by rw [toList_ne.2 hy]; rfl
    unfold insT
    split
    · rw [List.filter_cons_of_pos (p := fun x : ByteArray => !(x.toList == t.toList)) e1, insT_filter hl]
    · rw [List.filter_cons_of_neg (by simp), List.filter_cons_of_pos (p := fun x : ByteArray => !(x.toList == t.toList)) e1]
      congr 1
      exact List.filter_eq_self.2 fun x hx => by rw [toList_ne.2 (fun e => hl (by rw [← e]; exact hx))]; rfl
theorem updN_updN {id : Int} {f g : Note → Note} (hf : ∀ n, (f n).id = n.id) (l : List Note) : updN id g (updN id f l) = updN id (fun n => g (f n)) l := by
  unfold updN
  rw [List.map_map]
  apply List.map_congr_left
  intro n _
  by_cases e : n.id = id
  · have e2 : (f n).id = id := by rw [hf, e]
    simp [e, e2]
  · simp [e]
theorem updN_id {id : Int} {f : Note → Note} {l : List Note} (h : ∀ n ∈ l, n.id = id → f n = n) : updN id f l = l := by
  unfold updN
  conv => rhs; rw [← List.map_id l]
  apply List.map_congr_left
  intro n hn
  by_cases e : n.id = id
  · rw [if_pos e, h n hn e]; rfl
  · rw [if_neg e]; rfl
/-- A tag that was put on is there; taken off again all is as it was; it is not put on twice, nor taken off twice. -/
theorem tag_all {s : Shelf} {id : Int} {t : ByteArray} (h : tagE s id t = 0) :
    foundB (tagR s id t).s id = true ∧ (foundN (tagR s id t).s id).tags = insT t (noteOf s id).tags ∧ untagR (tagR s id t).s id t = ⟨s, 0, 0⟩ ∧ tagR (tagR s id t).s id t = bad 7 ∧ untagR s id t = bad 4 ∧
      (insT t (noteOf s id).tags).Pairwise (fun a b => ltS a b = true) ∧ t ∉ (noteOf s id).tags := by
  obtain ⟨h0, h1, h2, h3, h4⟩ := tagE_zero.1 h
  have p := mayS_iff.1 h0
  have q := tag_may h
  rw [tag_s h] at q ⊢
  obtain ⟨n1, n2⟩ := upd_note (f := fun n => { n with tags := insT t n.tags }) (ns' := s.ns) (fun _ => rfl) h1 q
  have hnot := hasT_no.1 h3
  have hE : noteE { s with notes := updN id (fun n => { n with tags := insT t n.tags }) s.notes } id = 0 := noteE_zero.2 ⟨mayS_iff.2 q, n1⟩
  have hin : hasT t (noteOf { s with notes := updN id (fun n => { n with tags := insT t n.tags }) s.notes } id).tags = true := by
    rw [show noteOf { s with notes := updN id (fun n => { n with tags := insT t n.tags }) s.notes } id = { noteOf s id with tags := insT t (noteOf s id).tags } from n2]
    exact hasT_iff.2 (insT_mem.2 (.inl rfl))
  have hU : untagE { s with notes := updN id (fun n => { n with tags := insT t n.tags }) s.notes } id t = 0 := untagE_zero.2 ⟨mayS_iff.2 q, n1, hin⟩
  refine ⟨by unfold foundB; rw [hE]; rfl, ?_, ?_, ?_, ?_, insT_inc (p.tinc _ (noteOf_mem h1)) hnot, hnot⟩
  · unfold foundN
    rw [if_pos hE]
    exact congrArg Note.tags n2
  · rw [untag_s hU]
    have e : updN id (fun n => { n with tags := n.tags.filter (fun x => !(x.toList == t.toList)) }) (updN id (fun n => { n with tags := insT t n.tags }) s.notes) = s.notes := by
      rw [updN_updN (f := fun n => { n with tags := insT t n.tags }) fun _ => rfl]
      refine updN_id fun n hn e => ?_
      have : n = noteOf s id := p.note_eq hn (noteOf_mem h1) (by rw [e, (noteOf_get h1).2])
      show ({ n with tags := (insT t n.tags).filter (fun x => !(x.toList == t.toList)) } : Note) = n
      rw [insT_filter (by rw [this]; exact hnot)]
    show (⟨⟨s.nb, s.nn, s.ns, s.books, updN id (fun n => { n with tags := n.tags.filter (fun x => !(x.toList == t.toList)) }) (updN id (fun n => { n with tags := insT t n.tags }) s.notes)⟩, 0, 0⟩ : Res) = _
    rw [e]
  · have : tagE { s with notes := updN id (fun n => { n with tags := insT t n.tags }) s.notes } id t = 7 := by
      unfold tagE
      rw [if_neg (by rw [mayS_iff.2 q]; simp), if_neg (by omega), if_neg (by rw [h2]; simp), if_pos hin]
    rw [tagR, this, resOf_no (by decide)]
  · have : untagE s id t = 4 := by
      unfold untagE
      rw [if_neg (by rw [h0]; simp), if_neg (by omega), if_pos h3]
    rw [untagR, this, resOf_no (by decide)]
theorem insT_count {t : ByteArray} : ∀ {l : List ByteArray}, t ∉ l → ((insT t l).filter (fun x => x.toList == t.toList)).length = 1
  | [], _ => by simp [insT]
  | y :: l, h => by
    have hy : y ≠ t := fun e => h (by rw [e]; simp)
    have hl : t ∉ l := fun e => h (List.mem_cons_of_mem _ e)
    have e1 : ¬ (y.toList == t.toList) = true := by rw [toList_ne.2 hy]; simp
    unfold insT
    split
    · rw [List.filter_cons_of_neg (p := fun x : ByteArray => x.toList == t.toList) e1, insT_count hl]
    · rw [List.filter_cons_of_pos (by simp), List.filter_cons_of_neg (p := fun x : ByteArray => x.toList == t.toList) e1]
      have : l.filter (fun x => x.toList == t.toList) = [] := List.filter_eq_nil_iff.2 fun x hx => by rw [toList_ne.2 (fun e => hl (by rw [← e]; exact hx))]; simp
      rw [this]; rfl
theorem bytesLeq' : ∀ (x z : List UInt8), (Op.bytesLess x z || (x == z)) = !Op.bytesLess z x
  | [], [] => rfl
  | [], _ :: _ => rfl
  | _ :: _, [] => rfl
  | a :: x, b :: z => by
    have ih := bytesLeq' x z
    unfold Op.bytesLess
    rcases Nat.lt_trichotomy a.toNat b.toNat with h | h | h
    · have h1 : a < b := h
      have h2 : ¬ b < a := by show ¬ b.toNat < a.toNat; omega
      have h3 : (b == a) = false := by rw [beq_eq_false_iff_ne]; rintro rfl; exact absurd h (Nat.lt_irrefl _)
      simp [h1, h2, h3]
    · obtain rfl : a = b := UInt8.toNat_inj.1 h
      have h2 : ¬ a < a := by show ¬ a.toNat < a.toNat; omega
      simp [h2, ih]
    · have h1 : b < a := h
      have h2 : ¬ a < b := by show ¬ a.toNat < b.toNat; omega
      have h3 : (a == b) = false := by rw [beq_eq_false_iff_ne]; rintro rfl; exact absurd h (Nat.lt_irrefl _)
      simp [h1, h2, h3]
/-- The later of two is not '<=' the earlier. -/
theorem less_no {a b : ByteArray} (h : ltS a b = true) : Op.bytesLess b.toList a.toList = false ∧ (b.toList == a.toList) = false := by
  have := bytesLeq' b.toList a.toList
  rw [show Op.bytesLess a.toList b.toList = true from h, Bool.not_true, Bool.or_eq_false_iff] at this
  exact this
end Go.Proofs.YtieohecgoaakmaaDoor
