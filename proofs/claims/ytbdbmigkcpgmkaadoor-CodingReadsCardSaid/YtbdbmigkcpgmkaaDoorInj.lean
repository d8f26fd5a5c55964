/- Bytes are the same only if shelves are: the plain law. -/
import Derived.Test.YtbdbmigkcpgmkaaDoorLay
set_option linter.unusedVariables false
set_option linter.unusedSimpArgs false
namespace Go.Proofs.YtbdbmigkcpgmkaaDoor
/-- What f lays can be told from what follows. -/
def Cancel {α : Type} (ok : α → Prop) (f : α → List UInt8) : Prop := ∀ x y r r', ok x → ok y → f x ++ r = f y ++ r' → x = y ∧ r = r'
theorem byteN_eq {n m : Int} {i : Nat} (h : byteN n i = byteN m i) : (n / 2 ^ (8 * i)) % 256 = (m / 2 ^ (8 * i)) % 256 := by
  unfold byteN at h
  have h1 := congrArg UInt8.toNat h
  rw [UInt8.toNat_ofNat', UInt8.toNat_ofNat'] at h1
  have a0 := Int.emod_nonneg (n / 2 ^ (8 * i)) (show (256 : Int) ≠ 0 by decide)
  have a1 := Int.emod_lt_of_pos (n / 2 ^ (8 * i)) (show (0 : Int) < 256 by decide)
  have b0 := Int.emod_nonneg (m / 2 ^ (8 * i)) (show (256 : Int) ≠ 0 by decide)
  have b1 := Int.emod_lt_of_pos (m / 2 ^ (8 * i)) (show (0 : Int) < 256 by decide)
  generalize (n / 2 ^ (8 * i)) % 256 = u at *
  generalize (m / 2 ^ (8 * i)) % 256 = v at *
  omega
theorem put1 : Cancel (fun n : Int => 0 ≤ n ∧ n < 256) (fun n => putB n 1) := by
  intro x y r r' hx hy h
  simp only [putB, List.cons_append, List.nil_append] at h
  injection h with h0 h
  have e0 := byteN_eq h0
  simp only [Nat.mul_zero, Nat.zero_mul, Int.pow_zero, Int.ediv_one] at e0
  exact ⟨by omega, h⟩
theorem put2 : Cancel (fun n : Int => 0 ≤ n ∧ n < 65536) (fun n => putB n 2) := by
  intro x y r r' hx hy h
  simp only [putB, List.cons_append, List.nil_append] at h
  injection h with h1 h
  injection h with h0 h
  have e0 := byteN_eq h0
  have e1 := byteN_eq h1
  rw [show (2 : Int) ^ (8 * 0) = 1 from rfl] at e0
  rw [show (2 : Int) ^ (8 * 1) = 256 from rfl] at e1
  exact ⟨by omega, h⟩
theorem put3 : Cancel (fun n : Int => 0 ≤ n ∧ n < 16777216) (fun n => putB n 3) := by
  intro x y r r' hx hy h
  simp only [putB, List.cons_append, List.nil_append] at h
  injection h with h2 h
  injection h with h1 h
  injection h with h0 h
  have e0 := byteN_eq h0
  have e1 := byteN_eq h1
  have e2 := byteN_eq h2
  rw [show (2 : Int) ^ (8 * 0) = 1 from rfl] at e0
  rw [show (2 : Int) ^ (8 * 1) = 256 from rfl] at e1
  rw [show (2 : Int) ^ (8 * 2) = 65536 from rfl] at e2
  exact ⟨by omega, h⟩
theorem text1 : Cancel (fun s : ByteArray => s.size < 256) textB := by
  intro x y r r' hx hy h
  unfold textB at h
  rw [List.append_assoc, List.append_assoc] at h
  obtain ⟨h1, h2⟩ := put1 _ _ _ _ ⟨by omega, by omega⟩ ⟨by omega, by omega⟩ h
  have hl : x.data.toList.length = y.data.toList.length := by
    have a : x.data.toList.length = x.size := rfl
    have b : y.data.toList.length = y.size := rfl
    omega
  obtain ⟨h3, h4⟩ := List.append_inj h2 hl
  exact ⟨ByteArray.ext (Array.toList_inj.1 h3), h4⟩
theorem many {α : Type} {ok : α → Prop} {f : α → List UInt8} (hc : Cancel ok f) : ∀ (l m : List α) (r r' : List UInt8), l.length = m.length → (∀ x ∈ l, ok x) → (∀ x ∈ m, ok x) → l.flatMap f ++ r = m.flatMap f ++ r' → l = m ∧ r = r'
  | [], [], r, r', _, _, _, h => ⟨rfl, h⟩
  | [], _ :: _, _, _, hl, _, _, _ => by simp at hl
  | _ :: _, [], _, _, hl, _, _, _ => by simp at hl
  | x :: l, y :: m, r, r', hl, hx, hy, h => by
    rw [List.flatMap_cons, List.flatMap_cons, List.append_assoc, List.append_assoc] at h
    obtain ⟨h1, h2⟩ := hc _ _ _ _ (hx x (by simp)) (hy y (by simp)) h
    obtain ⟨h3, h4⟩ := many hc l m r r' (by simpa using hl) (fun z hz => hx z (by simp [hz])) (fun z hz => hy z (by simp [hz])) h2
    rw [h1, h3]; exact ⟨rfl, h4⟩
def BookFine (x : Book) : Prop := (0 ≤ x.id ∧ x.id < 16777216) ∧ x.name.size < 256
def NoteFine (x : Note) : Prop := (0 ≤ x.id ∧ x.id < 16777216) ∧ (0 ≤ x.book ∧ x.book < 16777216) ∧ x.name.size < 256 ∧ x.tags.length < 256 ∧ (∀ t ∈ x.tags, t.size < 256) ∧ x.sheets.length < 256 ∧ ∀ y ∈ x.sheets, 0 ≤ y ∧ y < 65536
theorem book1 : Cancel BookFine bookB := by
  intro x y r r' hx hy h
  unfold bookB at h
  rw [List.append_assoc, List.append_assoc] at h
  obtain ⟨h1, h2⟩ := put3 _ _ _ _ hx.1 hy.1 h
  obtain ⟨h3, h4⟩ := text1 _ _ _ _ hx.2 hy.2 h2
  obtain ⟨a, b⟩ := x
  obtain ⟨c, d⟩ := y
  simp only at h1 h3
  rw [h1, h3]; exact ⟨rfl, h4⟩
theorem note1 : Cancel NoteFine noteB := by
  rintro ⟨i, b, n, t, s⟩ ⟨i', b', n', t', s'⟩ r r' ⟨a1, a2, a3, a4, a5, a6, a7⟩ ⟨c1, c2, c3, c4, c5, c6, c7⟩ h
  unfold noteB at h
  simp only at *
  simp only [List.append_assoc] at h
  have q := put3 _ _ _ _ a1 c1 h
  clear h
  obtain ⟨rfl, h⟩ := q
  have q := put3 _ _ _ _ a2 c2 h
  clear h
  obtain ⟨rfl, h⟩ := q
  have q := text1 _ _ _ _ a3 c3 h
  clear h
  obtain ⟨rfl, h⟩ := q
  have q := put1 _ _ _ _ ⟨by omega, by omega⟩ ⟨by omega, by omega⟩ h
  clear h
  obtain ⟨e1, h⟩ := q
  have q := many text1 _ _ _ _ (by omega) a5 c5 h
  clear h
  obtain ⟨rfl, h⟩ := q
  have q := put1 _ _ _ _ ⟨by omega, by omega⟩ ⟨by omega, by omega⟩ h
  clear h
  obtain ⟨e2, h⟩ := q
  have q := many put2 _ _ _ _ (by omega) a7 c7 h
  clear h
  obtain ⟨rfl, h⟩ := q
  exact ⟨rfl, h⟩
def ShelfFine (s : Shelf) : Prop := (0 ≤ s.nb ∧ s.nb < 16777216) ∧ (0 ≤ s.nn ∧ s.nn < 16777216) ∧ (0 ≤ s.ns ∧ s.ns < 16777216) ∧ s.books.length < 256 ∧ s.notes.length < 256 ∧ (∀ x ∈ s.books, BookFine x) ∧ ∀ x ∈ s.notes, NoteFine x
theorem shelf1 : Cancel ShelfFine layB := by
  rintro ⟨a, b, c, bl, nl⟩ ⟨a', b', c', bl', nl'⟩ r r' ⟨a1, a2, a3, a4, a5, a6, a7⟩ ⟨c1, c2, c3, c4, c5, c6, c7⟩ h
  unfold layB headB at h
  simp only at *
  simp only [List.append_assoc] at h
  have q := put3 _ _ _ _ a1 c1 h
  clear h
  obtain ⟨rfl, h⟩ := q
  have q := put3 _ _ _ _ a2 c2 h
  clear h
  obtain ⟨rfl, h⟩ := q
  have q := put3 _ _ _ _ a3 c3 h
  clear h
  obtain ⟨rfl, h⟩ := q
  have q := put1 _ _ _ _ ⟨by omega, by omega⟩ ⟨by omega, by omega⟩ h
  clear h
  obtain ⟨e1, h⟩ := q
  have q := many book1 _ _ _ _ (by omega) a6 c6 h
  clear h
  obtain ⟨rfl, h⟩ := q
  have q := put1 _ _ _ _ ⟨by omega, by omega⟩ ⟨by omega, by omega⟩ h
  clear h
  obtain ⟨e2, h⟩ := q
  have q := many note1 _ _ _ _ (by omega) a7 c7 h
  clear h
  obtain ⟨rfl, h⟩ := q
  exact ⟨rfl, h⟩
theorem may_small {s : ByteArray} (h : mayB s = true) : s.size < 256 := by
  unfold mayB at h
  simp only [Bool.and_eq_true, decide_eq_true_eq] at h
  omega
theorem sheetsOk_bd (ns : Int) : ∀ (l S : List Int), sheetsOk ns S l = true → ∀ y ∈ l, 1 ≤ y ∧ y ≤ ns - 1
  | [], _, _, y, hy => by cases hy
  | x :: l, S, h, y, hy => by
    unfold sheetsOk at h
    simp only [Bool.and_eq_true, decide_eq_true_eq] at h
    rcases List.mem_cons.1 hy with rfl | hy
    · exact h.1.2
    · exact sheetsOk_bd ns l _ h.2 y hy
theorem idx_ge {α : Type} {p : α → Bool} {l : List α} (h : 0 ≤ idx p l) : ∃ x ∈ l, p x = true := by
  apply Classical.byContradiction
  intro hn
  have := idx_none (p := p) (l := l) (fun j x hx => by
    cases hp : p x with
    | false => rfl
    | true => exact absurd ⟨x, List.mem_of_getElem? hx, hp⟩ hn)
  omega
theorem fine_of {s : Shelf} (h : mayS s = true) : ShelfFine s := by
  unfold mayS mayHead at h
  simp only [Bool.and_eq_true, decide_eq_true_eq] at h
  obtain ⟨⟨⟨⟨⟨⟨⟨⟨n1, n2⟩, n3, n4⟩, n5, n6⟩, n7⟩, n8⟩, hb⟩, hn⟩, hsh⟩ := h
  have hbook : ∀ x ∈ s.books, BookFine x := fun x hm => by
    obtain ⟨i, hi, e⟩ := List.getElem_of_mem hm
    have ho := allTo_iff.1 hb i hi
    have hx : bookAt s i = x := getD_of (by rw [List.getElem?_eq_getElem hi, e])
    unfold bookOk at ho
    rw [hx] at ho
    simp only [Bool.and_eq_true, decide_eq_true_eq] at ho
    exact ⟨⟨by omega, by omega⟩, may_small ho.1.2⟩
  refine ⟨⟨by omega, by omega⟩, ⟨by omega, by omega⟩, ⟨by omega, by omega⟩, by omega, by omega, hbook, fun x hm => ?_⟩
  obtain ⟨i, hi, e⟩ := List.getElem_of_mem hm
  have ho := allTo_iff.1 hn i hi
  have hx : noteAt s i = x := getD_of (by rw [List.getElem?_eq_getElem hi, e])
  unfold noteOk noteHead at ho
  rw [hx] at ho
  unfold tagsB at ho
  simp only [Bool.and_eq_true, decide_eq_true_eq] at ho
  have hid := ho.1.1.1.1.1.1
  have hmay := ho.1.1.1.1.2
  have hidx := ho.1.1.1.2
  have htg := ho.1.1.2.1
  have htl := ho.1.1.2.2
  have hsl := ho.1.2
  obtain ⟨z, hz, hzb⟩ := idx_ge hidx
  have hzf := (hbook z hz).1
  have hzb' : z.id = x.book := by simpa using hzb
  refine ⟨⟨by omega, by omega⟩, ⟨by omega, by omega⟩, may_small hmay, by omega, fun t ht => ?_, by omega, fun y hy => ?_⟩
  · obtain ⟨k, hk, e2⟩ := List.getElem_of_mem ht
    have h2 := allTo_iff.1 htg k hk
    have hx2 : x.tags.getD k ⟨#[]⟩ = t := getD_of (by rw [List.getElem?_eq_getElem hk, e2])
    unfold tagOk at h2
    rw [hx2, Bool.and_eq_true] at h2
    exact may_small h2.1
  · have := sheetsOk_bd s.ns _ _ hsh y (List.mem_flatMap.2 ⟨x, hm, hy⟩)
    omega
/-- Bytes are the same only if shelves are. -/
theorem lay_inj {s t : Shelf} (hs : mayS s = true) (ht : mayS t = true) : same (layB s) (layB t) = same s t := by
  rw [Bool.eq_iff_iff, same_iff, same_iff]
  constructor
  · intro h
    exact (shelf1 s t [] [] (fine_of hs) (fine_of ht) (by rw [h])).1
  · intro h; rw [h]
end Go.Proofs.YtbdbmigkcpgmkaaDoor
