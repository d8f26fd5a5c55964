/- What is read against what is laid: the plain laws. -/
import Derived.Test.YtbdbmigkcpgmkaaDoorParse
import Derived.Test.YtbdbmigkcpgmkaaDoorInj
set_option linter.unusedVariables false
set_option linter.unusedSimpArgs false
namespace Go.Proofs.YtbdbmigkcpgmkaaDoor
theorem byte0 (n : Nat) (c : UInt8) (h : n % 256 = c.toNat) : byteN (n : Int) 0 = c := by
  unfold byteN
  rw [Nat.mul_zero, Int.pow_zero, Int.ediv_one, show (((n : Int)) % 256).toNat = n % 256 by omega, h]; simp
theorem byte1 (n : Nat) (c : UInt8) (h : n / 256 % 256 = c.toNat) : byteN (n : Int) 1 = c := by
  unfold byteN
  rw [show (2 : Int) ^ (8 * 1) = 256 from rfl, show (((n : Int)) / 256 % 256).toNat = n / 256 % 256 by omega, h]; simp
theorem byte2 (n : Nat) (c : UInt8) (h : n / 65536 % 256 = c.toNat) : byteN (n : Int) 2 = c := by
  unfold byteN
  rw [show (2 : Int) ^ (8 * 2) = 65536 from rfl, show (((n : Int)) / 65536 % 256).toNat = n / 65536 % 256 by omega, h]; simp
theorem putB_numB : ∀ (l : List UInt8), l.length ≤ 3 → putB (numB l : Nat) l.length = l
  | [], _ => rfl
  | [a], _ => by
    have ha := a.toNat_lt
    show [byteN (numB [a] : Nat) 0] = [a]
    rw [byte0 _ a (by simp [numB] <;> omega)]
  | [a, b], _ => by
    have ha := a.toNat_lt
    have hb := b.toNat_lt
    show [byteN (numB [a, b] : Nat) 1, byteN (numB [a, b] : Nat) 0] = [a, b]
    rw [byte1 _ a (by simp [numB] <;> omega), byte0 _ b (by simp [numB] <;> omega)]
  | [a, b, c], _ => by
    have ha := a.toNat_lt
    have hb := b.toNat_lt
    have hc := c.toNat_lt
    show [byteN (numB [a, b, c] : Nat) 2, byteN (numB [a, b, c] : Nat) 1, byteN (numB [a, b, c] : Nat) 0] = [a, b, c]
    rw [byte2 _ a (by simp [numB] <;> omega), byte1 _ b (by simp [numB] <;> omega), byte0 _ c (by simp [numB] <;> omega)]
  | _ :: _ :: _ :: _ :: _, h => by simp at h
theorem num_sound {l : List UInt8} {k : Nat} (hk : k ≤ 3) (h : numO l k false = false) : l = putB (numV l k : Nat) k ++ numL l k := by
  unfold numO at h
  split at h
  · rename_i hl
    unfold numV numL
    rw [if_pos hl, if_pos hl]
    have hlen : (l.take k).length = k := by rw [List.length_take]; omega
    have := putB_numB (l.take k) (by omega)
    rw [hlen] at this
    rw [this, List.take_append_drop]
  · cases h
theorem numB_putB (n : Nat) : (n < 256 → numB (putB (n : Int) 1) = n) ∧ (n < 65536 → numB (putB (n : Int) 2) = n) ∧ (n < 16777216 → numB (putB (n : Int) 3) = n) := by
  have e0 : (byteN (n : Int) 0).toNat = n % 256 := by unfold byteN; rw [UInt8.toNat_ofNat', Nat.mul_zero, Int.pow_zero, Int.ediv_one]; omega
  have e1 : (byteN (n : Int) 1).toNat = n / 256 % 256 := by unfold byteN; rw [UInt8.toNat_ofNat', show (2 : Int) ^ (8 * 1) = 256 from rfl]; omega
  have e2 : (byteN (n : Int) 2).toNat = n / 65536 % 256 := by unfold byteN; rw [UInt8.toNat_ofNat', show (2 : Int) ^ (8 * 2) = 65536 from rfl]; omega
  refine ⟨fun h => ?_, fun h => ?_, fun h => ?_⟩
  · show numB [byteN n 0] = n
    simp only [numB, List.foldl, e0]; omega
  · show numB [byteN n 1, byteN n 0] = n
    simp only [numB, List.foldl, e0, e1]; omega
  · show numB [byteN n 2, byteN n 1, byteN n 0] = n
    simp only [numB, List.foldl, e0, e1, e2]; omega
theorem putB_len (n : Int) : ∀ k, (putB n k).length = k
  | 0 => rfl
  | k + 1 => by show (byteN n k :: putB n k).length = k + 1; rw [List.length_cons, putB_len n k]
/-- What was put is read. -/
theorem num_back {n : Int} {k : Nat} (r : List UInt8) (hk : k = 1 ∨ k = 2 ∨ k = 3) (h : 0 ≤ n ∧ n < 256 ^ k) : ((numV (putB n k ++ r) k : Nat) : Int) = n ∧ numL (putB n k ++ r) k = r ∧ ∀ b, numO (putB n k ++ r) k b = b := by
  have hle : k ≤ (putB n k ++ r).length := by rw [List.length_append, putB_len]; omega
  unfold numV numL numO
  rw [if_pos hle, if_pos hle]
  refine ⟨?_, ?_, fun b => if_pos hle⟩
  · rw [List.take_append_of_le_length (by rw [putB_len]; omega), List.take_of_length_le (by rw [putB_len]; omega)]
    obtain ⟨m, rfl⟩ : ∃ m : Nat, n = m := ⟨n.toNat, by omega⟩
    have hb := numB_putB m
    rcases hk with rfl | rfl | rfl
    · rw [hb.1 (by have := h.2; simp at this; omega)]
    · rw [hb.2.1 (by have := h.2; simp at this; omega)]
    · rw [hb.2.2 (by have := h.2; simp at this; omega)]
  · rw [List.drop_append_of_le_length (by rw [putB_len]; omega), List.drop_of_length_le (by rw [putB_len]; omega), List.nil_append]
theorem put_byte (x : UInt8) : putB ((x.toNat : Nat) : Int) 1 = [x] := by
  show [byteN (x.toNat : Nat) 0] = [x]
  rw [byte0 _ x (by have := x.toNat_lt; omega)]
theorem bytesS_size (l : List UInt8) : (bytesS l).size = l.length := rfl
theorem bytesS_list (l : List UInt8) : (bytesS l).data.toList = l := rfl
theorem text_sound {l : List UInt8} (h : txO l false = false) : l = textB (txV l) ++ txL l := by
  cases l with
  | nil => cases h
  | cons x l =>
    unfold txO at h
    simp only at h
    split at h
    · rename_i hl
      unfold txV txL textB
      simp only [if_pos hl]
      rw [bytesS_size, bytesS_list, show (l.take x.toNat).length = x.toNat by rw [List.length_take]; omega, put_byte, List.append_assoc, List.take_append_drop]; rfl
    · cases h
theorem text_back {s : ByteArray} (r : List UInt8) (h : s.size < 256) : txV (textB s ++ r) = s ∧ txL (textB s ++ r) = r ∧ ∀ b, txO (textB s ++ r) b = b := by
  have hx : (UInt8.ofNat s.size).toNat = s.size := by rw [UInt8.toNat_ofNat']; omega
  have hp : putB (s.size : Int) 1 = [UInt8.ofNat s.size] := by have := put_byte (UInt8.ofNat s.size); rw [hx] at this; exact this
  have hl : s.data.toList.length = s.size := rfl
  have hle : (UInt8.ofNat s.size).toNat ≤ (s.data.toList ++ r).length := by rw [hx, List.length_append, hl]; omega
  have e : textB s ++ r = UInt8.ofNat s.size :: (s.data.toList ++ r) := by unfold textB; rw [hp, List.append_assoc]; rfl
  rw [e]
  unfold txV txL txO
  simp only [if_pos hle]
  rw [hx]
  refine ⟨?_, ?_, fun b => trivial⟩
  · rw [List.take_append_of_le_length (by omega), List.take_of_length_le (by omega)]; rfl
  · rw [List.drop_append_of_le_length (by omega), List.drop_of_length_le (by omega), List.nil_append]
section
variable {α : Type}
theorem books_sound {C : List UInt8 → List Book → Option α} {t : α} : ∀ (k : Nat) (l : List UInt8) (X : List Book), booksR k l X C = some t → ∃ X' l', X'.length = k ∧ l = X'.flatMap bookB ++ l' ∧ C l' (X ++ X') = some t
  | 0, l, X, h => ⟨[], l, rfl, rfl, by simpa [booksR] using h⟩
  | k + 1, l, X, h => by
    unfold booksR at h
    split at h
    · cases h
    · rename_i hb
      have hb2 : txO (numL l 3) (numO l 3 false) = false := by simpa using hb
      have h3 : numO l 3 false = false := by
        cases e : numO l 3 false with
        | false => rfl
        | true => rw [e, txO_true] at hb2; cases hb2
      rw [h3] at hb2
      obtain ⟨X', l', h4, h5, h6⟩ := books_sound k _ _ h
      refine ⟨⟨numV l 3, txV (numL l 3)⟩ :: X', l', by rw [List.length_cons, h4], ?_, by rw [List.append_assoc] at h6; exact h6⟩
      have e1 := num_sound (by decide) h3
      have e2 := text_sound hb2
      rw [List.flatMap_cons, List.append_assoc, ← h5]
      unfold bookB
      rw [List.append_assoc, ← e2]
      exact e1
theorem books_back (C : List UInt8 → List Book → Option α) : ∀ (X' X : List Book) (l : List UInt8), (∀ x ∈ X', BookFine x) → booksR X'.length (X'.flatMap bookB ++ l) X C = C l (X ++ X')
  | [], X, l, _ => by simp [booksR]
  | x :: X', X, l, h => by
    have hx := h x List.mem_cons_self
    have e : (x :: X').flatMap bookB ++ l = putB x.id 3 ++ (textB x.name ++ (X'.flatMap bookB ++ l)) := by rw [List.flatMap_cons]; unfold bookB; simp only [List.append_assoc]
    obtain ⟨n1, n2, n3⟩ := num_back (textB x.name ++ (X'.flatMap bookB ++ l)) (.inr (.inr rfl)) (show 0 ≤ x.id ∧ x.id < 256 ^ 3 from ⟨hx.1.1, by have := hx.1.2; simp; omega⟩)
    obtain ⟨t1, t2, t3⟩ := text_back (X'.flatMap bookB ++ l) hx.2
    rw [e, List.length_cons]
    unfold booksR
    rw [n2, n3, t3, t2, n1, t1, if_neg (by simp), books_back C X' _ l (fun y hy => h y (List.mem_cons_of_mem _ hy)), List.append_assoc]; rfl
theorem tags_sound {C : List UInt8 → List ByteArray → Option α} {t : α} : ∀ (k : Nat) (l : List UInt8) (T : List ByteArray), tagsR k l T C = some t → ∃ T' l', T'.length = k ∧ l = T'.flatMap textB ++ l' ∧ C l' (T ++ T') = some t
  | 0, l, T, h => ⟨[], l, rfl, rfl, by simpa [tagsR] using h⟩
  | k + 1, l, T, h => by
    unfold tagsR at h
    split at h
    · cases h
    · rename_i hb
      have hb2 : txO l false = false := by simpa using hb
      obtain ⟨T', l', h4, h5, h6⟩ := tags_sound k _ _ h
      refine ⟨txV l :: T', l', by rw [List.length_cons, h4], ?_, by rw [List.append_assoc] at h6; exact h6⟩
      rw [List.flatMap_cons, List.append_assoc, ← h5]
      exact text_sound hb2
theorem tags_back (C : List UInt8 → List ByteArray → Option α) : ∀ (T' T : List ByteArray) (l : List UInt8), (∀ x ∈ T', x.size < 256) → tagsR T'.length (T'.flatMap textB ++ l) T C = C l (T ++ T')
  | [], T, l, _ => by simp [tagsR]
  | x :: T', T, l, h => by
    obtain ⟨t1, t2, t3⟩ := text_back (T'.flatMap textB ++ l) (h x List.mem_cons_self)
    rw [List.flatMap_cons, List.append_assoc, List.length_cons]
    unfold tagsR
    rw [t3, t2, t1, if_neg (by simp), tags_back C T' _ l (fun y hy => h y (List.mem_cons_of_mem _ hy)), List.append_assoc]; rfl
theorem sheets_sound {C : List UInt8 → List Int → Option α} {t : α} : ∀ (k : Nat) (l : List UInt8) (T : List Int), sheetsR k l T C = some t → ∃ T' l', T'.length = k ∧ l = (T'.flatMap fun y => putB y 2) ++ l' ∧ C l' (T ++ T') = some t
  | 0, l, T, h => ⟨[], l, rfl, rfl, by simpa [sheetsR] using h⟩
  | k + 1, l, T, h => by
    unfold sheetsR at h
    split at h
    · cases h
    · rename_i hb
      have hb2 : numO l 2 false = false := by simpa using hb
      obtain ⟨T', l', h4, h5, h6⟩ := sheets_sound k _ _ h
      refine ⟨(numV l 2 : Nat) :: T', l', by rw [List.length_cons, h4], ?_, by rw [List.append_assoc] at h6; exact h6⟩
      rw [List.flatMap_cons, List.append_assoc, ← h5]
      exact num_sound (by decide) hb2
theorem sheets_back (C : List UInt8 → List Int → Option α) : ∀ (T' T : List Int) (l : List UInt8), (∀ x ∈ T', 0 ≤ x ∧ x < 65536) → sheetsR T'.length ((T'.flatMap fun y => putB y 2) ++ l) T C = C l (T ++ T')
  | [], T, l, _ => by simp [sheetsR]
  | x :: T', T, l, h => by
    obtain ⟨t1, t2, t3⟩ := num_back ((T'.flatMap fun y => putB y 2) ++ l) (.inr (.inl rfl)) (show 0 ≤ x ∧ x < 256 ^ 2 from by have := h x List.mem_cons_self; simp; omega)
    rw [List.flatMap_cons, List.append_assoc, List.length_cons]
    unfold sheetsR
    rw [t3, t2, t1, if_neg (by simp), sheets_back C T' _ l (fun y hy => h y (List.mem_cons_of_mem _ hy)), List.append_assoc]; rfl
theorem hd_sound {l : List UInt8} (h : hdO l false = false) : l = putB (hdN l).id 3 ++ (putB (hdN l).book 3 ++ (textB (hdN l).name ++ hdL l)) := by
  unfold hdO at h
  have h1 : numO l 3 false = false := by
    cases e : numO l 3 false with
    | false => rfl
    | true => rw [e, numO_true, txO_true] at h; cases h
  rw [h1] at h
  have h2 : numO (numL l 3) 3 false = false := by
    cases e : numO (numL l 3) 3 false with
    | false => rfl
    | true => rw [e, txO_true] at h; cases h
  rw [h2] at h
  have e1 := num_sound (by decide) h1
  have e2 := num_sound (by decide) h2
  have e3 := text_sound h
  unfold hdN hdL
  simp only
  rw [← e3, ← e2]; exact e1
theorem hd_back {x : Note} (r : List UInt8) (h : NoteFine x) : hdN (putB x.id 3 ++ (putB x.book 3 ++ (textB x.name ++ r))) = { x with tags := [], sheets := [] } ∧ hdL (putB x.id 3 ++ (putB x.book 3 ++ (textB x.name ++ r))) = r ∧ hdO (putB x.id 3 ++ (putB x.book 3 ++ (textB x.name ++ r))) false = false := by
  obtain ⟨a1, a2, a3⟩ := num_back (putB x.book 3 ++ (textB x.name ++ r)) (.inr (.inr rfl)) (show 0 ≤ x.id ∧ x.id < 256 ^ 3 from ⟨h.1.1, by have := h.1.2; simp; omega⟩)
  obtain ⟨b1, b2, b3⟩ := num_back (textB x.name ++ r) (.inr (.inr rfl)) (show 0 ≤ x.book ∧ x.book < 256 ^ 3 from ⟨h.2.1.1, by have := h.2.1.2; simp; omega⟩)
  obtain ⟨c1, c2, c3⟩ := text_back r h.2.2.1
  unfold hdN hdL hdO
  rw [a2, b2, a3, b3, c3, c2, a1, b1, c1]
  exact ⟨rfl, rfl, rfl⟩
theorem note_eq (x : Note) (r : List UInt8) : noteB x ++ r = putB x.id 3 ++ (putB x.book 3 ++ (textB x.name ++ (putB x.tags.length 1 ++ (x.tags.flatMap textB ++ (putB x.sheets.length 1 ++ ((x.sheets.flatMap fun y => putB y 2) ++ r)))))) := by
  unfold noteB; simp only [List.append_assoc]
theorem notes_sound {C : List UInt8 → List Note → Option α} {t : α} : ∀ (k : Nat) (l : List UInt8) (Y : List Note), notesR k l Y C = some t → ∃ Y' l', Y'.length = k ∧ l = Y'.flatMap noteB ++ l' ∧ C l' (Y ++ Y') = some t
  | 0, l, Y, h => ⟨[], l, rfl, rfl, by simpa [notesR] using h⟩
  | k + 1, l, Y, h => by
    rw [notesR_succ] at h
    split at h
    · cases h
    · rename_i hb
      have hb2 : numO (hdL l) 1 (hdO l false) = false := by simpa using hb
      have h1 : hdO l false = false := by
        cases e : hdO l false with
        | false => rfl
        | true => rw [e, numO_true] at hb2; cases hb2
      rw [h1] at hb2
      obtain ⟨T, l1, t1, t2, t3⟩ := tags_sound _ _ _ h
      unfold ctags at t3
      split at t3
      · cases t3
      · rename_i hc
        have hc2 : numO l1 1 false = false := by simpa using hc
        obtain ⟨S, l2, s1, s2, s3⟩ := sheets_sound _ _ _ t3
        unfold csheets at s3
        obtain ⟨Y', l', h4, h5, h6⟩ := notes_sound k _ _ s3
        refine ⟨{ hdN l with tags := T, sheets := S } :: Y', l', by rw [List.length_cons, h4], ?_, by rw [List.append_assoc] at h6; exact h6⟩
        have e1 := hd_sound h1
        have e2 := num_sound (l := hdL l) (by decide) hb2
        have e3 := num_sound (by decide) hc2
        rw [List.flatMap_cons, List.append_assoc, ← h5, note_eq]
        show l = putB (hdN l).id 3 ++ (putB (hdN l).book 3 ++ (textB (hdN l).name ++ (putB T.length 1 ++ (T.flatMap textB ++ (putB S.length 1 ++ ((S.flatMap fun y => putB y 2) ++ l2))))))
        rw [← s2, s1, ← e3, ← t2, t1, ← e2]; exact e1
theorem notes_back (C : List UInt8 → List Note → Option α) : ∀ (Y' Y : List Note) (l : List UInt8), (∀ x ∈ Y', NoteFine x) → notesR Y'.length (Y'.flatMap noteB ++ l) Y C = C l (Y ++ Y')
  | [], Y, l, _ => by simp [notesR]
  | x :: Y', Y, l, h => by
    have hx := h x List.mem_cons_self
    have e : (x :: Y').flatMap noteB ++ l = noteB x ++ (Y'.flatMap noteB ++ l) := by rw [List.flatMap_cons, List.append_assoc]
    obtain ⟨h1, h2, h3⟩ := hd_back (x := x) (putB x.tags.length 1 ++ (x.tags.flatMap textB ++ (putB x.sheets.length 1 ++ ((x.sheets.flatMap fun y => putB y 2) ++ (Y'.flatMap noteB ++ l))))) hx
    obtain ⟨a1, a2, a3⟩ := num_back (n := x.tags.length) (k := 1) (x.tags.flatMap textB ++ (putB x.sheets.length 1 ++ ((x.sheets.flatMap fun y => putB y 2) ++ (Y'.flatMap noteB ++ l)))) (.inl rfl) (by have := hx.2.2.2.1; simp; omega)
    obtain ⟨b1, b2, b3⟩ := num_back (n := x.sheets.length) (k := 1) ((x.sheets.flatMap fun y => putB y 2) ++ (Y'.flatMap noteB ++ l)) (.inl rfl) (by have := hx.2.2.2.2.2.1; simp; omega)
    have a1' : numV (putB (x.tags.length : Int) 1 ++ (x.tags.flatMap textB ++ (putB x.sheets.length 1 ++ ((x.sheets.flatMap fun y => putB y 2) ++ (Y'.flatMap noteB ++ l))))) 1 = x.tags.length := by omega
    have b1' : numV (putB (x.sheets.length : Int) 1 ++ ((x.sheets.flatMap fun y => putB y 2) ++ (Y'.flatMap noteB ++ l))) 1 = x.sheets.length := by omega
    rw [e, note_eq, List.length_cons, notesR_succ, h2, h3, a3, if_neg (by simp), a1', a2, tags_back _ _ _ _ hx.2.2.2.2.1]
    unfold ctags
    rw [b3, if_neg (by simp), b1', b2, sheets_back _ _ _ _ hx.2.2.2.2.2.2]
    unfold csheets
    rw [h1, notes_back C Y' _ l (fun y hy => h y (List.mem_cons_of_mem _ hy)), List.append_assoc]; rfl
end
theorem lay_eq (s : Shelf) : layB s = putB s.nb 3 ++ (putB s.nn 3 ++ (putB s.ns 3 ++ (putB s.books.length 1 ++ (s.books.flatMap bookB ++ (putB s.notes.length 1 ++ (s.notes.flatMap noteB ++ [])))))) := by
  unfold layB headB; simp only [List.append_assoc, List.append_nil]
/-- What is read is laid as it stood. -/
theorem read_sound {l : List UInt8} {s : Shelf} (h : readR l = some s) : mayS s = true ∧ layB s = l := by
  unfold readR at h
  split at h
  · cases h
  · rename_i hb
    have hb2 : numO (h3L l) 1 (h3O l) = false := by simpa using hb
    have h0 : h3O l = false := by
      cases e : h3O l with
      | false => rfl
      | true => rw [e, numO_true] at hb2; cases hb2
    rw [h0] at hb2
    unfold h3O at h0
    have h1 : numO l 3 false = false := by
      cases e : numO l 3 false with
      | false => rfl
      | true => rw [e, numO_true, numO_true] at h0; cases h0
    rw [h1] at h0
    have h2 : numO (numL l 3) 3 false = false := by
      cases e : numO (numL l 3) 3 false with
      | false => rfl
      | true => rw [e, numO_true] at h0; cases h0
    rw [h2] at h0
    obtain ⟨X, l1, x1, x2, x3⟩ := books_sound _ _ _ h
    unfold midR at x3
    split at x3
    · cases x3
    · rename_i hc
      have hc2 : numO l1 1 false = false := by simpa using hc
      obtain ⟨Y, l2, y1, y2, y3⟩ := notes_sound _ _ _ x3
      unfold endR at y3
      split at y3
      · rename_i hd
        obtain ⟨hd1, hd2⟩ := Bool.and_eq_true_iff.1 hd
        have hs := Option.some.inj y3
        rw [hs] at hd2
        refine ⟨hd2, ?_⟩
        have hl2 : l2 = [] := List.isEmpty_iff.1 hd1
        have e1 := num_sound (by decide) h1
        have e2 := num_sound (by decide) h2
        have e3 := num_sound (by decide) h0
        have e4 := num_sound (l := h3L l) (by decide) hb2
        have e5 := num_sound (by decide) hc2
        rw [lay_eq, ← hs]
        simp only [List.nil_append]
        rw [← hl2, ← y2, y1, ← e5, ← x2, x1, ← e4]
        show putB (numV l 3 : Nat) 3 ++ (putB (numV (numL l 3) 3 : Nat) 3 ++ (putB (numV (numL (numL l 3) 3) 3 : Nat) 3 ++ numL (numL (numL l 3) 3) 3)) = l
        rw [← e3, ← e2, ← e1]
      · cases y3
/-- What was laid is read again. -/
theorem read_back {s : Shelf} (h : mayS s = true) : readR (layB s) = some s := by
  have hf := fine_of h
  obtain ⟨f1, f2, f3, f4, f5, f6, f7⟩ := hf
  rw [lay_eq]
  obtain ⟨a1, a2, a3⟩ := num_back (putB s.nn 3 ++ (putB s.ns 3 ++ (putB s.books.length 1 ++ (s.books.flatMap bookB ++ (putB s.notes.length 1 ++ (s.notes.flatMap noteB ++ [])))))) (.inr (.inr rfl)) (show 0 ≤ s.nb ∧ s.nb < 256 ^ 3 from by simp; omega)
  obtain ⟨b1, b2, b3⟩ := num_back (putB s.ns 3 ++ (putB s.books.length 1 ++ (s.books.flatMap bookB ++ (putB s.notes.length 1 ++ (s.notes.flatMap noteB ++ []))))) (.inr (.inr rfl)) (show 0 ≤ s.nn ∧ s.nn < 256 ^ 3 from by simp; omega)
  obtain ⟨c1, c2, c3⟩ := num_back (putB s.books.length 1 ++ (s.books.flatMap bookB ++ (putB s.notes.length 1 ++ (s.notes.flatMap noteB ++ [])))) (.inr (.inr rfl)) (show 0 ≤ s.ns ∧ s.ns < 256 ^ 3 from by simp; omega)
  obtain ⟨d1, d2, d3⟩ := num_back (n := s.books.length) (k := 1) (s.books.flatMap bookB ++ (putB s.notes.length 1 ++ (s.notes.flatMap noteB ++ []))) (.inl rfl) (by simp; omega)
  obtain ⟨g1, g2, g3⟩ := num_back (n := s.notes.length) (k := 1) (s.notes.flatMap noteB ++ []) (.inl rfl) (by simp; omega)
  have d1' : numV (putB (s.books.length : Int) 1 ++ (s.books.flatMap bookB ++ (putB s.notes.length 1 ++ (s.notes.flatMap noteB ++ [])))) 1 = s.books.length := by omega
  have g1' : numV (putB (s.notes.length : Int) 1 ++ (s.notes.flatMap noteB ++ [])) 1 = s.notes.length := by omega
  unfold readR h3O h3L h2L h1L
  rw [a2, b2, c2, a3, b3, c3, d3, if_neg (by simp), d1', d2, a1, b1, c1, books_back _ _ _ _ f6]
  unfold midR
  rw [g3, if_neg (by simp), g1', g2, notes_back _ _ _ _ f7]
  unfold endR
  simp only [List.nil_append, List.isEmpty_nil, Bool.true_and]
  rw [if_pos h]
/-- Cut short, or with more behind it, it is none. -/
theorem read_short {s : Shelf} (h : mayS s = true) {k : Nat} (hk : k < (layB s).length) : readR ((layB s).take k) = none := by
  cases e : readR ((layB s).take k) with
  | none => rfl
  | some t =>
    obtain ⟨h1, h2⟩ := read_sound e
    have h3 := shelf1 t s ((layB s).drop k) [] (fine_of h1) (fine_of h) (by rw [h2, List.take_append_drop, List.append_nil])
    have h4 := congrArg List.length h3.2
    rw [List.length_drop] at h4
    simp at h4; omega
theorem read_long {s : Shelf} (h : mayS s = true) (x : UInt8) : readR (layB s ++ [x]) = none := by
  cases e : readR (layB s ++ [x]) with
  | none => rfl
  | some t =>
    obtain ⟨h1, h2⟩ := read_sound e
    have h3 := shelf1 t s [] [x] (fine_of h1) (fine_of h) (by rw [h2, List.append_nil])
    exact absurd h3.2 (by simp)
end Go.Proofs.YtbdbmigkcpgmkaaDoor
