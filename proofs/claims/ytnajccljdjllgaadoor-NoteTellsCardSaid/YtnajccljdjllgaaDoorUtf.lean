/- Plain facts on UTF-8: what the reference's rune1 reckons is the model's own decoding, but for broken runes. -/
import Derived.Lib.DecodeNEq
import Derived.Lib.ValidAsc
import Derived.Lib.RuneCount
import Derived.Shelf.GgClosure.StringsIndexFunc
set_option linter.unusedVariables false
set_option linter.unusedSimpArgs false
namespace Go.Proofs.YtnajccljdjllgaaDoor
open Go.Lib
/-- The reference's rune at a place, of n bytes b0 b1 b2 b3. -/
def ref1 (n b0 b1 b2 b3 : Nat) : Nat × Nat :=
  if b0 < 128 then (b0, 1)
  else if 194 ≤ b0 ∧ b0 < 224 then
    (if 2 ≤ n ∧ b1 / 64 = 2 then (if 128 ≤ (b0 - 192) * 64 + b1 % 64 then ((b0 - 192) * 64 + b1 % 64, 2) else (0, 0)) else (0, 0))
  else if 224 ≤ b0 ∧ b0 < 240 then
    (if 3 ≤ n ∧ b1 / 64 = 2 ∧ b2 / 64 = 2 then
      (if 2048 ≤ (b0 - 224) * 4096 + b1 % 64 * 64 + b2 % 64 ∧ ¬ (55296 ≤ (b0 - 224) * 4096 + b1 % 64 * 64 + b2 % 64 ∧ (b0 - 224) * 4096 + b1 % 64 * 64 + b2 % 64 ≤ 57343)
       then ((b0 - 224) * 4096 + b1 % 64 * 64 + b2 % 64, 3) else (0, 0)) else (0, 0))
  else if 240 ≤ b0 ∧ b0 < 245 then
    (if 4 ≤ n ∧ b1 / 64 = 2 ∧ b2 / 64 = 2 ∧ b3 / 64 = 2 then
      (if 65536 ≤ (b0 - 240) * 262144 + b1 % 64 * 4096 + b2 % 64 * 64 + b3 % 64 ∧ (b0 - 240) * 262144 + b1 % 64 * 4096 + b2 % 64 * 64 + b3 % 64 ≤ 1114111
       then ((b0 - 240) * 262144 + b1 % 64 * 4096 + b2 % 64 * 64 + b3 % 64, 4) else (0, 0)) else (0, 0))
  else (0, 0)
theorem ref1_eq (n b0 b1 b2 b3 : Nat) (hn : 1 ≤ n) (h0 : b0 < 256) (h1 : b1 < 256) (h2 : b2 < 256) (h3 : b3 < 256) :
    ref1 n b0 b1 b2 b3 = if decodeN n b0 b1 b2 b3 = (65533, 1) then (0, 0) else decodeN n b0 b1 b2 b3 := by
  have yes : ∀ {r : Nat × Nat}, ref1 n b0 b1 b2 b3 = r → decodeN n b0 b1 b2 b3 = r → r ≠ (65533, 1) → ref1 n b0 b1 b2 b3 = if decodeN n b0 b1 b2 b3 = (65533, 1) then (0, 0) else decodeN n b0 b1 b2 b3 :=
    fun e1 e2 e3 => by rw [e1, e2, if_neg e3]
  have no : ref1 n b0 b1 b2 b3 = (0, 0) → decodeN n b0 b1 b2 b3 = (65533, 1) → ref1 n b0 b1 b2 b3 = if decodeN n b0 b1 b2 b3 = (65533, 1) then (0, 0) else decodeN n b0 b1 b2 b3 :=
    fun e1 e2 => by rw [e1, e2, if_pos rfl]
  have ne2 : ∀ {r k : Nat}, k ≠ 1 → (r, k) ≠ (65533, 1) := fun hk h => by injection h; omega
  by_cases c0 : b0 < 128
  · exact yes (by unfold ref1; rw [if_pos c0]) (by unfold decodeN; rw [if_pos c0]) (by intro h; injection h; omega)
  by_cases c1 : 194 ≤ b0 ∧ b0 < 224
  · by_cases d1 : 2 ≤ n ∧ b1 / 64 = 2
    · refine yes (r := ((b0 - 192) * 64 + b1 % 64, 2)) ?_ ?_ (ne2 (by omega))
      · unfold ref1; rw [if_neg c0, if_pos c1, if_pos d1, if_pos (by omega)]
      · unfold decodeN; rw [if_neg c0, if_pos (by omega), show b0 % 32 = b0 - 192 by omega, if_pos (by omega)]
    · refine no ?_ ?_
      · unfold ref1; rw [if_neg c0, if_pos c1, if_neg d1]
      · unfold decodeN; rw [if_neg c0, if_neg (by omega), if_neg (by omega), if_neg (by omega)]
  by_cases c2 : 224 ≤ b0 ∧ b0 < 240
  · have e : b0 % 16 = b0 - 224 := by omega
    by_cases d1 : 3 ≤ n ∧ b1 / 64 = 2 ∧ b2 / 64 = 2
    · by_cases d2 : 2048 ≤ (b0 - 224) * 4096 + b1 % 64 * 64 + b2 % 64 ∧ ¬ (55296 ≤ (b0 - 224) * 4096 + b1 % 64 * 64 + b2 % 64 ∧ (b0 - 224) * 4096 + b1 % 64 * 64 + b2 % 64 ≤ 57343)
      · refine yes (r := ((b0 - 224) * 4096 + b1 % 64 * 64 + b2 % 64, 3)) ?_ ?_ (ne2 (by omega))
        · unfold ref1; rw [if_neg c0, if_neg c1, if_pos c2, if_pos d1, if_pos d2]
        · unfold decodeN; rw [if_neg c0, if_neg (by omega), if_pos (by omega), e, if_pos (by omega)]
      · refine no ?_ ?_
        · unfold ref1; rw [if_neg c0, if_neg c1, if_pos c2, if_pos d1, if_neg d2]
        · unfold decodeN; rw [if_neg c0, if_neg (by omega), if_pos (by omega), e, if_neg (by omega)]
    · refine no ?_ ?_
      · unfold ref1; rw [if_neg c0, if_neg c1, if_pos c2, if_neg d1]
      · unfold decodeN; rw [if_neg c0, if_neg (by omega), if_neg (by omega), if_neg (by omega)]
  by_cases c3 : 240 ≤ b0 ∧ b0 < 245
  · have e : b0 % 8 = b0 - 240 := by omega
    by_cases d1 : 4 ≤ n ∧ b1 / 64 = 2 ∧ b2 / 64 = 2 ∧ b3 / 64 = 2
    · by_cases d2 : 65536 ≤ (b0 - 240) * 262144 + b1 % 64 * 4096 + b2 % 64 * 64 + b3 % 64 ∧ (b0 - 240) * 262144 + b1 % 64 * 4096 + b2 % 64 * 64 + b3 % 64 ≤ 1114111
      · refine yes (r := ((b0 - 240) * 262144 + b1 % 64 * 4096 + b2 % 64 * 64 + b3 % 64, 4)) ?_ ?_ (ne2 (by omega))
        · unfold ref1; rw [if_neg c0, if_neg c1, if_neg c2, if_pos c3, if_pos d1, if_pos d2]
        · unfold decodeN; rw [if_neg c0, if_neg (by omega), if_neg (by omega), if_pos (by omega), e, if_pos (by omega)]
      · refine no ?_ ?_
        · unfold ref1; rw [if_neg c0, if_neg c1, if_neg c2, if_pos c3, if_pos d1, if_neg d2]
        · unfold decodeN; rw [if_neg c0, if_neg (by omega), if_neg (by omega), if_pos (by omega), e, if_neg (by omega)]
    · refine no ?_ ?_
      · unfold ref1; rw [if_neg c0, if_neg c1, if_neg c2, if_pos c3, if_neg d1]
      · unfold decodeN; rw [if_neg c0, if_neg (by omega), if_neg (by omega), if_neg (by omega)]
  refine no ?_ ?_
  · unfold ref1; rw [if_neg c0, if_neg c1, if_neg c2, if_neg c3]
  · unfold decodeN
    rw [if_neg c0]
    by_cases k1 : b0 / 32 = 6 ∧ (1 < n ∧ b1 / 64 = 2)
    · rw [if_pos k1, if_neg (by omega)]
    rw [if_neg k1, if_neg (by omega)]
    by_cases k3 : b0 / 8 = 30 ∧ (1 < n ∧ b1 / 64 = 2) ∧ (2 < n ∧ b2 / 64 = 2) ∧ (3 < n ∧ b3 / 64 = 2)
    · rw [if_pos k3, if_neg (by omega)]
    · rw [if_neg k3]

/-- A rune of a string, or (0, 0): none that is whole. -/
def rune (s : ByteArray) (i : Nat) : Nat × Nat := if Utf8.decode s i = (65533, 1) then (0, 0) else Utf8.decode s i
theorem rune_ref (s : ByteArray) (i : Nat) (h : i < s.size) : rune s i = ref1 (s.size - i) (s.get! i).toNat (s.get! (i + 1)).toNat (s.get! (i + 2)).toNat (s.get! (i + 3)).toNat := by
  unfold rune
  rw [decode_at, ref1_eq _ _ _ _ _ (by omega) (UInt8.toNat_lt _) (UInt8.toNat_lt _) (UInt8.toNat_lt _) (UInt8.toNat_lt _)]
theorem rune_two (s : ByteArray) (i : Nat) : (rune s i).2 = 0 ∨ rune s i = Utf8.decode s i := by
  unfold rune; split
  · exact .inl rfl
  · exact .inr rfl
theorem rune_bd (s : ByteArray) (i : Nat) : (rune s i).1 ≤ 1114111 ∧ (rune s i).2 ≤ 4 := by
  unfold rune
  split
  · simp
  · refine ⟨rune_le s i, ?_⟩
    rw [decode_at]; unfold decodeN
    (repeat' split) <;> simp

/-- Are all runes from a place on whole? -/
def wholeFrom (s : ByteArray) : Nat → Nat → Bool
  | 0, _ => true
  | f + 1, i => if i < s.size then (if (rune s i).2 = 0 then false else wholeFrom s f (i + (rune s i).2)) else true
def whole (s : ByteArray) : Bool := wholeFrom s s.size 0
theorem dec_pos (s : ByteArray) (i : Nat) (h : i < s.size) : (rune s i).2 = 0 ↔ Utf8.decode s i = (65533, 1) := by
  unfold rune; split
  · simp_all
  · rename_i h'
    have := decode_width_pos s i h
    constructor
    · intro e; omega
    · intro e; exact absurd e h'
theorem size_list (s : ByteArray) : s.data.toList.length = s.size := by simp
theorem get_ext (s : ByteArray) (i k : Nat) : (s.extract i s.size).get! k = s.get! (i + k) := by
  have e : (s.extract i s.size).data = s.data.extract i s.size := by
    apply Array.toList_inj.1; rw [ext_list, Array.toList_extract, List.extract_eq_drop_take', List.take_of_length_le (by rw [size_list]; exact Nat.le_refl _)]
  show (s.extract i s.size).data[k]! = s.data[i + k]!
  rw [e]
  simp only [Array.getElem!_eq_getD, Array.getD_eq_getD_getElem?, Array.getElem?_extract]
  by_cases h : k < s.size - i
  · rw [if_pos (by simp at h ⊢; omega)]
  · rw [if_neg (by simp at h ⊢; omega), Array.getElem?_eq_none (by simp at h ⊢; omega)]
theorem decodeL_drop (s : ByteArray) (i : Nat) : decodeL (s.data.toList.drop i) = Utf8.decode s i := by
  have e : (⟨(s.data.toList.drop i).toArray⟩ : ByteArray) = s.extract i s.size := by
    apply ByteArray.ext; apply Array.toList_inj.1
    rw [ext_list]
  unfold decodeL
  rw [e, decode_at, decode_at, ext_size]
  simp only [get_ext, Nat.add_zero, Nat.zero_add, Nat.sub_zero, Nat.add_assoc]
theorem valid_whole (s : ByteArray) : ∀ (f i : Nat), validGoD f (s.data.toList.drop i) = wholeFrom s f i
  | 0, _ => rfl
  | f + 1, i => by
    unfold validGoD wholeFrom
    by_cases h : i < s.size
    · rw [if_neg (by intro e; have := List.drop_eq_nil_iff.1 e; simp at h this; omega), if_pos h, decodeL_drop]
      have hp := dec_pos s i h
      by_cases hz : (rune s i).2 = 0
      · rw [if_pos hz, if_pos (by rw [hp.1 hz]; exact ⟨rfl, rfl⟩)]
      · have hd : Utf8.decode s i ≠ (65533, 1) := fun e => hz (hp.2 e)
        rw [if_neg hz, if_neg (fun e => hd (Prod.ext e.1 e.2)), List.drop_drop, valid_whole s f]
        rcases rune_two s i with h2 | h2
        · exact absurd h2 hz
        · rw [h2]
    · rw [if_neg h, if_pos (List.drop_eq_nil_iff.2 (by simp at h ⊢; omega))]
theorem validD_whole (s : ByteArray) : validD s.data.toList = whole s := by
  have := valid_whole s s.size 0
  rw [List.drop_zero] at this
  unfold validD whole
  rw [← this, size_list]

/-- How many runes, from a place on. -/
def runesFrom (s : ByteArray) : Nat → Nat → Nat
  | 0, _ => 0
  | f + 1, i => if i < s.size then 1 + runesFrom s f (i + (rune s i).2) else 0
theorem runes_count (s : ByteArray) : ∀ (f i : Nat), wholeFrom s f i = true → runeCountFrom s f i = runesFrom s f i
  | 0, _, _ => rfl
  | f + 1, i, h => by
    unfold wholeFrom at h
    unfold runeCountFrom runesFrom
    by_cases hi : i < s.size
    · rw [if_pos hi] at h ⊢
      rw [if_pos hi]
      by_cases hz : (rune s i).2 = 0
      · rw [if_pos hz] at h; exact absurd h (by simp)
      · rw [if_neg hz] at h
        rcases rune_two s i with h2 | h2
        · exact absurd h2 hz
        · rw [h2] at h ⊢; rw [runes_count s f _ h]
    · rw [if_neg hi, if_neg hi]
/-- May a rune not stand in a name? -/
def oddN (r : Nat) : Bool := decide (r < 32) || (decide (127 ≤ r) && decide (r ≤ 159)) || r == 47
/-- Are all runes from a place on whole, and none of them odd? -/
def fineFrom (s : ByteArray) : Nat → Nat → Bool
  | 0, _ => true
  | f + 1, i => if i < s.size then (if (rune s i).2 = 0 ∨ oddN (rune s i).1 = true then false else fineFrom s f (i + (rune s i).2)) else true
theorem fine_eq (s : ByteArray) : ∀ (f i : Nat), fineFrom s f i = (wholeFrom s f i && !decide (0 ≤ idxFuncFrom oddN true s f i))
  | 0, _ => by simp [fineFrom, wholeFrom, idxFuncFrom]
  | f + 1, i => by
    unfold fineFrom wholeFrom idxFuncFrom
    by_cases hi : i < s.size
    · rw [if_pos hi, if_pos hi, if_pos hi]
      by_cases hz : (rune s i).2 = 0
      · rw [if_pos (.inl hz), if_pos hz, Bool.false_and]
      · rw [if_neg hz]
        rcases rune_two s i with h2 | h2
        · exact absurd h2 hz
        · rw [h2]
          by_cases ho : oddN (Utf8.decode s i).1 = true
          · rw [if_pos (.inr ho), if_pos ho]
            have : (0 : Int) ≤ i := by omega
            simp [this]
          · rw [if_neg (by rintro (h | h); exact hz (h2 ▸ h); exact ho h), if_neg ho, fine_eq s f]
    · rw [if_neg hi, if_neg hi, if_neg hi]; simp
/-- A byte of a text. -/
def byteAt (s : ByteArray) (i : Nat) : Nat := (s.get! i).toNat
/-- May a name be? -/
def mayB (s : ByteArray) : Bool := decide (1 ≤ s.size) && decide (s.size ≤ 20) && fineFrom s s.size 0 && byteAt s 0 != 32 && byteAt s (s.size - 1) != 32
theorem may_prog (s : ByteArray) : mayB s = (decide (1 ≤ s.size) && decide (s.size ≤ 20) && validD s.data.toList && !decide (0 ≤ idxFunc oddN true s) && byteAt s 0 != 32 && byteAt s (s.size - 1) != 32) := by
  unfold mayB
  rw [fine_eq, validD_whole]
  unfold whole idxFunc
  cases decide (1 ≤ s.size) <;> cases decide (s.size ≤ 20) <;> cases wholeFrom s s.size 0 <;> simp
end Go.Proofs.YtnajccljdjllgaaDoor
