/- Plain facts on names: beginnings of texts, texts behind one another, the order of texts. -/
import Derived.Test.YtbdbmigkcpgmkaaDoorLawa
set_option linter.unusedVariables false
set_option linter.unusedSimpArgs false
namespace Go.Proofs.YtbdbmigkcpgmkaaDoor
open Go.RowKit Go.Lib
theorem byte_eq (s : ByteArray) (i : Nat) : byteAt s i = (s.data.toList.getD i 0).toNat := by
  unfold byteAt
  show (s.data[i]!).toNat = _
  rw [Array.getElem!_eq_getD, Array.getD_eq_getD_getElem?, List.getD_eq_getElem?_getD, Array.getElem?_toList]
  rfl
theorem app_list (a b : ByteArray) : (a ++ b).data.toList = a.data.toList ++ b.data.toList := by simp
theorem byte_left (a b : ByteArray) (i : Nat) (h : i < a.size) : byteAt (a ++ b) i = byteAt a i := by
  rw [byte_eq, byte_eq, app_list, List.getD_eq_getElem?_getD, List.getElem?_append_left (by rw [size_list]; exact h), ← List.getD_eq_getElem?_getD]
theorem byte_right (a b : ByteArray) (i : Nat) : byteAt (a ++ b) (a.size + i) = byteAt b i := by
  rw [byte_eq, byte_eq, app_list, List.getD_eq_getElem?_getD, List.getElem?_append_right (by rw [size_list]; omega), size_list, Nat.add_sub_cancel_left, ← List.getD_eq_getElem?_getD]
theorem take_list (a : ByteArray) (k : Nat) : (a.extract 0 k).data.toList = a.data.toList.take k := by
  simp [List.extract_eq_drop_take']
theorem byte_take (a : ByteArray) (k i : Nat) (h : i < k) : byteAt (a.extract 0 k) i = byteAt a i := by
  rw [byte_eq, byte_eq, take_list, List.getD_eq_getElem?_getD, List.getElem?_take_of_lt h, ← List.getD_eq_getElem?_getD]
theorem size_take (a : ByteArray) (k : Nat) (h : k ≤ a.size) : (a.extract 0 k).size = k := by
  rw [← size_list, take_list, List.length_take, size_list]; omega
theorem byte_drop (a : ByteArray) (k i : Nat) : byteAt (a.extract k a.size) i = byteAt a (k + i) := by
  unfold byteAt; rw [get_ext]
theorem rune_ref' (s : ByteArray) (i : Nat) (h : i < s.size) : rune s i = ref1 (s.size - i) (byteAt s i) (byteAt s (i + 1)) (byteAt s (i + 2)) (byteAt s (i + 3)) := rune_ref s i h
/-- A rune that is whole stays so whatever follows. -/
theorem ref1_more {n m b0 b1 b2 b3 c1 c2 c3 : Nat} (h : (ref1 n b0 b1 b2 b3).2 ≠ 0) (hm : n ≤ m) (e1 : 1 < n → c1 = b1) (e2 : 2 < n → c2 = b2) (e3 : 3 < n → c3 = b3) :
    ref1 m b0 c1 c2 c3 = ref1 n b0 b1 b2 b3 := by
  unfold ref1 at h ⊢
  by_cases h0 : b0 < 128
  · rw [if_pos h0, if_pos h0]
  rw [if_neg h0] at h
  rw [if_neg h0, if_neg h0]
  by_cases h1 : 194 ≤ b0 ∧ b0 < 224
  · rw [if_pos h1] at h
    rw [if_pos h1, if_pos h1]
    by_cases k : 2 ≤ n ∧ b1 / 64 = 2
    · rw [e1 (by omega), if_pos k, if_pos (by omega)]
    · rw [if_neg k] at h; exact absurd rfl h
  rw [if_neg h1] at h
  rw [if_neg h1, if_neg h1]
  by_cases h2 : 224 ≤ b0 ∧ b0 < 240
  · rw [if_pos h2] at h
    rw [if_pos h2, if_pos h2]
    by_cases k : 3 ≤ n ∧ b1 / 64 = 2 ∧ b2 / 64 = 2
    · rw [e1 (by omega), e2 (by omega), if_pos k, if_pos (by omega)]
    · rw [if_neg k] at h; exact absurd rfl h
  rw [if_neg h2] at h
  rw [if_neg h2, if_neg h2]
  by_cases h3 : 240 ≤ b0 ∧ b0 < 245
  · rw [if_pos h3] at h
    rw [if_pos h3, if_pos h3]
    by_cases k : 4 ≤ n ∧ b1 / 64 = 2 ∧ b2 / 64 = 2 ∧ b3 / 64 = 2
    · rw [e1 (by omega), e2 (by omega), e3 (by omega), if_pos k, if_pos (by omega)]
    · rw [if_neg k] at h; exact absurd rfl h
  rw [if_neg h3] at h; exact absurd rfl h
/-- A whole rune takes no more bytes than there are. -/
theorem ref1_le {n b0 b1 b2 b3 : Nat} (hn : 1 ≤ n) : (ref1 n b0 b1 b2 b3).2 ≤ n := by
  unfold ref1
  (repeat' split) <;> simp <;> omega
theorem rune_le_size {s : ByteArray} {i : Nat} (h : i < s.size) : i + (rune s i).2 ≤ s.size := by
  rw [rune_ref' s i h]
  have := ref1_le (n := s.size - i) (b0 := byteAt s i) (b1 := byteAt s (i + 1)) (b2 := byteAt s (i + 2)) (b3 := byteAt s (i + 3)) (by omega)
  omega
/-- p is the beginning of s. -/
def Begins (p s : ByteArray) : Prop := p.size ≤ s.size ∧ ∀ i, i < p.size → byteAt s i = byteAt p i
theorem rune_begins {p s : ByteArray} (hb : Begins p s) {i : Nat} (hi : i < p.size) (h : (rune p i).2 ≠ 0) : rune s i = rune p i := by
  obtain ⟨h1, h2⟩ := hb
  rw [rune_ref' p i hi] at h ⊢
  rw [rune_ref' s i (by omega), h2 i hi]
  exact ref1_more h (by omega) (fun k => h2 _ (by omega)) (fun k => h2 _ (by omega)) (fun k => h2 _ (by omega))
theorem runes_begins {p s : ByteArray} (hb : Begins p s) : ∀ (f g i : Nat), f ≤ g → wholeFrom p f i = true → runesFrom p f i ≤ runesFrom s g i
  | 0, _, _, _, _ => Nat.zero_le _
  | f + 1, 0, _, h, _ => by omega
  | f + 1, g + 1, i, h, hw => by
    by_cases hi : i < p.size
    · have hs : i < s.size := by have := hb.1; omega
      rw [runesFrom_lt hi, runesFrom_lt hs]
      rw [wholeFrom, if_pos hi] at hw
      by_cases hz : (rune p i).2 = 0
      · rw [if_pos hz] at hw; cases hw
      · rw [if_neg hz] at hw
        rw [rune_begins hb hi hz]
        have := runes_begins hb f g _ (by omega) hw
        omega
    · rw [runesFrom_ge hi]; exact Nat.zero_le _
theorem runesN_begins {p s : ByteArray} (hb : Begins p s) (h1 : whole p = true) (h2 : whole s = true) : runesN p ≤ runesN s := by
  rw [runesN_yes h1, runesN_yes h2]
  exact runes_begins hb _ _ _ hb.1 h1
theorem begins_take (a : ByteArray) (k : Nat) (h : k ≤ a.size) : Begins (a.extract 0 k) a :=
  ⟨by rw [size_take a k h]; exact h, fun i hi => by rw [size_take a k h] at hi; exact (byte_take a k i hi).symm⟩
theorem begins_app (a b : ByteArray) : Begins a (a ++ b) := ⟨by simp, fun i hi => byte_left a b i hi⟩

/-! The order of texts -/
def ltS (a b : ByteArray) : Bool := Op.bytesLess a.toList b.toList
theorem ltS_list (a b : ByteArray) : ltS a b = decide (a.data.toList < b.data.toList) := by
  have : ∀ (x y : List UInt8), Op.bytesLess x y = decide (x < y) := by
    intro x
    induction x with
    | nil => intro y; cases y <;> simp [Op.bytesLess]
    | cons a x ih =>
      intro y
      cases y with
      | nil => simp [Op.bytesLess]
      | cons b y => rw [Op.bytesLess, ih, Bool.eq_iff_iff]; simp [List.cons_lt_cons_iff]
  unfold ltS
  rw [this, Lib.toList_data, Lib.toList_data]
theorem ltS_irrefl (a : ByteArray) : ltS a a = false := by rw [ltS_list]; simp [List.lt_irrefl]
theorem ltS_trans {a b c : ByteArray} (h : ltS a b = true) (g : ltS b c = true) : ltS a c = true := by
  rw [ltS_list] at *; simp at *; exact List.lt_trans h g
theorem eq_of_list {a b : ByteArray} (h : a.data.toList = b.data.toList) : a = b := ByteArray.ext (Array.toList_inj.1 h)
theorem ltS_total {a b : ByteArray} (h : ltS a b = false) (g : ltS b a = false) : a = b := by
  rw [ltS_list] at *; simp at *
  exact eq_of_list (List.le_antisymm g h)
theorem ltS_asymm {a b : ByteArray} (h : ltS a b = true) : ltS b a = false := by
  cases g : ltS b a
  · rfl
  · have := ltS_trans h g; rw [ltS_irrefl] at this; cases this
theorem ltS_take (a : ByteArray) (k : Nat) (h : k < a.size) : ltS (a.extract 0 k) a = true := by
  rw [ltS_list, take_list]
  simp
  have hl : k < a.data.toList.length := by rw [size_list]; exact h
  clear h
  generalize a.data.toList = l at hl
  induction l generalizing k with
  | nil => simp at hl
  | cons x l ih =>
    cases k with
    | zero => simp
    | succ k => simp [List.cons_lt_cons_iff]; exact ih k (by simp at hl; omega)
end Go.Proofs.YtbdbmigkcpgmkaaDoor
