/- Plain facts on names: what stands behind a name, or within it. -/
import Derived.Test.YtbdbmigkcpgmkaaDoorUtfb
set_option linter.unusedVariables false
set_option linter.unusedSimpArgs false
namespace Go.Proofs.YtbdbmigkcpgmkaaDoor
open Go.RowKit Go.Lib
theorem fine_bad {s : ByteArray} {f i : Nat} (hi : i < s.size) (hf : s.size ≤ i + f) (h : (rune s i).2 = 0 ∨ oddN (rune s i).1 = true) : fineFrom s f i = false := by
  cases f with
  | zero => omega
  | succ f => rw [fineFrom, if_pos hi, if_pos h]
/-- What begins a text: if a place is a rune's edge of the beginning, the scan of the text comes to it. -/
theorem fine_begins {p s : ByteArray} (hb : Begins p s) : ∀ (f i : Nat), p.size ≤ i + f → fineFrom p f i = true → ∀ g, s.size ≤ i + g → ∃ g', s.size ≤ p.size + g' ∧ (i ≤ p.size → fineFrom s g i = fineFrom s g' p.size)
  | 0, i, h0, _, g, hg => by
    by_cases h : i ≤ p.size
    · obtain rfl : i = p.size := by omega
      exact ⟨g, hg, fun _ => rfl⟩
    · exact ⟨s.size, by omega, fun h' => absurd h' h⟩
  | f + 1, i, h0, hf, g, hg => by
    by_cases hi : i < p.size
    · have hs : i < s.size := by have := hb.1; omega
      rw [fineFrom, if_pos hi] at hf
      by_cases hz : (rune p i).2 = 0 ∨ oddN (rune p i).1 = true
      · rw [if_pos hz] at hf; cases hf
      · rw [if_neg hz] at hf
        have hr := rune_begins hb hi (fun e => hz (.inl e))
        cases g with
        | zero => omega
        | succ g =>
          have hle := rune_le_size hi
          have hne : (rune p i).2 ≠ 0 := fun e => hz (.inl e)
          obtain ⟨g', h1, h2⟩ := fine_begins hb f (i + (rune p i).2) (by omega) hf g (by omega)
          refine ⟨g', h1, fun _ => ?_⟩
          rw [fineFrom, if_pos hs, hr, if_neg hz]
          exact h2 hle
    · by_cases h : i ≤ p.size
      · obtain rfl : i = p.size := by omega
        exact ⟨g, hg, fun _ => rfl⟩
      · exact ⟨s.size, by omega, fun h' => absurd h' h⟩
/-- q stands in s from d on, to the end. -/
def Ends (q s : ByteArray) (d : Nat) : Prop := s.size = d + q.size ∧ ∀ i, byteAt s (d + i) = byteAt q i
theorem rune_ends {q s : ByteArray} {d : Nat} (h : Ends q s d) {i : Nat} (hi : i < q.size) : rune s (d + i) = rune q i := by
  obtain ⟨h1, h2⟩ := h
  rw [rune_ref' s _ (by omega), rune_ref' q i hi, h2, Nat.add_assoc, h2, Nat.add_assoc, h2, Nat.add_assoc, h2]
  congr 1; omega
theorem fine_ends {q s : ByteArray} {d : Nat} (h : Ends q s d) : ∀ (f i g : Nat), q.size ≤ i + f → q.size ≤ i + g → fineFrom s f (d + i) = fineFrom q g i
  | 0, i, g, hf, hg => by
    have hi : ¬ i < q.size := by omega
    cases g <;> simp [fineFrom, hi]
  | f + 1, i, 0, hf, hg => by
    have hi : ¬ d + i < s.size := by have := h.1; omega
    simp [fineFrom, hi]
  | f + 1, i, g + 1, hf, hg => by
    rw [fineFrom, fineFrom]
    by_cases hi : i < q.size
    · have hs : d + i < s.size := by have := h.1; omega
      rw [if_pos hi, if_pos hs, rune_ends h hi]
      by_cases hz : (rune q i).2 = 0 ∨ oddN (rune q i).1 = true
      · rw [if_pos hz, if_pos hz]
      · rw [if_neg hz, if_neg hz, Nat.add_assoc]
        have hne : (rune q i).2 ≠ 0 := fun e => hz (.inl e)
        exact fine_ends h f _ g (by omega) (by omega)
    · have hs : ¬ d + i < s.size := by have := h.1; omega
      rw [if_neg hi, if_neg hs]
theorem fine_app {p q s : ByteArray} (hb : Begins p s) (he : Ends q s p.size) (hp : fineFrom p p.size 0 = true) : fineFrom s s.size 0 = fineFrom q q.size 0 := by
  obtain ⟨g', h1, h2⟩ := fine_begins hb p.size 0 (by omega) hp s.size (by omega)
  rw [h2 (Nat.zero_le _)]
  have := fine_ends he g' 0 q.size (by have := he.1; omega) (by omega)
  rwa [Nat.add_zero] at this
theorem ends_app (a b : ByteArray) : Ends b (a ++ b) a.size := ⟨by simp, fun i => byte_right a b i⟩
theorem fine_cat {a b : ByteArray} (h : fineFrom a a.size 0 = true) : fineFrom (a ++ b) (a ++ b).size 0 = fineFrom b b.size 0 := fine_app (begins_app a b) (ends_app a b) h
/-- The parts of 'may a name be'. -/
theorem may_iff {s : ByteArray} : mayB s = true ↔ 1 ≤ s.size ∧ s.size ≤ 20 ∧ fineFrom s s.size 0 = true ∧ byteAt s 0 ≠ 32 ∧ byteAt s (s.size - 1) ≠ 32 := by
  unfold mayB; simp; constructor
  · rintro ⟨⟨⟨⟨a, b⟩, c⟩, d⟩, e⟩; exact ⟨a, b, c, d, e⟩
  · rintro ⟨a, b, c, d, e⟩; exact ⟨⟨⟨⟨a, b⟩, c⟩, d⟩, e⟩
abbrev blank : ByteArray := ⟨#[32]⟩
theorem blank_fine : fineFrom blank blank.size 0 = true := by decide +kernel
theorem may_both {a b : ByteArray} (ha : mayB a = true) (hb : mayB b = true) : mayB ((a ++ blank) ++ b) = decide (((a ++ blank) ++ b).size ≤ 20) := by
  obtain ⟨a1, a2, a3, a4, a5⟩ := may_iff.1 ha
  obtain ⟨b1, b2, b3, b4, b5⟩ := may_iff.1 hb
  have hz : ((a ++ blank) ++ b).size = a.size + 1 + b.size := by rw [ByteArray.size_append, ByteArray.size_append]; rfl
  have hz1 : (a ++ blank).size = a.size + 1 := by rw [ByteArray.size_append]; rfl
  by_cases h : ((a ++ blank) ++ b).size ≤ 20
  · rw [decide_eq_true h, may_iff]
    refine ⟨by omega, h, ?_, ?_, ?_⟩
    · rw [fine_cat (by rw [fine_cat a3]; exact blank_fine)]; exact b3
    · rw [byte_left _ _ _ (by omega), byte_left _ _ _ (by omega)]; exact a4
    · rw [hz, show a.size + 1 + b.size - 1 = (a ++ blank).size + (b.size - 1) by omega, byte_right]; exact b5
  · rw [decide_eq_false h]
    cases hm : mayB ((a ++ blank) ++ b)
    · rfl
    · exact absurd (may_iff.1 hm).2.1 h
theorem may_behind {a : ByteArray} : mayB (a ++ blank) = false := by
  cases hm : mayB (a ++ blank)
  · rfl
  · have h := (may_iff.1 hm).2.2.2.2
    have hz1 : (a ++ blank).size = a.size + 1 := by rw [ByteArray.size_append]; rfl
    rw [hz1, show a.size + 1 - 1 = a.size + 0 by omega, byte_right] at h
    exact absurd rfl h
theorem may_ahead {a : ByteArray} : mayB (blank ++ a) = false := by
  cases hm : mayB (blank ++ a)
  · rfl
  · have h := (may_iff.1 hm).2.2.2.1
    rw [byte_left _ _ _ (by decide)] at h
    exact absurd rfl h
/-- The nine signs that may not be. -/
def bads : List ByteArray := [⟨#[47]⟩, ⟨#[0]⟩, ⟨#[10]⟩, ⟨#[31]⟩, ⟨#[127]⟩, ⟨#[194, 133]⟩, ⟨#[194, 159]⟩, ⟨#[255]⟩, ⟨#[192, 128]⟩]
/-- What is known of each: it is no more of a rune, and it stops the scan whatever follows. -/
def Bad (x : ByteArray) : Prop := 1 ≤ x.size ∧ byteAt x 0 / 64 ≠ 2 ∧ ∀ n c1 c2 c3, x.size ≤ n → (1 < x.size → c1 = byteAt x 1) → (ref1 n (byteAt x 0) c1 c2 c3).2 = 0 ∨ oddN (ref1 n (byteAt x 0) c1 c2 c3).1 = true
theorem bads_bad (x : ByteArray) (h : x ∈ bads) : Bad x := by
  have one : ∀ c : UInt8, (c.toNat < 128 ∧ oddN c.toNat = true) ∨ c.toNat = 255 → Bad ⟨#[c]⟩ := by
    intro c hc
    refine ⟨by simp [ByteArray.size], ?_, fun n c1 c2 c3 hn h1 => ?_⟩
    · show c.toNat / 64 ≠ 2; omega
    · show (ref1 n c.toNat c1 c2 c3).2 = 0 ∨ oddN (ref1 n c.toNat c1 c2 c3).1 = true
      rcases hc with ⟨h, ho⟩ | h
      · right; unfold ref1; rw [if_pos h]; exact ho
      · left; unfold ref1; rw [if_neg (by omega), if_neg (by omega), if_neg (by omega), if_neg (by omega)]
  have two : ∀ c d : UInt8, (c.toNat = 194 ∧ 128 ≤ d.toNat ∧ d.toNat ≤ 159) ∨ c.toNat = 192 → Bad ⟨#[c, d]⟩ := by
    intro c d hc
    refine ⟨by simp [ByteArray.size], ?_, fun n c1 c2 c3 hn h1 => ?_⟩
    · show c.toNat / 64 ≠ 2; omega
    · show (ref1 n c.toNat c1 c2 c3).2 = 0 ∨ oddN (ref1 n c.toNat c1 c2 c3).1 = true
      have h1' : c1 = d.toNat := h1 (by simp [ByteArray.size])
      have hn' : 2 ≤ n := by simpa [ByteArray.size] using hn
      rcases hc with ⟨h, h2, h3⟩ | h
      · right; unfold ref1
        rw [if_neg (by omega), if_pos (by omega), if_pos (by omega), if_pos (by omega)]
        unfold oddN; simp; omega
      · left; unfold ref1; rw [if_neg (by omega), if_neg (by omega), if_neg (by omega), if_neg (by omega)]
  simp only [bads, List.mem_cons, List.not_mem_nil, or_false] at h
  rcases h with rfl | rfl | rfl | rfl | rfl | rfl | rfl | rfl | rfl
  · exact one _ (by decide)
  · exact one _ (by decide)
  · exact one _ (by decide)
  · exact one _ (by decide)
  · exact one _ (by decide)
  · exact two _ _ (by decide)
  · exact two _ _ (by decide)
  · exact one _ (by decide)
  · exact two _ _ (by decide)
/-- A whole rune hangs on its own bytes alone. -/
theorem ref1_same {n m b0 b1 b2 b3 c1 c2 c3 w : Nat} (hw : (ref1 n b0 b1 b2 b3).2 = w) (h : w ≠ 0) (hm : w ≤ m) (e1 : 1 < w → c1 = b1) (e2 : 2 < w → c2 = b2) (e3 : 3 < w → c3 = b3) :
    ref1 m b0 c1 c2 c3 = ref1 n b0 b1 b2 b3 := by
  unfold ref1 at hw ⊢
  by_cases h0 : b0 < 128
  · rw [if_pos h0, if_pos h0]
  rw [if_neg h0] at hw
  rw [if_neg h0, if_neg h0]
  by_cases h1 : 194 ≤ b0 ∧ b0 < 224
  · rw [if_pos h1] at hw
    rw [if_pos h1, if_pos h1]
    by_cases k : 2 ≤ n ∧ b1 / 64 = 2
    · have hw2 : w = 2 := by
        rw [if_pos k] at hw; split at hw
        · exact hw.symm
        · exact absurd hw.symm h
      rw [e1 (by omega), if_pos k, if_pos (by omega)]
    · rw [if_neg k] at hw; exact absurd hw.symm h
  rw [if_neg h1] at hw
  rw [if_neg h1, if_neg h1]
  by_cases h2 : 224 ≤ b0 ∧ b0 < 240
  · rw [if_pos h2] at hw
    rw [if_pos h2, if_pos h2]
    by_cases k : 3 ≤ n ∧ b1 / 64 = 2 ∧ b2 / 64 = 2
    · have hw2 : w = 3 := by
        rw [if_pos k] at hw; split at hw
        · exact hw.symm
        · exact absurd hw.symm h
      rw [e1 (by omega), e2 (by omega), if_pos k, if_pos (by omega)]
    · rw [if_neg k] at hw; exact absurd hw.symm h
  rw [if_neg h2] at hw
  rw [if_neg h2, if_neg h2]
  by_cases h3 : 240 ≤ b0 ∧ b0 < 245
  · rw [if_pos h3] at hw
    rw [if_pos h3, if_pos h3]
    by_cases k : 4 ≤ n ∧ b1 / 64 = 2 ∧ b2 / 64 = 2 ∧ b3 / 64 = 2
    · have hw2 : w = 4 := by
        rw [if_pos k] at hw; split at hw
        · exact hw.symm
        · exact absurd hw.symm h
      rw [e1 (by omega), e2 (by omega), e3 (by omega), if_pos k, if_pos (by omega)]
    · rw [if_neg k] at hw; exact absurd hw.symm h
  rw [if_neg h3] at hw; exact absurd hw.symm h
theorem ref1_lead {n b0 b1 b2 b3 w : Nat} (hw : (ref1 n b0 b1 b2 b3).2 = w) (h : 1 < w) : Lead b0 w ∧ w ≤ 4 := by
  unfold Lead
  unfold ref1 at hw
  split at hw
  · simp at hw; omega
  split at hw
  · (repeat' split at hw) <;> simp at hw <;> omega
  split at hw
  · (repeat' split at hw) <;> simp at hw <;> omega
  split at hw
  · (repeat' split at hw) <;> simp at hw <;> omega
  · simp at hw; omega
/-- With a bad sign within it a text is not fine. -/
theorem fine_within {a s x : ByteArray} {k : Nat} (hk : k ≤ a.size) (hx : Bad x) (hz : s.size = a.size + x.size) (h1 : ∀ i, i < k → byteAt s i = byteAt a i) (h2 : ∀ i, i < x.size → byteAt s (k + i) = byteAt x i) :
    ∀ (f i : Nat), i ≤ k → a.size ≤ i + f → fineFrom a f i = true → ∀ g, s.size ≤ i + g → fineFrom s g i = false
  | f, i, hi, hf, hfi, g, hg => by
    obtain ⟨x1, x2, x3⟩ := hx
    by_cases hik : i = k
    · subst hik
      refine fine_bad (by omega) hg ?_
      rw [rune_ref' s i (by omega), show byteAt s i = byteAt x 0 from by have := h2 0 (by omega); rwa [Nat.add_zero] at this]
      exact x3 _ _ _ _ (by omega) (fun h => h2 1 h)
    · cases f with
      | zero => omega
      | succ f =>
        have hia : i < a.size := by omega
        have his : i < s.size := by omega
        rw [fineFrom, if_pos hia] at hfi
        by_cases hb : (rune a i).2 = 0 ∨ oddN (rune a i).1 = true
        · rw [if_pos hb] at hfi; cases hfi
        rw [if_neg hb] at hfi
        have hne : (rune a i).2 ≠ 0 := fun e => hb (.inl e)
        obtain ⟨w, hw⟩ : ∃ w, (rune a i).2 = w := ⟨_, rfl⟩
        have hra := rune_ref' a i hia
        have hrs := rune_ref' s i his
        rw [h1 i (by omega)] at hrs
        have hw' := hw
        rw [hra] at hw'
        by_cases hle : i + w ≤ k
        · have hr : rune s i = rune a i := by
            rw [hra, hrs]
            exact ref1_same hw' (hw ▸ hne) (by omega) (fun _ => h1 _ (by omega)) (fun _ => h1 _ (by omega)) (fun _ => h1 _ (by omega))
          cases g with
          | zero => omega
          | succ g =>
            rw [fineFrom, if_pos his, hr, if_neg hb]
            exact fine_within hk ⟨x1, x2, x3⟩ hz h1 h2 f _ (by omega) (by omega) hfi g (by omega)
        · refine fine_bad his hg (.inl ?_)
          obtain ⟨hl, hw4⟩ := ref1_lead hw' (by omega)
          rw [hrs]
          have hb0 : byteAt s k = byteAt x 0 := by have := h2 0 (by omega); rwa [Nat.add_zero] at this
          have hK := byteK_at s i (k - i) (by omega) (by omega)
          rw [show i + (k - i) = k by omega, hb0] at hK
          rw [ref1_bad _ _ _ _ _ w (k - i) hl (by omega) (by omega) (by rw [← hK]; omega)]
theorem may_within {a x : ByteArray} {k : Nat} (ha : mayB a = true) (hk : k ≤ a.size) (hx : x ∈ bads) : mayB ((a.extract 0 k ++ x) ++ a.extract k a.size) = false := by
  obtain ⟨a1, a2, a3, a4, a5⟩ := may_iff.1 ha
  cases hm : mayB ((a.extract 0 k ++ x) ++ a.extract k a.size)
  · rfl
  · obtain ⟨b1, b2, b3, b4, b5⟩ := may_iff.1 hm
    have hz1 := size_take a k hk
    have hz2 := ext_size a k
    rw [fine_within (a := a) (s := (a.extract 0 k ++ x) ++ a.extract k a.size) (x := x) (k := k) hk (bads_bad x hx) (by rw [ByteArray.size_append, ByteArray.size_append]; omega)
      (fun i hi => by rw [byte_left _ _ _ (by rw [ByteArray.size_append]; omega), byte_left _ _ _ (by omega), byte_take a k i hi])
      (fun i hi => by rw [byte_left _ _ _ (by rw [ByteArray.size_append]; omega)]; have := byte_right (a.extract 0 k) x i; rwa [hz1] at this)
      a.size 0 (Nat.zero_le _) (by omega) a3 _ (by omega)] at b3
    cases b3
end Go.Proofs.YtbdbmigkcpgmkaaDoor
