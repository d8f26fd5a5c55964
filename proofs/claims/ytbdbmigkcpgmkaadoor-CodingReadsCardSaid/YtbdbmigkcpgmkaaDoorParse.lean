/- What coding.Read answers, in plain words. -/
import Derived.Test.YtbdbmigkcpgmkaaDoorRead
import Derived.Test.YtbdbmigkcpgmkaaDoorOwnC
set_option linter.unusedVariables false
set_option linter.unusedSimpArgs false
namespace Go.Proofs.YtbdbmigkcpgmkaaDoor
open Go.RowKit Go.Lib
def txV : List UInt8 → ByteArray
  | [] => ⟨#[]⟩
  | x :: l => if x.toNat ≤ l.length then bytesS (l.take x.toNat) else ⟨#[]⟩
def txL : List UInt8 → List UInt8
  | [] => []
  | x :: l => if x.toNat ≤ l.length then l.drop x.toNat else l
def txO (l : List UInt8) (bad : Bool) : Bool := match l with
  | [] => true
  | x :: l => if x.toNat ≤ l.length then bad else true
theorem rdtF_any (W0 : World) (B : Nat) (l : List UInt8) (bad : Bool) (w : World) (h : Rd W0 B l bad w) (hl : l.length ≤ 1000000000) :
    Calls Tryd.prog 47 #[.pointer (some ⟨B, 0, none⟩)] w fun e w' => e = .returned (.string (txV l)) ∧ Turned B w w' ∧ Rd W0 B (txL l) (txO l bad) w' :=
  (rdtext_any W0 B l bad w h hl).mono fun e w' ⟨ht, hr⟩ => by
    cases l with
    | nil => exact ⟨hr.1, ht, hr.2⟩
    | cons x l =>
      unfold txV txL txO
      rcases hr with ⟨h1, h2, h3⟩ | ⟨h1, h2, h3⟩
      · simp only [if_pos h1]; exact ⟨h2, ht, h3⟩
      · simp only [if_neg (show ¬ x.toNat ≤ l.length by omega)]; exact ⟨h2, ht, h3⟩
theorem numO_true (l : List UInt8) (n : Nat) : numO l n true = true := by unfold numO; split <;> rfl
theorem txO_true (l : List UInt8) : txO l true = true := by cases l with
  | nil => rfl
  | cons x l => unfold txO; simp only; split <;> rfl
theorem numL_le (l : List UInt8) (n : Nat) : (numL l n).length ≤ l.length := by
  unfold numL; split
  · rw [List.length_drop]; omega
  · omega
theorem txL_le (l : List UInt8) : (txL l).length ≤ l.length := by
  cases l with
  | nil => exact Nat.le_refl _
  | cons x l => unfold txL; simp only; split
                · rw [List.length_drop, List.length_cons]; omega
                · rw [List.length_cons]; omega
theorem numV_lt (l : List UInt8) (n : Nat) : numV l n < 256 ^ n := by
  unfold numV; split
  · rename_i h
    have := numB_lt (l.take n)
    rwa [List.length_take, Nat.min_eq_left h] at this
  · exact Nat.pow_pos (by decide)
theorem txV_le (l : List UInt8) : (txV l).size ≤ 255 := by
  cases l with
  | nil => exact Nat.zero_le _
  | cons x l =>
    have hx := x.toNat_lt
    unfold txV; simp only; split
    · show (l.take x.toNat).toArray.size ≤ 255
      rw [List.size_toArray, List.length_take]; omega
    · exact Nat.zero_le _
section
variable {α : Type}
def booksR : Nat → List UInt8 → List Book → (List UInt8 → List Book → Option α) → Option α
  | 0, l, X, C => C l X
  | k + 1, l, X, C => if txO (numL l 3) (numO l 3 false) then none else booksR k (txL (numL l 3)) (X ++ [⟨numV l 3, txV (numL l 3)⟩]) C
def tagsR : Nat → List UInt8 → List ByteArray → (List UInt8 → List ByteArray → Option α) → Option α
  | 0, l, T, C => C l T
  | k + 1, l, T, C => if txO l false then none else tagsR k (txL l) (T ++ [txV l]) C
def sheetsR : Nat → List UInt8 → List Int → (List UInt8 → List Int → Option α) → Option α
  | 0, l, T, C => C l T
  | k + 1, l, T, C => if numO l 2 false then none else sheetsR k (numL l 2) (T ++ [(numV l 2 : Int)]) C
/-- What is left of the bytes behind a note's numbers and name, and how many tags it has. -/
def hdL (l : List UInt8) : List UInt8 := txL (numL (numL l 3) 3)
def hdO (l : List UInt8) (bad : Bool) : Bool := txO (numL (numL l 3) 3) (numO (numL l 3) 3 (numO l 3 bad))
def hdN (l : List UInt8) : Note := ⟨numV l 3, numV (numL l 3) 3, txV (numL (numL l 3) 3), [], []⟩
def notesR : Nat → List UInt8 → List Note → (List UInt8 → List Note → Option α) → Option α
  | 0, l, Y, C => C l Y
  | k + 1, l, Y, C =>
    if numO (hdL l) 1 (hdO l false) then none else
    tagsR (numV (hdL l) 1) (numL (hdL l) 1) [] fun l1 T =>
      if numO l1 1 false then none else
      sheetsR (numV l1 1) (numL l1 1) [] fun l2 S => notesR k l2 (Y ++ [{ hdN l with tags := T, sheets := S }]) C
end
/-- Behind a note's tags; behind its sheets. -/
def csheets {α : Type} (m : Nat) (N : Note) (Y : List Note) (C : List UInt8 → List Note → Option α) : List UInt8 → List Int → Option α := fun l S => notesR m l (Y ++ [{ N with sheets := S }]) C
def ctags {α : Type} (m : Nat) (N : Note) (Y : List Note) (C : List UInt8 → List Note → Option α) : List UInt8 → List ByteArray → Option α := fun l T => if numO l 1 false then none else sheetsR (numV l 1) (numL l 1) [] (csheets m { N with tags := T } Y C)
theorem notesR_succ {α : Type} (m : Nat) (l : List UInt8) (Y : List Note) (C : List UInt8 → List Note → Option α) : notesR (m + 1) l Y C = if numO (hdL l) 1 (hdO l false) then none else tagsR (numV (hdL l) 1) (numL (hdL l) 1) [] (ctags m (hdN l) Y C) := rfl
def endR (nb nn ns : Int) (X : List Book) (l : List UInt8) (Y : List Note) : Option Shelf := if l.isEmpty && mayS ⟨nb, nn, ns, X, Y⟩ then some ⟨nb, nn, ns, X, Y⟩ else none
def midR (nb nn ns : Int) (l : List UInt8) (X : List Book) : Option Shelf := if numO l 1 false then none else notesR (numV l 1) (numL l 1) [] (endR nb nn ns X)
def h1L (l : List UInt8) : List UInt8 := numL l 3
def h2L (l : List UInt8) : List UInt8 := numL (numL l 3) 3
def h3L (l : List UInt8) : List UInt8 := numL (numL (numL l 3) 3) 3
def h3O (l : List UInt8) : Bool := numO (numL (numL l 3) 3) 3 (numO (numL l 3) 3 (numO l 3 false))
/-- The shelf whose bytes these are. -/
def readR (l : List UInt8) : Option Shelf := if numO (h3L l) 1 (h3O l) then none else booksR (numV (h3L l) 1) (numL (h3L l) 1) [] (midR (numV l 3) (numV (h1L l) 3) (numV (h2L l) 3))
/-- What is kept of the sizes. -/
def FitB (X : List Book) : Prop := ∀ b ∈ X, b.name.size ≤ 255
def FitN (n : Note) : Prop := n.name.size ≤ 255 ∧ n.tags.length ≤ 255 ∧ n.sheets.length ≤ 255 ∧ (∀ t ∈ n.tags, t.size ≤ 255) ∧ ∀ y ∈ n.sheets, 0 ≤ y ∧ y < 65536
theorem fit_tame {nb nn ns : Int} {X : List Book} {Y : List Note} (h1 : X.length ≤ 255) (h2 : Y.length ≤ 255) (h3 : FitB X) (h4 : ∀ n ∈ Y, FitN n) : TameS ⟨nb, nn, ns, X, Y⟩ := by
  refine ⟨⟨?_, ?_, fun b hb => ?_, fun n hn => ?_⟩, fun n hn y hy => ?_⟩
  · show X.length ≤ 1000000; omega
  · show Y.length ≤ 1000000; omega
  · have := h3 b hb; omega
  · obtain ⟨a, b, c, d, -⟩ := h4 n hn
    exact ⟨by omega, by omega, by omega, fun t ht => by have := d t ht; omega⟩
  · have := (h4 n hn).2.2.2.2 y hy
    unfold Wf; omega
end Go.Proofs.YtbdbmigkcpgmkaaDoor
