/- The frames at coding.Read's two labels. -/
import Derived.Test.YtbdbmigkcpgmkaaDoorRs
import Derived.Test.YtbdbmigkcpgmkaaDoorScope2
set_option linter.unusedVariables false
set_option linter.unusedSimpArgs false
namespace Go.Proofs.YtbdbmigkcpgmkaaDoor
open Go.RowKit Go.Lib
set_option maxRecDepth 100000
def P1 (l0 : List UInt8) (w0 : World) (D r S m : Nat) (w : World) : Prop := ∃ l bad bv X, RS w0 D r S (numV l0 3) (numV (h1L l0) 3) (numV (h2L l0) 3) l bad bv (.slice none 0 0) X [] w ∧
  readR l0 = (if bad then none else booksR m l X (midR (numV l0 3) (numV (h1L l0) 3) (numV (h2L l0) 3))) ∧ X.length + m ≤ 255 ∧ FitB X
def P2 (l0 : List UInt8) (w0 : World) (D r S m : Nat) (w : World) : Prop := ∃ l bad bv nv X Y, RS w0 D r S (numV l0 3) (numV (h1L l0) 3) (numV (h2L l0) 3) l bad bv nv X Y w ∧
  readR l0 = (if bad then none else notesR m l (Y.map NV.n) (endR (numV l0 3) (numV (h1L l0) 3) (numV (h2L l0) 3) X)) ∧ Y.length + m ≤ 255 ∧ X.length ≤ 255 ∧ FitB X ∧ ∀ y ∈ Y, FitN y.n
abbrev fr1 (v0 : Value) (D r S m : Nat) (u : Nat → Value) : Act := ⟨#[v0, u 1, .pointer (some ⟨D, 0, none⟩), .int .i64 0, .pointer (some ⟨r, 0, none⟩), .pointer (some ⟨S, 0, none⟩), .int .i64 (m : Nat), u 7, u 8, u 9, u 10, u 11, u 12, u 13, u 14, u 15, u 16, u 17, u 18, u 19, u 20, u 21, u 22, u 23, u 24, u 25, u 26, u 27, u 28, u 29, u 30, u 31, u 32, u 33, u 34, u 35, u 36, u 37, u 38, u 39, u 40, u 41, u 42, u 43, u 44, u 45, u 46, u 47, u 48, u 49, u 50, u 51, u 52, u 53, u 54, u 55, u 56, u 57, u 58, u 59, u 60, u 61, u 62, u 63, u 64, u 65, u 66, u 67, u 68, u 69, u 70, u 71, u 72, u 73, u 74, u 75, u 76, u 77, u 78, u 79, u 80, u 81, u 82, u 83, u 84, u 85, u 86, u 87, u 88, u 89, u 90, u 91, u 92, u 93, u 94, u 95, u 96, u 97, u 98, u 99, u 100, u 101, u 102, u 103, u 104, u 105, u 106, u 107, u 108, u 109, u 110, u 111, u 112, u 113, u 114, u 115, u 116, u 117, u 118, u 119, u 120, u 121, u 122, u 123, u 124, u 125, u 126, u 127, u 128, u 129, u 130, u 131, u 132, u 133, u 134, u 135, u 136, u 137], []⟩
abbrev fr2 (v0 : Value) (D r S m : Nat) (u : Nat → Value) : Act := ⟨#[v0, u 1, .pointer (some ⟨D, 0, none⟩), .int .i64 0, .pointer (some ⟨r, 0, none⟩), .pointer (some ⟨S, 0, none⟩), u 6, .int .i64 (m : Nat), u 8, u 9, u 10, u 11, u 12, u 13, u 14, u 15, u 16, u 17, u 18, u 19, u 20, u 21, u 22, u 23, u 24, u 25, u 26, u 27, u 28, u 29, u 30, u 31, u 32, u 33, u 34, u 35, u 36, u 37, u 38, u 39, u 40, u 41, u 42, u 43, u 44, u 45, u 46, u 47, u 48, u 49, u 50, u 51, u 52, u 53, u 54, u 55, u 56, u 57, u 58, u 59, u 60, u 61, u 62, u 63, u 64, u 65, u 66, u 67, u 68, u 69, u 70, u 71, u 72, u 73, u 74, u 75, u 76, u 77, u 78, u 79, u 80, u 81, u 82, u 83, u 84, u 85, u 86, u 87, u 88, u 89, u 90, u 91, u 92, u 93, u 94, u 95, u 96, u 97, u 98, u 99, u 100, u 101, u 102, u 103, u 104, u 105, u 106, u 107, u 108, u 109, u 110, u 111, u 112, u 113, u 114, u 115, u 116, u 117, u 118, u 119, u 120, u 121, u 122, u 123, u 124, u 125, u 126, u 127, u 128, u 129, u 130, u 131, u 132, u 133, u 134, u 135, u 136, u 137], []⟩
def I1 (v0 : Value) (l0 : List UInt8) (w0 : World) (m : Nat) (a : Act) (w : World) : Prop := ∃ (D r S : Nat) (u : Nat → Value), a = fr1 v0 D r S m u ∧ P1 l0 w0 D r S m w
def I2 (v0 : Value) (l0 : List UInt8) (w0 : World) (m : Nat) (a : Act) (w : World) : Prop := ∃ (D r S : Nat) (u : Nat → Value), a = fr2 v0 D r S m u ∧ P2 l0 w0 D r S m w
theorem I1.of {v0 : Value} {l0 : List UInt8} {w0 : World} {m : Nat} {a : Act} {w : World} (D r S : Nat) (h : a = fr1 v0 D r S m (fun i => a.tmps.getD i undef)) (p : P1 l0 w0 D r S m w) : I1 v0 l0 w0 m a w := ⟨D, r, S, _, h, p⟩
theorem I2.of {v0 : Value} {l0 : List UInt8} {w0 : World} {m : Nat} {a : Act} {w : World} (D r S : Nat) (h : a = fr2 v0 D r S m (fun i => a.tmps.getD i undef)) (p : P2 l0 w0 D r S m w) : I2 v0 l0 w0 m a w := ⟨D, r, S, _, h, p⟩
/-- What coding.Read answers. -/
def RetRead (l0 : List UInt8) (w0 : World) (e : Ending) (w' : World) : Prop :=
  Grow w0 w' ∧ match readR l0 with
  | some s => ∃ bv nv Y, e = .returned (.tuple #[shelfV s bv nv, .int .i64 0]) ∧ OwnS w0.heap.size bv nv s.books Y w' ∧ Y.map NV.n = s.notes
  | none => e = .returned (.tuple #[.agg #[.int .i64 0, .int .i64 0, .int .i64 0, .slice none 0 0, .slice none 0 0], .int .i64 5])
theorem ret_wrong {l0 : List UInt8} {w0 w' : World} (h : readR l0 = none) (g : Grow w0 w') : RetRead l0 w0 (.returned (.tuple #[.agg #[.int .i64 0, .int .i64 0, .int .i64 0, .slice none 0 0, .slice none 0 0], .int .i64 5])) w' := by
  refine ⟨g, ?_⟩
  rw [h]
end Go.Proofs.YtbdbmigkcpgmkaaDoor
