/- append of numbers, texts, books, notes. -/
import Derived.Test.YtnajccljdjllgaaDoorProg
import Derived.Test.YtnajccljdjllgaaDoorRow
import Derived.Test.YtnajccljdjllgaaDoorBase
import Derived.Test.YtnajccljdjllgaaDoorAppg
set_option linter.unusedVariables false
set_option linter.unusedSimpArgs false
namespace Go.Proofs.YtnajccljdjllgaaDoor
open Go.RowKit Go.Lib
theorem one_int : ∀ (w : World) (a : Int) (cs : List Value), IntR w a cs → ∀ u ∈ cs, u.oneCell' = true := by
  intro w a cs h u hu; unfold IntR at h; subst h; simp at hu; subst hu; rfl
theorem one_text : ∀ (w : World) (a : ByteArray) (cs : List Value), TextR w a cs → ∀ u ∈ cs, u.oneCell' = true := by
  intro w a cs h u hu; unfold TextR at h; subst h; simp at hu; subst hu; rfl
theorem one_book : ∀ (w : World) (a : Book) (cs : List Value), BookR w a cs → ∀ u ∈ cs, u.oneCell' = true := by
  intro w a cs h u hu; unfold BookR at h; subst h; simp at hu; rcases hu with rfl | rfl <;> rfl
theorem one_byte : ∀ (w : World) (a : UInt8) (cs : List Value), ByteR w a cs → ∀ u ∈ cs, u.oneCell' = true := by
  intro w a cs h u hu; unfold ByteR at h; subst h; simp at hu; subst hu; rfl
theorem one_note : ∀ (w : World) (a : Note) (cs : List Value), NoteR w a cs → ∀ u ∈ cs, u.oneCell' = true := by
  rintro w a cs ⟨tv, sv, rfl, h1, h2⟩ u hu
  obtain ⟨_, _, rfl⟩ := h1.mk
  obtain ⟨_, _, rfl⟩ := h2.mk
  simp at hu
  rcases hu with rfl | rfl | rfl | rfl | rfl <;> rfl
theorem info_int : (Tryd.prog.info? 3).map (fun i => (i.zero, i.size, i.bytes)) = some (some (.int .i64 0), 1, 8) := by kernel_rfl
theorem info_text : (Tryd.prog.info? 9).map (fun i => (i.zero, i.size, i.bytes)) = some (some (.string ⟨#[]⟩), 1, 16) := by kernel_rfl
theorem info_book : (Tryd.prog.info? 37).map (fun i => (i.zero, i.size, i.bytes)) = some (some (.agg #[.int .i64 0, .string ⟨#[]⟩]), 2, 24) := by kernel_rfl
theorem info_note : (Tryd.prog.info? 41).map (fun i => (i.zero, i.size, i.bytes)) = some (some (.agg #[.int .i64 0, .int .i64 0, .string ⟨#[]⟩, .slice none 0 0, .slice none 0 0]), 5, 80) := by kernel_rfl
end Go.Proofs.YtnajccljdjllgaaDoor
