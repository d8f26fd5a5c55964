/- What RankTrims and RankCopies share: the greatest number. -/
import Derived.Test.YtcfkpaijlibjaaaRkNone
set_option linter.unusedVariables false
set_option linter.unusedSimpArgs false
namespace Go.Proofs.Ytcfkpaijlibjaaa
open Go.RowKit Go.Lib Go.Maps
def topQ (fs : List Found) : Int := fs.foldl (fun n f => max n f.seq) 0
theorem topQ_snoc (fs : List Found) (f : Found) : topQ (fs ++ [f]) = max (topQ fs) f.seq := by unfold topQ; rw [List.foldl_append]; rfl
def SeqOk (l : List Found) : Prop := ∀ f ∈ l, 0 ≤ f.seq ∧ f.seq ≤ 4294967295
theorem topQ_bd {l : List Found} (h : SeqOk l) : (0 ≤ topQ l ∧ topQ l ≤ 4294967295) ∧ ∀ f ∈ l, f.seq < topQ l + 1 := by
  revert h
  refine snoc_ind (P := fun l => SeqOk l → (0 ≤ topQ l ∧ topQ l ≤ 4294967295) ∧ ∀ f ∈ l, f.seq < topQ l + 1) ?_ ?_ l
  · intro _; exact ⟨⟨Int.le_refl _, by decide⟩, fun f hf => (by cases hf)⟩
  · intro l a ih h
    obtain ⟨h1, h2⟩ := ih (fun f hf => h f (List.mem_append_left _ hf))
    have h3 := h a (by simp)
    rw [topQ_snoc]
    refine ⟨by omega, fun f hf => ?_⟩
    rcases List.mem_append.1 hf with hf | hf
    · have := h2 f hf; omega
    · obtain rfl : f = a := by simpa using hf
      omega
theorem topQ_take {l : List Found} {j : Nat} {x : Found} (hx : l[j]? = some x) : topQ (l.take (j + 1)) = max (topQ (l.take j)) x.seq := by
  obtain ⟨hi, e⟩ := List.getElem?_eq_some_iff.1 hx
  rw [List.take_succ_eq_append_getElem hi, e, topQ_snoc]
theorem seqOk_take {l : List Found} {j : Nat} {x : Found} (hx : l[j]? = some x) (h : SeqOk (l.take j)) (h1 : 0 ≤ x.seq) (h2 : x.seq ≤ 4294967295) : SeqOk (l.take (j + 1)) := by
  obtain ⟨hi, e⟩ := List.getElem?_eq_some_iff.1 hx
  rw [List.take_succ_eq_append_getElem hi, e]
  intro f hf
  rcases List.mem_append.1 hf with hf | hf
  · exact h f hf
  · obtain rfl : f = x := by simpa using hf
    exact ⟨h1, h2⟩
theorem six_one (x : Found) : ∀ u ∈ cellsF x, u.oneCell' = true := by
  intro u hu; simp at hu; rcases hu with rfl | rfl | rfl | rfl | rfl | rfl <;> rfl
end Go.Proofs.Ytcfkpaijlibjaaa
