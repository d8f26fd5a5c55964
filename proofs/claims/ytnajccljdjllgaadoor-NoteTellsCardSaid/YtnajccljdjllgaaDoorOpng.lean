/- An argument's cells, read: slices of whatever reads. -/
import Derived.Test.YtnajccljdjllgaaDoorBase
import Derived.ProofKit
import Derived.ChangeArms
import Derived.ChangeShapes
import Derived.WideShapes
set_option linter.unusedVariables false
set_option linter.unusedSimpArgs false
namespace Go.Proofs.YtnajccljdjllgaaDoor
open Go.RowKit Go.Lib
instance : Inhabited ByteArray := ⟨⟨#[]⟩⟩
section
variable {H : Type} {enc : TypeId × Value → H} {P : Program} {w : World} {spare : Nat → Bool} {held : Bool}
theorem cells_get {a : Addr} {n : Nat} {cs : List Value} (h : w.cells? 0 a n = some cs) : cs.length = n ∧ ∀ (j : Nat) v, cs[j]? = some v → w.cell? (a.add j) = some v := by
  unfold World.cells? at h
  rw [if_pos (Nat.zero_le _)] at h
  have hl : cs.length = n := by simpa using mapM_some_length h
  refine ⟨hl, fun j v hv => ?_⟩
  obtain ⟨hj, _⟩ := List.getElem?_eq_some_iff.1 hv
  have := mapM_some_get h j j (by rw [List.getElem?_range (by omega)])
  rw [this, hv]
theorem slice_reads {α : Type} [Inhabited α] {R : World → α → List Value → Prop} {t e : TypeId} {k : Nat} (ht : P.underlying t = some (.slice e)) (hk : P.cellsOf e = k) (hk0 : 0 < k)
    (hE : ∀ n cs y, DataW.trod enc P w 0 spare held n e cs = some y → ∃ x : α, R w x cs) {fuel : Nat} {cs : List Value} {x : DataW H × List MemPlace} (h : DataW.trod enc P w 0 spare held fuel t cs = some x) :
    ∃ v l, cs = [v] ∧ Reads R k w v l ∧ l.length ≤ maxLen ∧ ∀ x ∈ l, ∃ cs', R w x cs' := by
  rcases DataW.trod_slice ht h with ⟨rfl, _⟩ | ⟨a, len, cap, elems, rest, n, _, rfl, -, -, hl, hm, hlen, hel, -⟩
  · exact ⟨_, [], rfl, Reads.nil, Nat.zero_le _, fun x hx => by cases hx⟩
  have hx : ∀ i, ∃ x : α, i < len → ∃ cs', w.cells? 0 (a.add (i * k)) k = some cs' ∧ R w x cs' := fun i => by
    by_cases hi : i < len
    · have h1 := hel i hi
      rw [hk, List.getElem?_eq_getElem (by omega)] at h1
      obtain ⟨cs', h2, h3⟩ := Option.bind_eq_some_iff.1 h1
      obtain ⟨x, hr⟩ := hE n cs' _ h3
      exact ⟨x, fun _ => ⟨cs', h2, hr⟩⟩
    · exact ⟨default, fun h => absurd h hi⟩
  obtain ⟨X, hX⟩ := Classical.axiomOfChoice hx
  refine ⟨_, (List.range len).map X, rfl, ⟨some a, cap, by simp, by simpa using hl, fun hp => ?_⟩, by simp; omega, fun x hx => ?_⟩
  rotate_left
  · obtain ⟨i, hi, rfl⟩ := List.mem_map.1 hx
    obtain ⟨cs', -, h2⟩ := hX i (List.mem_range.1 hi)
    exact ⟨cs', h2⟩
  have hp' : 0 < len := by simpa using hp
  obtain ⟨cs0, h0, -⟩ := hX 0 hp'
  obtain ⟨hl0, hc0⟩ := cells_get h0
  obtain ⟨v0, hv0⟩ : ∃ v, cs0[0]? = some v := ⟨_, List.getElem?_eq_getElem (by omega)⟩
  have g0 := hc0 0 v0 hv0
  have e0 : (a.add (0 * k)).add 0 = a := by simp [Addr.add]
  rw [e0] at g0
  have hsp := World.cell?_spot g0
  obtain ⟨b, off, spot⟩ := a
  simp only at hsp
  subst hsp
  refine ⟨b, off, rfl, World.block_lt_of_cell? w _ g0, fun i hi => ?_⟩
  have hi' : i < len := by simpa using hi
  obtain ⟨cs', h1, h2⟩ := hX i hi'
  obtain ⟨h3, h4⟩ := cells_get h1
  refine ⟨cs', h3, fun x hx => ?_, fun j v hj => ?_⟩
  · rw [List.getElem?_map, List.getElem?_range hi'] at hx
    injection hx with hx
    rw [← hx]; exact h2
  · have := h4 j v hj
    have e : ((⟨b, off, none⟩ : Addr).add (i * k)).add j = ⟨b, off + i * k + j, none⟩ := by
      unfold Addr.add; split <;> split <;> simp_all
    rwa [e] at this
theorem Reads.imp {α : Type} {R R' : World → α → List Value → Prop} {k : Nat} {v : Value} {l : List α} (hR : ∀ x cs, R w x cs → R' w x cs) (h : Reads R k w v l) : Reads R' k w v l := by
  obtain ⟨a, c, e, hc, h⟩ := h
  exact ⟨a, c, e, hc, h.imp fun i hi cs hr x hx => hR x cs (hr x hx)⟩
end
set_option maxRecDepth 100000 in
theorem wf_inv {n : Int} (h : (Lit.int .i64 n).wf = true) : Wf n := by
  unfold Lit.wf at h
  have e1 : IntKind.i64.min = -9223372036854775808 := rfl
  simp at h
  rw [e1] at h
  exact h
/-- A slice that is an argument. -/
theorem slice_arg {α : Type} [Inhabited α] {H : Type} {enc : TypeId × Value → H} {P : Program} {w : World} {spare : Nat → Bool} {held : Bool} {R : World → α → List Value → Prop} {t e : TypeId} {k : Nat} (ht : P.underlying t = some (.slice e)) (hk : P.cellsOf e = k) (hk0 : 0 < k)
    (hE : ∀ n cs y, DataW.trod enc P w 0 spare held n e cs = some y → ∃ x : α, R w x cs) {v : Value} {d : DataW H} {ps : List MemPlace} {r : Reach} {b0 : Nat} (hv : Value.okWide P w r b0 t v) (h : DataW.Trod enc P w 0 spare held t v d ps) :
    ∃ l, Reads R k w v l ∧ l.length ≤ maxLen ∧ ∀ x ∈ l, ∃ cs', R w x cs' := by
  obtain ⟨a, len, cap, rfl⟩ := Go.WideShapes.okWide_slice ht hv
  obtain ⟨fuel, hf⟩ := h
  obtain ⟨v, l, e, h1, h2, h3⟩ := slice_reads ht hk hk0 hE hf
  have e' : [Value.slice a len cap] = [v] := e
  injection e' with e'
  subst e'
  exact ⟨l, h1, h2, h3⟩
end Go.Proofs.YtnajccljdjllgaaDoor
