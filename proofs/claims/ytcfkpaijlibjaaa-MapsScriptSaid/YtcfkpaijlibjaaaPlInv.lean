/- A key of a map[api.Place] is a place. -/
import Derived.Test.YtcfkpaijlibjaaaPMap
set_option linter.unusedVariables false
set_option linter.unusedSimpArgs false
namespace Go.Proofs.Ytcfkpaijlibjaaa
open Go.RowKit Go.Lib Go.Maps
set_option maxRecDepth 100000 in
theorem int_lits {n : Nat} {cs : List Value} {ls : List Lit} (h : Try.prog.keyLits (n + 1) 3 cs = some ls) : ∃ y : Int, cs = [.int .i64 y] ∧ ls = [.int .i64 y] ∧ Wf y := by
  unfold Program.keyLits at h
  rw [Try.underlying3] at h
  match cs, h with
  | [.int q y], h =>
    simp only at h
    split at h
    · rename_i hq
      obtain ⟨rfl, hw⟩ := hq
      exact ⟨y, rfl, (Option.some.inj h).symm, by have := hw; simp [Lit.wf] at this; exact this⟩
    · cases h
set_option maxRecDepth 100000 in
theorem plKey_inv {v : Value} {kl : Lit} (h : keyOf Try.prog 28 v = some kl) : ∃ x : Pl, v = plV x ∧ WfP x ∧ kl = plL x := by
  have h0 := h
  have hk : Try.prog.keyType 28 = true := by kernel_rfl
  obtain ⟨m, hm⟩ : ∃ m, Try.prog.types.size + 1 = m + 2 := ⟨Try.prog.types.size - 1, by have : 1 ≤ Try.prog.types.size := of_decide_eq_true (by kernel_rfl); omega⟩
  unfold keyOf at h
  rw [Try.underlying28] at h
  simp only [hk, Bool.true_and] at h
  split at h
  · rename_i hf
    rw [hm] at h
    match v, hf, h with
    | .agg xs, hf, h =>
      have hs : xs.size = 2 := by simpa [Value.formed, Try.underlying28, cPlP] using hf
      obtain ⟨l⟩ := xs
      match l, hs with
      | [u0, u1], _ =>
        obtain ⟨ls, h1, h2⟩ := Option.map_eq_some_iff.1 h
        have h1' : Try.prog.keyLits (m + 2) 28 [u0, u1] = some ls := h1
        unfold Program.keyLits at h1'
        rw [Try.underlying28] at h1'
        simp [cInP, cPlP] at h1'
        obtain ⟨l0, e0, h3⟩ := Option.bind_eq_some_iff.1 h1'
        obtain ⟨y0, f0, -, w0⟩ := int_lits e0
        simp [Option.bind_eq_some_iff] at h3
        obtain ⟨_, ⟨l1, e1, _⟩, _⟩ := h3
        obtain ⟨y1, f1, -, w1⟩ := int_lits e1
        injection f0 with f0 _
        injection f1 with f1 _
        subst f0 f1
        have hp := plKey ⟨y0, y1⟩ ⟨w0, w1⟩
        exact ⟨⟨y0, y1⟩, rfl, ⟨w0, w1⟩, Option.some.inj (h0.symm.trans hp)⟩
  · cases h
end Go.Proofs.Ytcfkpaijlibjaaa
