/- The two maps of chapter 13: pages to places, places to pages. -/
import Derived.Test.YtcfkpaijlibjaaaGMap
set_option linter.unusedVariables false
set_option linter.unusedSimpArgs false
namespace Go.Proofs.Ytcfkpaijlibjaaa
open Go.RowKit Go.Lib Go.Maps
structure Pl where
  b : Int
  p : Int
  deriving DecidableEq
abbrev plV (x : Pl) : Value := .agg #[.int .i64 x.b, .int .i64 x.p]
def plD (x : Pl) : DataW Unit := .agg [.lit (.int .i64 x.b), .lit (.int .i64 x.p)]
def WfP (x : Pl) : Prop := Wf x.b ∧ Wf x.p
theorem plD_inj {x y : Pl} (h : plD x = plD y) : x = y := by unfold plD at h; cases x; cases y; simpa using h
theorem plV_inj {x y : Pl} (h : plV x = plV y) : x = y := by cases x; cases y; simpa [plV] using h
open Classical in
/-- A reader of elements out of an encoding that loses nothing. -/
noncomputable def elemE {V : Type} (vv : V → Value) (vd : V → DataW Unit) (v : Value) : Option (DataW Unit × List MemPlace) := if h : ∃ x, v = vv x then some (vd h.choose, []) else none
theorem elemE_mk {V : Type} {vv : V → Value} {vd : V → DataW Unit} (hv : ∀ x y, vv x = vv y → x = y) (x : V) : elemE vv vd (vv x) = some (vd x, []) := by
  unfold elemE
  have h : ∃ y, vv x = vv y := ⟨x, rfl⟩
  rw [dif_pos h]
  have := hv _ _ h.choose_spec
  rw [← this]
theorem elemE_inv {V : Type} {vv : V → Value} {vd : V → DataW Unit} {v : Value} {d : DataW Unit} {ps : List MemPlace} (h : elemE vv vd v = some (d, ps)) : ∃ x, v = vv x ∧ d = vd x := by
  unfold elemE at h
  split at h
  · rename_i hx
    refine ⟨hx.choose, hx.choose_spec, ?_⟩
    injection h with h
    injection h with h1 h2
    exact h1.symm
  · cases h
abbrev inV (x : Int) : Value := .int .i64 x
abbrev inD (x : Int) : DataW Unit := .lit (.int .i64 x)
abbrev inL (x : Int) : Lit := .int .i64 x
def plL (x : Pl) : Lit := .string (keyBytes [.int .i64 x.b, .int .i64 x.p])
theorem laidOutP : laidOutB Try.prog = true := by kernel_rfl
theorem cInP : Try.prog.cellsOf 3 = 1 := by kernel_rfl
theorem cPlP : Try.prog.cellsOf 28 = 2 := by kernel_rfl
theorem atKV : KV 3 28 73 Wf inV inL plV plD (elemE plV plD) ⟨0, 0⟩ where
  keyed := int_keyed Try.underlying3
  und := Try.underlying73
  zero := fun w => by kernel_rfl
  key := fun x hx => keyOf_int_mk Try.underlying3 hx.lit
  inj := fun x y _ _ h => by injection h
  mkE := elemE_mk (fun _ _ h => plV_inj h)
  inv := fun _ _ _ h => elemE_inv h
  vinj := fun _ _ h => plD_inj h
theorem plKeyed : Keyed Try.prog 28 := Keyed.of_law (deep_law_laid laidOutP (m := 2) (by omega) (of_decide_eq_true (by kernel_rfl)) (by kernel_rfl) (by kernel_rfl))
theorem plLits (n : Nat) (x : Pl) (hx : WfP x) : Try.prog.keyLits (n + 2) 28 [.int .i64 x.b, .int .i64 x.p] = some [.int .i64 x.b, .int .i64 x.p] := by
  have h1 : (Lit.int .i64 x.b).wf = true := hx.1.lit
  have h2 : (Lit.int .i64 x.p).wf = true := hx.2.lit
  have k1 : ∀ y : Int, (Lit.int .i64 y).wf = true → Try.prog.keyLits (n + 1) 3 [.int .i64 y] = some [.int .i64 y] := fun y hy => by
    unfold Program.keyLits
    rw [Try.underlying3]
    simp [hy]
  unfold Program.keyLits
  rw [Try.underlying28]
  simp [cInP, cPlP, k1 _ h1, k1 _ h2]
theorem plKey (x : Pl) (hx : WfP x) : keyOf Try.prog 28 (plV x) = some (plL x) := by
  have hk : Try.prog.keyType 28 = true := by kernel_rfl
  have hf : (plV x).formed Try.prog 28 = true := by simp [Value.formed, Try.underlying28, cPlP]
  obtain ⟨m, hm⟩ : ∃ m, Try.prog.types.size + 1 = m + 2 := ⟨Try.prog.types.size - 1, by have : 1 ≤ Try.prog.types.size := of_decide_eq_true (by kernel_rfl); omega⟩
  unfold keyOf
  rw [Try.underlying28]
  simp only [hk, hf, Bool.and_self, if_true]
  rw [hm, show (plV x).cells.toList = [.int .i64 x.b, .int .i64 x.p] from rfl, plLits m x hx]
  rfl
theorem whoKV : KV 28 3 74 WfP plV plL inV inD (elemE inV inD) 0 where
  keyed := plKeyed
  und := Try.underlying74
  zero := fun w => by kernel_rfl
  key := plKey
  inj := fun x y hx hy h => by
    have h1 := plKey x hx
    rw [h] at h1
    exact plV_inj (plKeyed.inj h1 (plKey y hy))
  mkE := elemE_mk (fun _ _ h => by injection h)
  inv := fun _ _ _ h => elemE_inv h
  vinj := fun _ _ h => by injection h with h; injection h
abbrev AtMap := GMap (K := Int) (V := Pl) 3 Wf inL plD (elemE plV plD) ⟨0, 0⟩
abbrev WhoMap := GMap (K := Pl) (V := Int) 28 WfP plL inD (elemE inV inD) 0
end Go.Proofs.Ytcfkpaijlibjaaa
