/- Arguments that are bytes. -/
import Derived.Test.YtbdbmigkcpgmkaaDoorProg
import Derived.Test.YtbdbmigkcpgmkaaDoorOpng
import Derived.Test.YtbdbmigkcpgmkaaDoorData
import Derived.Test.YtbdbmigkcpgmkaaDoorBase
import Derived.ProofKit
set_option linter.unusedVariables false
set_option linter.unusedSimpArgs false
namespace Go.Proofs.YtbdbmigkcpgmkaaDoor
open Go.RowKit Go.Lib
section
variable {H : Type} {enc : TypeId × Value → H} {w : World} {spare : Nat → Bool} {held : Bool}
theorem cU8 : Tryd.prog.cellsOf 5 = 1 := by kernel_rfl
theorem u8_inv {x : Int} (h : (Lit.int .u8 x).wf = true) : 0 ≤ x ∧ x < 256 := by
  unfold Lit.wf at h
  have e1 : IntKind.u8.min = 0 := rfl
  have e2 : IntKind.u8.max = 255 := rfl
  simp at h
  rw [e1, e2] at h
  omega
set_option maxRecDepth 100000 in
theorem bytes_arg {v : Value} {d : DataW H} {ps : List MemPlace} {r : Reach} {b0 : Nat} (hv : Value.okWide Tryd.prog w r b0 38 v) (h : DataW.Trod enc Tryd.prog w 0 spare held 38 v d ps) :
    ∃ l, Bytes w v l ∧ l.length ≤ maxLen ∧ ∀ x ∈ l, True := by
  obtain ⟨l, h1, h2, -⟩ := slice_arg (R := ByteR) Tryd.underlying38 cU8 (by decide) (fun n cs y hy => by
    obtain ⟨s, rfl, -, hw⟩ := DataW.trod_int Tryd.underlying5 hy
    have hb := u8_inv hw
    refine ⟨UInt8.ofNat s.toNat, ?_⟩
    unfold ByteR
    rw [UInt8.toNat_ofNat', show ((s.toNat % 2 ^ 8 : Nat) : Int) = s by omega]) hv h
  exact ⟨l, h1, h2, fun _ _ => trivial⟩
end
end Go.Proofs.YtbdbmigkcpgmkaaDoor
