/- Arguments that are pages or numbers. -/
import Derived.Test.YtcfkpaijlibjaaaOpng
import Derived.Test.YtcfkpaijlibjaaaFound
set_option linter.unusedVariables false
set_option linter.unusedSimpArgs false
namespace Go.Proofs.Ytcfkpaijlibjaaa
open Go.RowKit Go.Lib
section
variable {H : Type} {enc : TypeId × Value → H} {w : World} {spare : Nat → Bool} {held : Bool}
theorem cIn : Try.prog.cellsOf 3 = 1 := by kernel_rfl
theorem cPl : Try.prog.cellsOf 28 = 2 := by kernel_rfl
theorem cTg : Try.prog.cellsOf 26 = 4 := by kernel_rfl
theorem cFd : Try.prog.cellsOf 30 = 6 := by kernel_rfl
set_option maxRecDepth 100000 in
theorem place_read {fuel : Nat} {cs : List Value} {x : DataW H × List MemPlace} (h : DataW.trod enc Try.prog w 0 spare held fuel 28 cs = some x) : ∃ a b : Int, cs = [.int .i64 a, .int .i64 b] ∧ Wf a ∧ Wf b := by
  obtain ⟨xs, m, -, -, hl, hlen, hf⟩ := DataW.trod_struct Try.underlying28 h
  rw [cPl] at hl
  match cs, hl with
  | [u0, u1], _ =>
    have h0 := hf 0 _ rfl
    have h1 := hf 1 _ rfl
    change DataW.trod enc Try.prog w 0 spare held m 3 (([u0, u1].drop 0).take (Try.prog.cellsOf 3)) = _ at h0
    change DataW.trod enc Try.prog w 0 spare held m 3 (([u0, u1].drop 1).take (Try.prog.cellsOf 3)) = _ at h1
    rw [cIn, List.getElem?_eq_getElem (by rw [hlen]; decide)] at h0 h1
    obtain ⟨n0, e0, -, w0⟩ := DataW.trod_int Try.underlying3 h0
    obtain ⟨n1, e1, -, w1⟩ := DataW.trod_int Try.underlying3 h1
    have e0' : [u0] = [Value.int .i64 n0] := e0
    have e1' : [u1] = [Value.int .i64 n1] := e1
    injection e0' with e0'
    injection e1' with e1'
    subst e0' e1'
    exact ⟨n0, n1, rfl, wf_inv w0, wf_inv w1⟩
set_option maxRecDepth 100000 in
theorem tag_read {fuel : Nat} {cs : List Value} {x : DataW H × List MemPlace} (h : DataW.trod enc Try.prog w 0 spare held fuel 26 cs = some x) : ∃ a b c d : Int, cs = [.int .i64 a, .int .i64 b, .int .i64 c, .int .i64 d] ∧ Wf a ∧ Wf b ∧ Wf c ∧ Wf d := by
  obtain ⟨xs, m, -, -, hl, hlen, hf⟩ := DataW.trod_struct Try.underlying26 h
  rw [cTg] at hl
  match cs, hl with
  | [u0, u1, u2, u3], _ =>
    have h0 := hf 0 _ rfl
    have h1 := hf 1 _ rfl
    have h2 := hf 2 _ rfl
    have h3 := hf 3 _ rfl
    change DataW.trod enc Try.prog w 0 spare held m 3 (([u0, u1, u2, u3].drop 0).take (Try.prog.cellsOf 3)) = _ at h0
    change DataW.trod enc Try.prog w 0 spare held m 3 (([u0, u1, u2, u3].drop 1).take (Try.prog.cellsOf 3)) = _ at h1
    change DataW.trod enc Try.prog w 0 spare held m 3 (([u0, u1, u2, u3].drop 2).take (Try.prog.cellsOf 3)) = _ at h2
    change DataW.trod enc Try.prog w 0 spare held m 3 (([u0, u1, u2, u3].drop 3).take (Try.prog.cellsOf 3)) = _ at h3
    rw [cIn, List.getElem?_eq_getElem (by rw [hlen]; decide)] at h0 h1 h2 h3
    obtain ⟨n0, e0, -, w0⟩ := DataW.trod_int Try.underlying3 h0
    obtain ⟨n1, e1, -, w1⟩ := DataW.trod_int Try.underlying3 h1
    obtain ⟨n2, e2, -, w2⟩ := DataW.trod_int Try.underlying3 h2
    obtain ⟨n3, e3, -, w3⟩ := DataW.trod_int Try.underlying3 h3
    have e0' : [u0] = [Value.int .i64 n0] := e0
    have e1' : [u1] = [Value.int .i64 n1] := e1
    have e2' : [u2] = [Value.int .i64 n2] := e2
    have e3' : [u3] = [Value.int .i64 n3] := e3
    injection e0' with e0'
    injection e1' with e1'
    injection e2' with e2'
    injection e3' with e3'
    subst e0' e1' e2' e3'
    exact ⟨n0, n1, n2, n3, rfl, wf_inv w0, wf_inv w1, wf_inv w2, wf_inv w3⟩
def FoundG (w : World) (x : Found) (cs : List Value) : Prop := FoundR w x cs ∧ WfF x
set_option maxRecDepth 100000 in
theorem found_read {fuel : Nat} {cs : List Value} {x : DataW H × List MemPlace} (h : DataW.trod enc Try.prog w 0 spare held fuel 30 cs = some x) : ∃ b : Found, FoundG w b cs := by
  obtain ⟨xs, m, -, -, hl, hlen, hf⟩ := DataW.trod_struct Try.underlying30 h
  rw [cFd] at hl
  match cs, hl with
  | [u0, u1, u2, u3, u4, u5], _ =>
    have h0 := hf 0 _ rfl
    have h1 := hf 1 _ rfl
    change DataW.trod enc Try.prog w 0 spare held m 28 (([u0, u1, u2, u3, u4, u5].drop 0).take (Try.prog.cellsOf 28)) = _ at h0
    change DataW.trod enc Try.prog w 0 spare held m 26 (([u0, u1, u2, u3, u4, u5].drop 2).take (Try.prog.cellsOf 26)) = _ at h1
    rw [cPl, List.getElem?_eq_getElem (by rw [hlen]; decide)] at h0
    rw [cTg, List.getElem?_eq_getElem (by rw [hlen]; decide)] at h1
    obtain ⟨a, b, e0, wa, wb⟩ := place_read h0
    obtain ⟨c, d, e, f, e1, wc, wd, we, wf⟩ := tag_read h1
    have e0' : [u0, u1] = [Value.int .i64 a, Value.int .i64 b] := e0
    have e1' : [u2, u3, u4, u5] = [Value.int .i64 c, Value.int .i64 d, Value.int .i64 e, Value.int .i64 f] := e1
    simp only [List.cons.injEq, and_true] at e0' e1'
    obtain ⟨rfl, rfl⟩ := e0'
    obtain ⟨rfl, rfl, rfl, rfl⟩ := e1'
    exact ⟨⟨a, b, c, d, e, f⟩, rfl, wa, wb, wc, wd, we, wf⟩
set_option maxRecDepth 100000 in
theorem founds_arg {v : Value} {d : DataW H} {ps : List MemPlace} {r : Reach} {b0 : Nat} (hv : Value.okWide Try.prog w r b0 22 v) (h : DataW.Trod enc Try.prog w 0 spare held 22 v d ps) :
    ∃ l, Founds w v l ∧ l.length ≤ maxLen ∧ ∀ x ∈ l, WfF x := by
  obtain ⟨l, h1, h2, h3⟩ := slice_arg (R := FoundG) Try.underlying22 cFd (by decide) (fun _ _ _ hy => found_read hy) hv h
  exact ⟨l, h1.imp (fun _ _ h => h.1), h2, fun x hx => by obtain ⟨_, _, h⟩ := h3 x hx; exact h⟩
set_option maxRecDepth 100000 in
theorem ints_arg {v : Value} {d : DataW H} {ps : List MemPlace} {r : Reach} {b0 : Nat} (hv : Value.okWide Try.prog w r b0 36 v) (h : DataW.Trod enc Try.prog w 0 spare held 36 v d ps) :
    ∃ l, Ints w v l ∧ l.length ≤ maxLen ∧ ∀ x ∈ l, Wf x := by
  obtain ⟨l, h1, h2, h3⟩ := slice_arg (R := fun w x cs => IntR w x cs ∧ Wf x) Try.underlying36 cIn (by decide) (fun n cs y hy => by
    obtain ⟨s, rfl, -, hw⟩ := DataW.trod_int Try.underlying3 hy
    exact ⟨s, rfl, wf_inv hw⟩) hv h
  exact ⟨l, h1.imp (fun _ _ h => h.1), h2, fun x hx => by obtain ⟨_, _, h⟩ := h3 x hx; exact h⟩
end
end Go.Proofs.Ytcfkpaijlibjaaa
