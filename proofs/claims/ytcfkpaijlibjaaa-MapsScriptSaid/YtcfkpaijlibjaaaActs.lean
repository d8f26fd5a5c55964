/- Acts on a map, and a geometry, as arguments. -/
import Derived.Test.YtcfkpaijlibjaaaOpnF
import Derived.Test.YtcfkpaijlibjaaaGeom
set_option linter.unusedVariables false
set_option linter.unusedSimpArgs false
namespace Go.Proofs.Ytcfkpaijlibjaaa
open Go.RowKit Go.Lib
structure ActM where
  d : Int
  x : Int
  b : Int
  p : Int
instance : Inhabited ActM := ⟨⟨0, 0, 0, 0⟩⟩
abbrev cellsAct (y : ActM) : List Value := [.int .i64 y.d, .int .i64 y.x, .int .i64 y.b, .int .i64 y.p]
def ActR (_ : World) (y : ActM) (cs : List Value) : Prop := cs = cellsAct y
def WfA (y : ActM) : Prop := Wf y.d ∧ Wf y.x ∧ Wf y.b ∧ Wf y.p
abbrev Acts := Reads ActR 4
theorem Acts.grow {w W : World} {v : Value} {l : List ActM} (h : Acts w v l) (g : Grow w W) : Acts W v l := Reads.grow (w := w) (W := W) (fun _ _ h => h) h g
theorem Acts.at {w : World} {a : Option Addr} {n c : Nat} {l : List ActM} (h : Acts w (.slice a n c) l) {i : Nat} {y : ActM} (hx : l[i]? = some y) :
    ∃ b off, a = some ⟨b, off, none⟩ ∧ b < w.heap.size ∧ w.cell? ⟨b, off + i * 4, none⟩ = some (.int .i64 y.d) ∧ w.cell? ⟨b, off + i * 4 + 1, none⟩ = some (.int .i64 y.x) ∧ w.cell? ⟨b, off + i * 4 + 2, none⟩ = some (.int .i64 y.b) ∧ w.cell? ⟨b, off + i * 4 + 3, none⟩ = some (.int .i64 y.p) := by
  obtain ⟨b, off, e, hb, cs, h1, h2, h3⟩ := Reads.at h hx
  unfold ActR at h2
  subst h2
  exact ⟨b, off, e, hb, h3 0 _ rfl, h3 1 _ rfl, h3 2 _ rfl, h3 3 _ rfl⟩
section
variable {H : Type} {enc : TypeId × Value → H} {w : World} {spare : Nat → Bool} {held : Bool}
theorem cAc : Try.prog.cellsOf 48 = 4 := by kernel_rfl
theorem cGe : Try.prog.cellsOf 43 = 5 := by kernel_rfl
def ActG (w : World) (y : ActM) (cs : List Value) : Prop := ActR w y cs ∧ WfA y
set_option maxRecDepth 100000 in
theorem act_read {fuel : Nat} {cs : List Value} {x : DataW H × List MemPlace} (h : DataW.trod enc Try.prog w 0 spare held fuel 48 cs = some x) : ∃ b : ActM, ActG w b cs := by
  obtain ⟨xs, m, -, -, hl, hlen, hf⟩ := DataW.trod_struct Try.underlying48 h
  rw [cAc] at hl
  match cs, hl with
  | [u0, u1, u2, u3], _ =>
    have h0 := hf 0 _ rfl
    have h1 := hf 1 _ rfl
    have h2 := hf 2 _ rfl
    change DataW.trod enc Try.prog w 0 spare held m 3 (([u0, u1, u2, u3].drop 0).take (Try.prog.cellsOf 3)) = _ at h0
    change DataW.trod enc Try.prog w 0 spare held m 3 (([u0, u1, u2, u3].drop 1).take (Try.prog.cellsOf 3)) = _ at h1
    change DataW.trod enc Try.prog w 0 spare held m 28 (([u0, u1, u2, u3].drop 2).take (Try.prog.cellsOf 28)) = _ at h2
    rw [cIn, List.getElem?_eq_getElem (by rw [hlen]; decide)] at h0 h1
    rw [cPl, List.getElem?_eq_getElem (by rw [hlen]; decide)] at h2
    obtain ⟨n0, e0, -, w0⟩ := DataW.trod_int Try.underlying3 h0
    obtain ⟨n1, e1, -, w1⟩ := DataW.trod_int Try.underlying3 h1
    obtain ⟨a, b, e2, wa, wb⟩ := place_read h2
    have e0' : [u0] = [Value.int .i64 n0] := e0
    have e1' : [u1] = [Value.int .i64 n1] := e1
    have e2' : [u2, u3] = [Value.int .i64 a, Value.int .i64 b] := e2
    simp only [List.cons.injEq, and_true] at e0' e1' e2'
    obtain ⟨rfl, rfl⟩ := e2'
    subst e0' e1'
    exact ⟨⟨n0, n1, a, b⟩, rfl, wf_inv w0, wf_inv w1, wa, wb⟩
set_option maxRecDepth 100000 in
theorem acts_arg {v : Value} {d : DataW H} {ps : List MemPlace} {r : Reach} {b0 : Nat} (hv : Value.okWide Try.prog w r b0 44 v) (h : DataW.Trod enc Try.prog w 0 spare held 44 v d ps) :
    ∃ l, Acts w v l ∧ l.length ≤ maxLen ∧ ∀ x ∈ l, WfA x := by
  obtain ⟨l, h1, h2, h3⟩ := slice_arg (R := ActG) Try.underlying44 cAc (by decide) (fun _ _ _ hy => act_read hy) hv h
  exact ⟨l, h1.imp (fun _ _ h => h.1), h2, fun x hx => by obtain ⟨_, _, h⟩ := h3 x hx; exact h⟩
def WfGeo (g : Geo) : Prop := Wf g.blocks ∧ Wf g.pages ∧ Wf g.bytes ∧ Wf g.spares ∧ Wf g.trigger
set_option maxRecDepth 100000 in
theorem geo_arg {v : Value} {d : DataW H} {ps : List MemPlace} {r : Reach} {b0 : Nat} (hv : Value.okWide Try.prog w r b0 43 v) (h : DataW.Trod enc Try.prog w 0 spare held 43 v d ps) :
    ∃ g : Geo, v = geoV g ∧ WfGeo g := by
  obtain ⟨cs, e, -⟩ := Go.WideShapes.okWide_struct Try.underlying43 hv
  subst e
  obtain ⟨fuel, hh⟩ := h
  obtain ⟨xs, m, -, -, hl, hlen, hf⟩ := DataW.trod_struct Try.underlying43 hh
  rw [cGe] at hl
  obtain ⟨cl⟩ := cs
  match cl, hl with
  | [u0, u1, u2, u3, u4], _ =>
    have h0 := hf 0 _ rfl
    have h1 := hf 1 _ rfl
    have h2 := hf 2 _ rfl
    have h3 := hf 3 _ rfl
    have h4 := hf 4 _ rfl
    change DataW.trod enc Try.prog w 0 spare held m 3 (([u0, u1, u2, u3, u4].drop 0).take (Try.prog.cellsOf 3)) = _ at h0
    change DataW.trod enc Try.prog w 0 spare held m 3 (([u0, u1, u2, u3, u4].drop 1).take (Try.prog.cellsOf 3)) = _ at h1
    change DataW.trod enc Try.prog w 0 spare held m 3 (([u0, u1, u2, u3, u4].drop 2).take (Try.prog.cellsOf 3)) = _ at h2
    change DataW.trod enc Try.prog w 0 spare held m 3 (([u0, u1, u2, u3, u4].drop 3).take (Try.prog.cellsOf 3)) = _ at h3
    change DataW.trod enc Try.prog w 0 spare held m 3 (([u0, u1, u2, u3, u4].drop 4).take (Try.prog.cellsOf 3)) = _ at h4
    rw [cIn, List.getElem?_eq_getElem (by rw [hlen]; decide)] at h0 h1 h2 h3 h4
    obtain ⟨n0, e0, -, w0⟩ := DataW.trod_int Try.underlying3 h0
    obtain ⟨n1, e1, -, w1⟩ := DataW.trod_int Try.underlying3 h1
    obtain ⟨n2, e2, -, w2⟩ := DataW.trod_int Try.underlying3 h2
    obtain ⟨n3, e3, -, w3⟩ := DataW.trod_int Try.underlying3 h3
    obtain ⟨n4, e4, -, w4⟩ := DataW.trod_int Try.underlying3 h4
    have e0' : [u0] = [Value.int .i64 n0] := e0
    have e1' : [u1] = [Value.int .i64 n1] := e1
    have e2' : [u2] = [Value.int .i64 n2] := e2
    have e3' : [u3] = [Value.int .i64 n3] := e3
    have e4' : [u4] = [Value.int .i64 n4] := e4
    simp only [List.cons.injEq, and_true] at e0' e1' e2' e3' e4'
    subst e0' e1' e2' e3' e4'
    exact ⟨⟨n0, n1, n2, n3, n4⟩, rfl, wf_inv w0, wf_inv w1, wf_inv w2, wf_inv w3, wf_inv w4⟩
end
end Go.Proofs.Ytcfkpaijlibjaaa
