/- An argument's cells, read as a shelf. -/
import Derived.Test.YtnajccljdjllgaaDoorMay
import Derived.Test.YtnajccljdjllgaaDoorOpng
import Derived.ProofKit
import Derived.ChangeArms
import Derived.ChangeShapes
set_option linter.unusedVariables false
set_option linter.unusedSimpArgs false
namespace Go.Proofs.YtnajccljdjllgaaDoor
open Go.RowKit Go.Lib
section
variable {H : Type} {enc : TypeId × Value → H} {w : World} {spare : Nat → Bool} {held : Bool}
theorem cI : Tryd.prog.cellsOf 3 = 1 := by kernel_rfl
theorem cS : Tryd.prog.cellsOf 9 = 1 := by kernel_rfl
theorem cBs : Tryd.prog.cellsOf 25 = 1 := by kernel_rfl
theorem cNs : Tryd.prog.cellsOf 26 = 1 := by kernel_rfl
theorem cTs : Tryd.prog.cellsOf 38 = 1 := by kernel_rfl
theorem cIs : Tryd.prog.cellsOf 39 = 1 := by kernel_rfl
theorem cB : Tryd.prog.cellsOf 37 = 2 := by kernel_rfl
theorem cN : Tryd.prog.cellsOf 41 = 5 := by kernel_rfl
theorem cH : Tryd.prog.cellsOf 28 = 5 := by kernel_rfl
set_option maxRecDepth 100000 in
theorem texts_read {fuel : Nat} {cs : List Value} {x : DataW H × List MemPlace} (h : DataW.trod enc Tryd.prog w 0 spare held fuel 38 cs = some x) : ∃ v l, cs = [v] ∧ Texts w v l ∧ l.length ≤ maxLen := by
  obtain ⟨v, l, h1, h2, h3, -⟩ := slice_reads (R := TextR) Tryd.underlying38 cS (by decide) (fun n cs y hy => by
    obtain ⟨s, rfl, -, -⟩ := DataW.trod_string Tryd.underlying9 hy
    exact ⟨s, rfl⟩) h
  exact ⟨v, l, h1, h2, h3⟩
set_option maxRecDepth 100000 in
theorem ints_read {fuel : Nat} {cs : List Value} {x : DataW H × List MemPlace} (h : DataW.trod enc Tryd.prog w 0 spare held fuel 39 cs = some x) : ∃ v l, cs = [v] ∧ Ints w v l ∧ l.length ≤ maxLen ∧ ∀ y ∈ l, Wf y := by
  obtain ⟨v, l, h1, h2, h3, h4⟩ := slice_reads (R := fun w x cs => IntR w x cs ∧ Wf x) Tryd.underlying39 cI (by decide) (fun n cs y hy => by
    obtain ⟨s, rfl, -, hw⟩ := DataW.trod_int Tryd.underlying3 hy
    exact ⟨s, rfl, wf_inv hw⟩) h
  exact ⟨v, l, h1, h2.imp (fun x cs h => h.1), h3, fun y hy => by obtain ⟨_, _, h⟩ := h4 y hy; exact h⟩
set_option maxRecDepth 100000 in
theorem book_read {fuel : Nat} {cs : List Value} {x : DataW H × List MemPlace} (h : DataW.trod enc Tryd.prog w 0 spare held fuel 37 cs = some x) : ∃ b : Book, BookR w b cs := by
  obtain ⟨xs, m, -, -, hl, hlen, hf⟩ := DataW.trod_struct Tryd.underlying37 h
  rw [cB] at hl
  match cs, hl with
  | [u0, u1], _ =>
    have h0 := hf 0 _ rfl
    have h1 := hf 1 _ rfl
    change DataW.trod enc Tryd.prog w 0 spare held m 3 (([u0, u1].drop 0).take (Tryd.prog.cellsOf 3)) = _ at h0
    change DataW.trod enc Tryd.prog w 0 spare held m 9 (([u0, u1].drop 1).take (Tryd.prog.cellsOf 9)) = _ at h1
    rw [cI, List.getElem?_eq_getElem (by rw [hlen]; decide)] at h0
    rw [cS, List.getElem?_eq_getElem (by rw [hlen]; decide)] at h1
    obtain ⟨n, e0, -, -⟩ := DataW.trod_int Tryd.underlying3 h0
    obtain ⟨s, e1, -, -⟩ := DataW.trod_string Tryd.underlying9 h1
    refine ⟨⟨n, s⟩, ?_⟩
    have e0' : [u0] = [Value.int .i64 n] := e0
    have e1' : [u1] = [Value.string s] := e1
    unfold BookR
    injection e0' with e0'
    injection e1' with e1'
    rw [e0', e1']
def NoteG (w : World) (x : Note) (cs : List Value) : Prop := NoteR w x cs ∧ x.tags.length ≤ maxLen ∧ ∀ y ∈ x.sheets, Wf y
set_option maxRecDepth 100000 in
theorem note_read {fuel : Nat} {cs : List Value} {x : DataW H × List MemPlace} (h : DataW.trod enc Tryd.prog w 0 spare held fuel 41 cs = some x) : ∃ b : Note, NoteG w b cs := by
  obtain ⟨xs, m, -, -, hl, hlen, hf⟩ := DataW.trod_struct Tryd.underlying41 h
  rw [cN] at hl
  match cs, hl with
  | [u0, u1, u2, u3, u4], _ =>
    have h0 := hf 0 _ rfl
    have h1 := hf 1 _ rfl
    have h2 := hf 2 _ rfl
    have h3 := hf 3 _ rfl
    have h4 := hf 4 _ rfl
    change DataW.trod enc Tryd.prog w 0 spare held m 3 (([u0, u1, u2, u3, u4].drop 0).take (Tryd.prog.cellsOf 3)) = _ at h0
    change DataW.trod enc Tryd.prog w 0 spare held m 3 (([u0, u1, u2, u3, u4].drop 1).take (Tryd.prog.cellsOf 3)) = _ at h1
    change DataW.trod enc Tryd.prog w 0 spare held m 9 (([u0, u1, u2, u3, u4].drop 2).take (Tryd.prog.cellsOf 9)) = _ at h2
    change DataW.trod enc Tryd.prog w 0 spare held m 38 (([u0, u1, u2, u3, u4].drop 3).take (Tryd.prog.cellsOf 38)) = _ at h3
    change DataW.trod enc Tryd.prog w 0 spare held m 39 (([u0, u1, u2, u3, u4].drop 4).take (Tryd.prog.cellsOf 39)) = _ at h4
    rw [cI, List.getElem?_eq_getElem (by rw [hlen]; decide)] at h0 h1
    rw [cS, List.getElem?_eq_getElem (by rw [hlen]; decide)] at h2
    rw [cTs, List.getElem?_eq_getElem (by rw [hlen]; decide)] at h3
    rw [cIs, List.getElem?_eq_getElem (by rw [hlen]; decide)] at h4
    obtain ⟨n, e0, -, -⟩ := DataW.trod_int Tryd.underlying3 h0
    obtain ⟨k, e1, -, -⟩ := DataW.trod_int Tryd.underlying3 h1
    obtain ⟨s, e2, -, -⟩ := DataW.trod_string Tryd.underlying9 h2
    obtain ⟨tv, tl, e3, ht, htl⟩ := texts_read h3
    obtain ⟨sv, sl, e4, hs, hsl, hw⟩ := ints_read h4
    have e0' : [u0] = [Value.int .i64 n] := e0
    have e1' : [u1] = [Value.int .i64 k] := e1
    have e2' : [u2] = [Value.string s] := e2
    have e3' : [u3] = [tv] := e3
    have e4' : [u4] = [sv] := e4
    injection e0' with e0'
    injection e1' with e1'
    injection e2' with e2'
    injection e3' with e3'
    injection e4' with e4'
    subst e0' e1' e2' e3' e4'
    exact ⟨⟨n, k, s, tl, sl⟩, ⟨_, _, rfl, ht, hs⟩, htl, hw⟩
set_option maxRecDepth 100000 in
/-- What an argument that is a shelf gives. -/
theorem shelf_read {fuel : Nat} {v : Value} {x : DataW H × List MemPlace} (hv : ∃ cs, v = .agg cs) (h : DataW.trod enc Tryd.prog w 0 spare held fuel 28 v.cells.toList = some x) :
    ∃ (s : Shelf) (bv nv : Value), v = shelfV s bv nv ∧ ShelfR w s bv nv ∧ s.books.length ≤ maxLen ∧ s.notes.length ≤ maxLen ∧ (∀ n ∈ s.notes, n.tags.length ≤ maxLen) ∧ (∀ n ∈ s.notes, ∀ y ∈ n.sheets, Wf y) ∧ Wf s.nb ∧ Wf s.nn ∧ Wf s.ns := by
  obtain ⟨cs, rfl⟩ := hv
  obtain ⟨xs, m, -, -, hl, hlen, hf⟩ := DataW.trod_struct Tryd.underlying28 h
  rw [cH] at hl
  have hcs : (Value.agg cs).cells.toList = cs.toList := rfl
  rw [hcs] at hl hf
  obtain ⟨cs⟩ := cs
  match cs, hl with
  | [u0, u1, u2, u3, u4], _ =>
    have h0 := hf 0 _ rfl
    have h1 := hf 1 _ rfl
    have h2 := hf 2 _ rfl
    have h3 := hf 3 _ rfl
    have h4 := hf 4 _ rfl
    change DataW.trod enc Tryd.prog w 0 spare held m 3 (([u0, u1, u2, u3, u4].drop 0).take (Tryd.prog.cellsOf 3)) = _ at h0
    change DataW.trod enc Tryd.prog w 0 spare held m 3 (([u0, u1, u2, u3, u4].drop 1).take (Tryd.prog.cellsOf 3)) = _ at h1
    change DataW.trod enc Tryd.prog w 0 spare held m 3 (([u0, u1, u2, u3, u4].drop 2).take (Tryd.prog.cellsOf 3)) = _ at h2
    change DataW.trod enc Tryd.prog w 0 spare held m 25 (([u0, u1, u2, u3, u4].drop 3).take (Tryd.prog.cellsOf 25)) = _ at h3
    change DataW.trod enc Tryd.prog w 0 spare held m 26 (([u0, u1, u2, u3, u4].drop 4).take (Tryd.prog.cellsOf 26)) = _ at h4
    rw [cI, List.getElem?_eq_getElem (by rw [hlen]; decide)] at h0 h1 h2
    rw [cBs, List.getElem?_eq_getElem (by rw [hlen]; decide)] at h3
    rw [cNs, List.getElem?_eq_getElem (by rw [hlen]; decide)] at h4
    obtain ⟨n, e0, -, w0⟩ := DataW.trod_int Tryd.underlying3 h0
    obtain ⟨k, e1, -, w1⟩ := DataW.trod_int Tryd.underlying3 h1
    obtain ⟨q, e2, -, w2⟩ := DataW.trod_int Tryd.underlying3 h2
    obtain ⟨bv, bl, e3, hb, hbl, -⟩ := slice_reads (R := BookR) Tryd.underlying25 cB (by decide) (fun _ _ _ hy => book_read hy) h3
    obtain ⟨nv, nl, e4, hn, hnl, hng⟩ := slice_reads (R := NoteG) Tryd.underlying26 cN (by decide) (fun _ _ _ hy => note_read hy) h4
    have e0' : [u0] = [Value.int .i64 n] := e0
    have e1' : [u1] = [Value.int .i64 k] := e1
    have e2' : [u2] = [Value.int .i64 q] := e2
    have e3' : [u3] = [bv] := e3
    have e4' : [u4] = [nv] := e4
    injection e0' with e0'
    injection e1' with e1'
    injection e2' with e2'
    injection e3' with e3'
    injection e4' with e4'
    subst e0' e1' e2' e3' e4'
    exact ⟨⟨n, k, q, bl, nl⟩, _, _, rfl, ⟨hb, hn.imp (fun x cs h => h.1)⟩, hbl, hnl, fun x hx => by obtain ⟨_, _, h, _⟩ := hng x hx; exact h, fun x hx => by obtain ⟨_, _, _, h⟩ := hng x hx; exact h, wf_inv w0, wf_inv w1, wf_inv w2⟩
/-- A shelf that is an argument. -/
structure ShelfArg (w : World) (s : Shelf) (bv nv : Value) : Prop where
  rows : ShelfR w s bv nv
  ints : ∀ n ∈ s.notes, ∀ y ∈ n.sheets, Wf y
  tags : ∀ n ∈ s.notes, n.tags.length ≤ 9223372036854775807
  nums : Wf s.nb ∧ Wf s.nn ∧ Wf s.ns
set_option maxRecDepth 100000 in
theorem shelf_arg {v : Value} {d : DataW H} {ps : List MemPlace} {r : Reach} {b0 : Nat} (hv : Value.okWide Tryd.prog w r b0 28 v) (h : DataW.Trod enc Tryd.prog w 0 spare held 28 v d ps) :
    ∃ (s : Shelf) (bv nv : Value), v = shelfV s bv nv ∧ ShelfArg w s bv nv := by
  obtain ⟨cs, e, -⟩ := Go.WideShapes.okWide_struct Tryd.underlying28 hv
  obtain ⟨fuel, hf⟩ := h
  obtain ⟨s, bv, nv, h1, h2, -, -, h5, h6, h7, h8, h9⟩ := shelf_read ⟨cs, e⟩ hf
  exact ⟨s, bv, nv, h1, h2, h6, fun n hn => Nat.le_trans (h5 n hn) (by decide), h7, h8, h9⟩
end
end Go.Proofs.YtnajccljdjllgaaDoor
