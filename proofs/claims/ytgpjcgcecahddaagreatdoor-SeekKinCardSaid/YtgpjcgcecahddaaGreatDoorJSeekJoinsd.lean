/- slices.IndexFunc over notes; shelf.note. shelf.Find. The state of a shelf that is changed: its box, the result's cell, the rows; and what a change answers. The walk of jotterlaw0.GreatShelf. What the changes answer, told to a reader; that they are no greater than what comes in. The shelf of two notes, and what the awake of chapter 26 comes to, in plain words. Terms of a question, read from place to place: plain words. A scope with labels, gone through by so many jumps. A scope with two labels that are jumped back to, and labels ahead. A scope whose labels jump to each other, by one measure; and labels ahead. Lists of items: how they read, SameItems. slices.DeleteFunc at rows of the call's own: what is common to all element types. Rows of the call's own under the library's sorts and deletions: items, texts, numbers. Rows of texts: slices.Sort, Contains. The library's Split at a blank, Compact of rising texts, HasPrefix. -/
import Derived.Test.YtgpjcgcecahddaaGreatDoorJSeekJoinsb
import Derived.Test.YtgpjcgcecahddaaGreatDoorJSeekJoinsc
import Derived.Sort.Row
import Derived.Test.YtgpjcgcecahddaaGreatDoorJSeekJoinsa
import Derived.StillTailTactics
import Derived.Scope
import Derived.WalkKit
import Derived.WalkMore
import Derived.Laws.StructEq
import Derived.Deep.QuietTactic
import Derived.BigQuiet
import Derived.Lib.SliceRun
import Derived.Test.YtgpjcgcecahddaaGreatDoorShelf2
import Derived.Test.YtgpjcgcecahddaaGreatDoorShelf3
import Derived.Lib.SlicesCompact
set_option linter.unusedVariables false
set_option linter.unusedSimpArgs false
namespace Go.Proofs.YtgpjcgcecahddaaGreatDoor
open Go.RowKit Go.Lib
set_option maxRecDepth 100000 in
theorem indexNotes (v : Value) (l : List Note) (g : Nat) (lb : Array Value) (p : Note → Bool) (w : World) (h : Notes w v l) (hz : l.length ≤ 1000000000) (eg : ∀ args w, (callFunc g args).run Tryz.prog w = .ok (.enter g args) w)
    (hp : ∀ W x at' ct as' cs', Grow w W → x ∈ l → Calls Tryz.prog g (#[noteV x (.slice at' x.tags.length ct) (.slice as' x.sheets.length cs')] ++ lb) W fun e w' => e = .returned (.bool (p x)) ∧ Grow W w') :
    Calls Tryz.prog 89 #[v, .func (.func g) #[] lb] w fun e w' => e = .returned (.int .i64 (idx p l)) ∧ Grow w w' := by
  obtain ⟨a, c, rfl⟩ := h.mk
  unfold noteV at hp
  have HP := Lib.hid hp
  clear hp
  go_enter Tryz.func89, Tryz.ntmps89
  go_wp2
  go_loopw [5, 8] (fun v5 v8 wx => Grow w wx ∧ ∃ i : Nat, v8 = .int .i64 i ∧ i ≤ l.length ∧ ∀ (j : Nat) x, j < i → l[j]? = some x → p x = false) (fun _ v8 _ => l.length - (Go.RowKit.intOf v8).toNat)
  case atStart => exact ⟨Grow.refl _, 0, rfl, by omega, fun j _ h => absurd h (by omega)⟩
  case round =>
    obtain ⟨hg, i, rfl, hi, hall⟩ := hrel
    have HA := Lib.hid hall
    clear hall
    by_cases hlt : i < l.length
    · have hlt' : (i : Int) < l.length := by omega
      obtain ⟨x, hx, -⟩ := lt_get hlt
      obtain ⟨b, off, tv, sv, rfl, -, hc, hd, he, hf, hi2, ht, hs⟩ := (Notes.grow h hg).at hx
      obtain ⟨ta, tc, etv⟩ := ht.mk
      obtain ⟨sa, sc, esv⟩ := hs.mk
      subst etv esv
      have cP := HP.out wr x ta tc sa sc hg (List.mem_of_getElem? hx)
      have HX := Lib.hid hx
      clear hx h HP ht hs
      cases hpx : p x
      · rw [hpx] at cP
        have HPX := Lib.hid hpx
        clear hpx
        go_wp2_with fail
        refine cP.mono ?_
        rintro e w1 ⟨rfl, g1⟩
        go_wp2_with fail
        go_roundw
        case rel => exact ⟨hg.trans g1, i + 1, by go_num, by omega, fun j y hj h1 => by
          rcases (by omega : j < i ∨ j = i) with h3 | rfl
          · exact HA.out j y h3 h1
          · rw [HX.out] at h1; injection h1 with h1; rw [← h1]; exact HPX.out⟩
        case measure => simp [Go.RowKit.intOf]; omega
      · rw [hpx] at cP
        have HR := Lib.hid (idx_some HX.out hpx HA.out)
        clear hpx
        go_wp2_with fail
        refine cP.mono ?_
        rintro e w1 ⟨rfl, g1⟩
        go_wp2_with fail
        go_ret
        exact ⟨ret_int HR.out.symm, hg.trans g1⟩
    · have HR := Lib.hid (idx_none (p := p) (l := l) (fun j x hx => HA.out j x (by have := (List.getElem?_eq_some_iff.1 hx).1; omega) hx))
      have hlt' : ¬ (i : Int) < l.length := by omega
      clear h HP
      go_wp2_with fail
      go_ret
      exact ⟨ret_int HR.out.symm, hg⟩
set_option maxRecDepth 100000 in
theorem note1_any (x : Note) (tv sv : Value) (n : Int) (B : Nat) (w : World) (hb : B < w.heap.size) (h : w.cell? ⟨B, 0, none⟩ = some (.int .i64 n)) :
    Calls Tryz.prog 117 #[noteV x tv sv, .pointer (some ⟨B, 0, none⟩)] w fun e w' => e = .returned (.bool (x.id == n)) ∧ Grow w w' := by
  unfold noteV
  go_enter Tryz.func117, Tryz.ntmps117
  go_wp2_with fail
  go_ret
  exact ⟨rfl, (Grow.refl w).alloc _⟩
set_option maxRecDepth 100000 in
theorem note_any (s : Shelf) (bv nv : Value) (n : Int) (w : World) (h : ShelfR w s bv nv) (hz : s.notes.length ≤ 1000000000) :
    Calls Tryz.prog 87 #[shelfV s bv nv, .int .i64 n] w fun e w' => e = .returned (.int .i64 (idx (fun x => x.id == n) s.notes)) ∧ Grow w w' := by
  obtain ⟨-, hb⟩ := h
  have g0 : Grow w ((w.alloc (.cells #[.int .i64 s.nb, .int .i64 s.nn, .int .i64 s.ns, bv, nv] 25)).alloc (.cells #[.int .i64 n] 3)) := ((Grow.refl w).alloc _).alloc _
  have cI := indexNotes nv s.notes 117 #[.pointer (some ⟨w.heap.size + 1, 0, none⟩)] (fun x => x.id == n) _ (Notes.grow hb g0) hz (fun _ _ => rfl)
    (fun W x _ _ _ _ g _ => note1_any x _ _ n (w.heap.size + 1) W (by have := g.size; simp at this; omega) (by rw [g.cells _ _ (by simp)]; simp [go_sem]))
  obtain ⟨a, c, rfl⟩ := hb.mk
  clear hb
  unfold shelfV
  go_enter Tryz.func87, Tryz.ntmps87
  go_wp2_with fail
  refine cI.mono ?_
  rintro e w1 ⟨rfl, g1⟩
  go_wp2_with fail
  go_ret
  exact ⟨rfl, g0.trans g1⟩
theorem idx_any {α : Type} (p : α → Bool) : ∀ l : List α, decide (0 ≤ idx p l) = l.any p
  | [] => rfl
  | x :: l => by
    have ih := idx_any p l
    have hb := idx_bd p l
    rw [List.any_cons]
    unfold idx
    cases e : p x
    · rw [if_neg (by simp), Bool.false_or, ← ih]
      by_cases h : idx p l = -1
      · rw [if_pos h, h]
      · rw [if_neg h]
        have h1 : 0 ≤ idx p l := by omega
        rw [decide_eq_true h1, decide_eq_true (by omega)]
    · rw [if_pos rfl]; rfl
end Go.Proofs.YtgpjcgcecahddaaGreatDoor
set_option linter.unusedVariables false
set_option linter.unusedSimpArgs false
namespace Go.Proofs.YtgpjcgcecahddaaGreatDoor
open Go.RowKit Go.Lib
/-- What Find answers: a note of a copy, or none. -/
def RetFind (s : Shelf) (id : Int) (w : World) (e : Ending) (w' : World) : Prop :=
  Grow w w' ∧ ((∃ x bv nv Y y, mayS s = true ∧ 0 ≤ noteIx s id ∧ s.notes[(noteIx s id).toNat]? = some x ∧ e = .returned (.tuple #[noteV x y.tv y.sv, .bool true]) ∧ OwnS w.heap.size bv nv s.books Y w' ∧ Y.map NV.n = s.notes ∧ Y[(noteIx s id).toNat]? = some y ∧ y.n = x) ∨
    ((mayS s = false ∨ noteIx s id = -1) ∧ e = .returned (.tuple #[noteV ⟨0, 0, ⟨#[]⟩, [], []⟩ (.slice none 0 0) (.slice none 0 0), .bool false])))
/-- The result's cell, beside rows of the call's own. -/
def OwnN (base : Nat) (bv nv : Value) (X : List Book) (Y : List NV) (W0 : World) (D : Nat) (w : World) : Prop := Grow W0 w ∧ OwnS base bv nv X Y w ∧ blkOf nv ≠ some D ∧ ∃ cs : Array Value, w.heap[D]? = some (.cells cs 54 (0, 0))
theorem OwnN.set {base D : Nat} {bv nv : Value} {X : List Book} {Y : List NV} {W0 w : World} (h : OwnN base bv nv X Y W0 D w) (hD : W0.heap.size ≤ D) (j : Nat) (u : Value) : OwnN base bv nv X Y W0 D (w.setCell ⟨D, j, none⟩ u) := by
  obtain ⟨h0, h1, h2, cs, h3⟩ := h
  have ht : Turned D w (w.setCell ⟨D, j, none⟩ u) := ⟨rfl, rfl, rfl, by simp, fun i _ hb => heap_setCell_other w ⟨D, j, none⟩ i u hb⟩
  have hk := kept_of_turned h3 ht
  exact ⟨ht.grow h0 hD, ⟨h1.books.kept (by decide) hk, h1.notes.turned ht h2, fun y hy => (h1.tags y hy).kept (by decide) hk, fun y hy => (h1.sheets y hy).kept (by decide) hk, h1.tsep, h1.ssep⟩, h2, _, heap_setCell_same w D j _ _ _ h3⟩
theorem n5 {w : World} {b : Nat} {t : TypeId} {m : Nat × Nat} {u0 u1 u2 u3 u4 : Value} (hb : w.heap[b]? = some (.cells #[u0, u1, u2, u3, u4] t m)) :
    (w.cell? ⟨b, 0, none⟩ = some u0 ∧ w.cell? ⟨b, 1, none⟩ = some u1 ∧ w.cell? ⟨b, 2, none⟩ = some u2 ∧ w.cell? ⟨b, 3, none⟩ = some u3 ∧ w.cell? ⟨b, 4, none⟩ = some u4) ∧ b < w.heap.size :=
  ⟨sh5 hb, (Array.getElem?_eq_some_iff.1 hb).1⟩
abbrev noO : Obj := .cells #[.int .i64 0, .int .i64 0, .string ⟨#[]⟩, .slice none 0 0, .slice none 0 0] 54
theorem row_texts {base : Nat} {v : Value} {l : List ByteArray} {w : World} (h : RowO base 9 1 v l.length (strC l) w) : Texts w v l := h.reads fun i x hx => by rw [Nat.mul_one, List.take_one, List.head?_drop, List.getElem?_map, hx]; rfl
end Go.Proofs.YtgpjcgcecahddaaGreatDoor
set_option linter.unusedVariables false
set_option linter.unusedSimpArgs false
namespace Go.Proofs.YtgpjcgcecahddaaGreatDoor
open Go.RowKit Go.Lib
theorem results_cell_tmp2 {P : Program} {fn : Func} {p t u : Tmp} {ty : TypeId} (h : fn.results = #[.cell p ty, .tmp t, .tmp u]) (tmps : Array Value) (w : World) :
    (results fn tmps).run P w = ((asAddr (tmps.getD p undef)).run P w).andThen fun a w₁ => ((loadVar ty a).run P w₁).andThen fun v w₂ => .ok (.tuple #[v, tmps.getD t undef, tmps.getD u undef]) w₂ := by
  simp [results, h, Sem.run_bind]
theorem three_boxes (w : World) (o1 o2 o3 : Obj) : (((w.alloc o1).alloc o2).alloc o3).heap[w.heap.size]? = some o1 ∧ (((w.alloc o1).alloc o2).alloc o3).heap[w.heap.size + 1]? = some o2 ∧ (((w.alloc o1).alloc o2).alloc o3).heap[w.heap.size + 2]? = some o3 := by
  obtain ⟨h1, h2⟩ := two_boxes2 w o1 o2
  refine ⟨((Grow.refl _).alloc o3).blk h1, ((Grow.refl _).alloc o3).blk h2, ?_⟩
  have h := heap_alloc_new ((w.alloc o1).alloc o2) o3
  rwa [show ((w.alloc o1).alloc o2).heap.size = w.heap.size + 2 by simp] at h
theorem map_setN {l : List Note} (hu : l.Pairwise fun a b => a.id < b.id) {Y : List NV} (hm : Y.map NV.n = l) {i : Nat} {y z : NV} (hy : Y[i]? = some y) (f : Note → Note) (hz : z.n = f y.n) {id : Int} (hid : y.n.id = id) : (Y.set i z).map NV.n = updN id f l := by
  subst hid
  rw [List.map_set, hm, hz, ← set_updN hu (x := y.n) (by rw [← hm, List.getElem?_map, hy]; rfl) f]
theorem map_filterN {Y : List NV} {l : List Note} (hm : Y.map NV.n = l) (p : Note → Bool) : (Y.filter fun y => p y.n).map NV.n = l.filter p := by
  rw [← hm, List.filter_map]; rfl
theorem nv_get {Y : List NV} {l : List Note} (hm : Y.map NV.n = l) {i : Nat} {x : Note} (hx : l[i]? = some x) : ∃ y, Y[i]? = some y ∧ y.n = x := by
  rw [← hm, List.getElem?_map] at hx
  cases h : Y[i]? with
  | none => rw [h] at hx; cases hx
  | some y => rw [h] at hx; exact ⟨y, rfl, by simpa using hx⟩
abbrev shQ (nb nn ns : Int) (bv nv : Value) : Obj := .cells #[.int .i64 nb, .int .i64 nn, .int .i64 ns, bv, nv] 25
abbrev zV : Value := .agg #[.int .i64 0, .int .i64 0, .int .i64 0, .slice none 0 0, .slice none 0 0]
abbrev set5w (w : World) (b : Nat) (v0 v1 v2 v3 v4 : Value) : World := ((((w.setCell ⟨b, 0, none⟩ v0).setCell ⟨b, 1, none⟩ v1).setCell ⟨b, 2, none⟩ v2).setCell ⟨b, 3, none⟩ v3).setCell ⟨b, 4, none⟩ v4
theorem turned_cell (w : World) (b j : Nat) (u : Value) : Turned b w (w.setCell ⟨b, j, none⟩ u) := ⟨rfl, rfl, rfl, by simp, fun i _ hb => heap_setCell_other w ⟨b, j, none⟩ i u hb⟩
theorem set5 {w : World} {b : Nat} {t : TypeId} {u0 u1 u2 u3 u4 : Value} (h : w.heap[b]? = some (.cells #[u0, u1, u2, u3, u4] t (0, 0))) (v0 v1 v2 v3 v4 : Value) :
    (set5w w b v0 v1 v2 v3 v4).heap[b]? = some (.cells #[v0, v1, v2, v3, v4] t (0, 0)) ∧ Turned b w (set5w w b v0 v1 v2 v3 v4) := by
  have h1 := heap_setCell_same w b 0 _ t v0 h
  have h2 := heap_setCell_same _ b 1 _ t v1 h1
  have h3 := heap_setCell_same _ b 2 _ t v2 h2
  have h4 := heap_setCell_same _ b 3 _ t v3 h3
  have h5 := heap_setCell_same _ b 4 _ t v4 h4
  exact ⟨h5, ((((turned_cell _ _ _ _).trans (turned_cell _ _ _ _)).trans (turned_cell _ _ _ _)).trans (turned_cell _ _ _ _)).trans (turned_cell _ _ _ _)⟩
theorem set5_other {w : World} {b c : Nat} {o : Obj} (v0 v1 v2 v3 v4 : Value) (hc : c ≠ b) (ho : w.heap[c]? = some o) : (set5w w b v0 v1 v2 v3 v4).heap[c]? = some o :=
  ((((((turned_cell w b 0 v0).trans (turned_cell _ b 1 v1)).trans (turned_cell _ b 2 v2)).trans (turned_cell _ b 3 v3)).trans (turned_cell _ b 4 v4)).block c (Array.getElem?_eq_some_iff.1 ho).1 hc).trans ho
structure StB (w0 : World) (B D : Nat) (nb nn ns : Int) (bv nv : Value) (X : List Book) (Y : List NV) (w : World) : Prop where
  grow : Grow w0 w
  box : w.heap[B]? = some (shQ nb nn ns bv nv)
  res : w.heap[D]? = some (shQ 0 0 0 (.slice none 0 0) (.slice none 0 0))
  own : OwnS w0.heap.size bv nv X Y w
  low : w0.heap.size ≤ B ∧ w0.heap.size ≤ D ∧ B ≠ D
section
variable {w0 w w' : World} {B D : Nat} {nb nn ns : Int} {bv nv : Value} {X : List Book} {Y : List NV}
theorem StB.five (h : StB w0 B D nb nn ns bv nv X Y w) : (w.cell? ⟨B, 0, none⟩ = some (.int .i64 nb) ∧ w.cell? ⟨B, 1, none⟩ = some (.int .i64 nn) ∧ w.cell? ⟨B, 2, none⟩ = some (.int .i64 ns) ∧ w.cell? ⟨B, 3, none⟩ = some bv ∧ w.cell? ⟨B, 4, none⟩ = some nv) ∧ B < w.heap.size := n5 h.box
theorem StB.res5 (h : StB w0 B D nb nn ns bv nv X Y w) : (w.cell? ⟨D, 0, none⟩ = some (.int .i64 0) ∧ w.cell? ⟨D, 1, none⟩ = some (.int .i64 0) ∧ w.cell? ⟨D, 2, none⟩ = some (.int .i64 0) ∧ w.cell? ⟨D, 3, none⟩ = some (.slice none 0 0) ∧ w.cell? ⟨D, 4, none⟩ = some (.slice none 0 0)) ∧ D < w.heap.size := n5 h.res
theorem StB.boxF (h : StB w0 B D nb nn ns bv nv X Y w) (j : Nat) : w.frozen? ⟨B, j, none⟩ = false := frozen_of_row w B j _ _ h.box
theorem StB.resF (h : StB w0 B D nb nn ns bv nv X Y w) (j : Nat) : w.frozen? ⟨D, j, none⟩ = false := frozen_of_row w D j _ _ h.res
theorem shelf_kept {b : Nat} {cur : Array Value} (hb : w.heap[b]? = some (.cells cur 25 (0, 0))) (t : Turned b w w') : KeptS w w' := KeptS.of_turned t hb ⟨by decide, by decide, by decide, by decide⟩
/-- The box's field j is stored, the rows have been changed ahead. -/
theorem StB.put {bv' nv' : Value} {X' : List Book} {Y' : List NV} {nb' nn' ns' : Int} (g : Grow w0 w) (ho : OwnS w0.heap.size bv' nv' X' Y' w) (hres : w.heap[D]? = some (shQ 0 0 0 (.slice none 0 0) (.slice none 0 0))) (hbox : w.heap[B]? = some (shQ nb nn ns bv nv)) (low : w0.heap.size ≤ B ∧ w0.heap.size ≤ D ∧ B ≠ D)
    {j : Nat} {u : Value} (e : (#[.int .i64 nb, .int .i64 nn, .int .i64 ns, bv, nv] : Array Value).setIfInBounds j u = #[.int .i64 nb', .int .i64 nn', .int .i64 ns', bv', nv']) : StB w0 B D nb' nn' ns' bv' nv' X' Y' (w.setCell ⟨B, j, none⟩ u) := by
  have ht := turned_cell w B j u
  refine ⟨ht.grow g low.1, ?_, ?_, ho.kept (shelf_kept hbox ht), low⟩
  · rw [heap_setCell_same w B j _ _ u hbox, e]
  · exact (ht.block D (Array.getElem?_eq_some_iff.1 hres).1 (Ne.symm low.2.2)).trans hres
/-- A change of rows alone. -/
theorem StB.rows {X' : List Book} {Y' : List NV} (h : StB w0 B D nb nn ns bv nv X Y w) (ho : OwnS w0.heap.size bv nv X' Y' w') {b : Nat} {cur : Array Value} {e : TypeId} (hb : w.heap[b]? = some (.cells cur e (0, 0))) (he : e ≠ 25) (hl : w0.heap.size ≤ b) (t : Turned b w w') : StB w0 B D nb nn ns bv nv X' Y' w' := by
  have k := kept_of_turned hb t
  exact ⟨t.grow h.grow hl, k _ _ _ _ (Ne.symm he) h.box, k _ _ _ _ (Ne.symm he) h.res, ho, h.low⟩
theorem StB.more (h : StB w0 B D nb nn ns bv nv X Y w) (g : Grow w w') : StB w0 B D nb nn ns bv nv X Y w' := ⟨h.grow.trans g, g.blk h.box, g.blk h.res, h.own.grow g, h.low⟩
theorem StB.fin (h : StB w0 B D nb nn ns bv nv X Y w) : OwnD2 w0.heap.size bv nv X Y w0 D w := ⟨h.grow, h.own, _, h.res⟩
/-- The copy is put into the box. -/
theorem StB.start {s : Shelf} {V wk w3 : World} {bv0 nv0 : Value} (gV : Grow w0 V) (hbx : V.heap[B]? = some (shB s bv0 nv0)) (hrx : V.heap[D]? = some (shB ⟨0, 0, 0, [], []⟩ (.slice none 0 0) (.slice none 0 0))) (gk : Grow V wk) (g3 : Grow wk w3) (ho : OwnS wk.heap.size bv nv X Y w3) (low : w0.heap.size ≤ B ∧ w0.heap.size ≤ D ∧ B ≠ D) :
    StB w0 B D s.nb s.nn s.ns bv nv X Y (set5w w3 B (.int .i64 s.nb) (.int .i64 s.nn) (.int .i64 s.ns) bv nv) := by
  have hb := (gk.trans g3).blk hbx
  have hr := (gk.trans g3).blk hrx
  obtain ⟨h1, h2⟩ := set5 hb (.int .i64 s.nb) (.int .i64 s.nn) (.int .i64 s.ns) bv nv
  exact ⟨h2.grow ((gV.trans gk).trans g3) low.1, h1, (h2.block D (Array.getElem?_eq_some_iff.1 hr).1 (Ne.symm low.2.2)).trans hr, (ho.base_mono (gV.trans gk).size).kept (shelf_kept hb h2), low⟩
theorem StB.keep (h : StB w0 B D nb nn ns bv nv X Y w) {e : TypeId} (he : 25 ≠ e) (k : Kept e w w') : w'.heap[B]? = some (shQ nb nn ns bv nv) ∧ w'.heap[D]? = some (shQ 0 0 0 (.slice none 0 0) (.slice none 0 0)) := ⟨k _ _ _ _ he h.box, k _ _ _ _ he h.res⟩
theorem grown_grow {v : Value} {e : TypeId} {k n : Nat} {xs : List Value} (g0 : Grow w0 w) (h : RowO w0.heap.size e k v n xs w) (g : w.grownBy w' (blkOf v)) : Grow w0 w' := Below.grown g0 g g0.size (fun b hb => (h.blk hb).1)
/-- The books' row was turned; now the box is stored. -/
theorem StB.toB (h : StB w0 B D nb nn ns bv nv X Y w) {v' : Value} {X' : List Book} (hr : RowO w0.heap.size 60 2 v' X'.length (X'.flatMap bookC) w') (g : w.grownBy w' (blkOf bv)) :
    w'.cell? ⟨B, 3, none⟩ = some bv ∧ w'.frozen? ⟨B, 3, none⟩ = false ∧ B < w'.heap.size ∧ StB w0 B D nb nn ns v' nv X' Y (w'.setCell ⟨B, 3, none⟩ v') := by
  have hk := h.own.books.keeps g
  obtain ⟨h1, h2⟩ := h.keep (by decide) hk
  exact ⟨(cell_of_row w' B 3 _ _ _ h1).trans rfl, frozen_of_row w' B 3 _ _ h1, (Array.getElem?_eq_some_iff.1 h1).1, StB.put (grown_grow h.grow h.own.books g) (h.own.books' hk hr) h2 h1 h.low rfl⟩
theorem StB.book (h : StB w0 B D nb nn ns bv nv X Y w) {x : Book} {v' : Value} (ra : AppR w0.heap.size 60 2 w bv X.length (X.flatMap bookC) (bookC x) v' w') :
    w'.cell? ⟨B, 3, none⟩ = some bv ∧ w'.frozen? ⟨B, 3, none⟩ = false ∧ B < w'.heap.size ∧ StB w0 B D nb nn ns v' nv (X ++ [x]) Y (w'.setCell ⟨B, 3, none⟩ v') := by
  refine h.toB ?_ ra.2.1
  have := ra.1
  rw [List.length_append, List.flatMap_append]
  simpa using this
/-- The notes' row was turned. -/
theorem StB.toN (h : StB w0 B D nb nn ns bv nv X Y w) {v' : Value} {Y' : List NV} (ho : OwnS w0.heap.size bv v' X Y' w') (g : w.grownBy w' (blkOf nv)) :
    w'.cell? ⟨B, 4, none⟩ = some nv ∧ w'.frozen? ⟨B, 4, none⟩ = false ∧ B < w'.heap.size ∧ StB w0 B D nb nn ns bv v' X Y' (w'.setCell ⟨B, 4, none⟩ v') := by
  have hk := h.own.notes.keeps g
  obtain ⟨h1, h2⟩ := h.keep (by decide) hk
  exact ⟨(cell_of_row w' B 4 _ _ _ h1).trans rfl, frozen_of_row w' B 4 _ _ h1, (Array.getElem?_eq_some_iff.1 h1).1, StB.put (grown_grow h.grow h.own.notes g) ho h2 h1 h.low rfl⟩
theorem StB.subN (h : StB w0 B D nb nn ns bv nv X Y w) {v' : Value} {Y' : List NV} (hs : Y'.Sublist Y) (hr : RowO w0.heap.size 54 5 v' Y'.length (Y'.flatMap noteC) w') (g : w.grownBy w' (blkOf nv)) :
    w'.cell? ⟨B, 4, none⟩ = some nv ∧ w'.frozen? ⟨B, 4, none⟩ = false ∧ B < w'.heap.size ∧ StB w0 B D nb nn ns bv v' X Y' (w'.setCell ⟨B, 4, none⟩ v') :=
  h.toN (h.own.notes' (h.own.notes.keeps g) hr (fun y hy => h.own.tags y (hs.subset hy)) (fun y hy => h.own.sheets y (hs.subset hy)) (h.own.tsep.sublist hs) (h.own.ssep.sublist hs)) g
theorem StB.note (h : StB w0 B D nb nn ns bv nv X Y w) {x : NV} (ht : x.tv = .slice none 0 0 ∧ x.n.tags = []) (hs : x.sv = .slice none 0 0 ∧ x.n.sheets = []) {v' : Value} (ra : AppR w0.heap.size 54 5 w nv Y.length (Y.flatMap noteC) (noteC x) v' w') :
    w'.cell? ⟨B, 4, none⟩ = some nv ∧ w'.frozen? ⟨B, 4, none⟩ = false ∧ B < w'.heap.size ∧ StB w0 B D nb nn ns bv v' X (Y ++ [x]) (w'.setCell ⟨B, 4, none⟩ v') := h.toN (h.own.addNote ht hs ra) ra.2.1
/-- A book's name is stored. -/
theorem StB.setB (h : StB w0 B D nb nn ns bv nv X Y w) {i : Nat} {x : Book} (hx : X[i]? = some x) (s : ByteArray) {b c : Nat} (e : bv = .slice (some ⟨b, 0, none⟩) X.length c) : StB w0 B D nb nn ns bv nv (X.set i { x with name := s }) Y (w.setCell ⟨b, i * 2 + 1, none⟩ (.string s)) := by
  obtain ⟨h1, h2⟩ := h.own.setBook hx s e
  have hc : (X.flatMap bookC)[i * 2 + 1]? = some (.string x.name) := by rw [flat_get bookC (fun _ => rfl) X i 1 x hx (by decide)]; rfl
  obtain ⟨b', c', e1, -, -, -, hb⟩ := h.own.books.cell hc
  rw [e] at e1
  injection e1 with e1
  injection e1 with e1
  injection e1 with e1
  subst e1
  obtain ⟨hl, cur, hcur⟩ := h.own.books.blk hb
  exact h.rows h1 hcur (by decide) hl h2
theorem StB.nrow (h : StB w0 B D nb nn ns bv nv X Y w) {i : Nat} {y : NV} (hy : Y[i]? = some y) {b c : Nat} (e : nv = .slice (some ⟨b, 0, none⟩) Y.length c) : w0.heap.size ≤ b ∧ ∃ cur : Array Value, w.heap[b]? = some (.cells cur 54 (0, 0)) := by
  have hc : (Y.flatMap noteC)[i * 5 + 1]? = some (.int .i64 y.n.book) := by rw [flat_get noteC (fun _ => rfl) Y i 1 y hy (by decide)]; rfl
  obtain ⟨b', c', e1, -, -, -, hb⟩ := h.own.notes.cell hc
  rw [e] at e1
  injection e1 with e1
  injection e1 with e1
  injection e1 with e1
  subst e1
  exact h.own.notes.blk hb
theorem StB.setN (h : StB w0 B D nb nn ns bv nv X Y w) {i : Nat} {y : NV} (hy : Y[i]? = some y) (s : ByteArray) {b c : Nat} (e : nv = .slice (some ⟨b, 0, none⟩) Y.length c) : StB w0 B D nb nn ns bv nv X (Y.set i { y with n := { y.n with name := s } }) (w.setCell ⟨b, i * 5 + 2, none⟩ (.string s)) := by
  obtain ⟨h1, h2⟩ := h.own.setName hy s e
  obtain ⟨hl, cur, hcur⟩ := h.nrow hy e
  exact h.rows h1 hcur (by decide) hl h2
theorem StB.setQ (h : StB w0 B D nb nn ns bv nv X Y w) {i : Nat} {y : NV} (hy : Y[i]? = some y) (q : Int) {b c : Nat} (e : nv = .slice (some ⟨b, 0, none⟩) Y.length c) : StB w0 B D nb nn ns bv nv X (Y.set i { y with n := { y.n with book := q } }) (w.setCell ⟨b, i * 5 + 1, none⟩ (.int .i64 q)) := by
  obtain ⟨h1, h2⟩ := h.own.setBookOf hy q e
  obtain ⟨hl, cur, hcur⟩ := h.nrow hy e
  exact h.rows h1 hcur (by decide) hl h2
/-- A note's tags were turned; now its cell is stored. -/
theorem StB.retag (h : StB w0 B D nb nn ns bv nv X Y w) {i : Nat} {y : NV} (hy : Y[i]? = some y) {v : Value} {l : List ByteArray} {w1 : World} (hr : RowO w0.heap.size 9 1 v l.length (strC l) w1) (g : w.grownBy w1 (blkOf y.tv))
    (hb : ∀ b, blkOf v = some b → blkOf y.tv = some b ∨ w.heap.size ≤ b) {b c : Nat} (e : nv = .slice (some ⟨b, 0, none⟩) Y.length c) :
    w1.cell? ⟨b, i * 5 + 3, none⟩ = some y.tv ∧ w1.frozen? ⟨b, i * 5 + 3, none⟩ = false ∧ b < w1.heap.size ∧ StB w0 B D nb nn ns bv nv X (Y.set i ⟨{ y.n with tags := l }, v, y.sv⟩) (w1.setCell ⟨b, i * 5 + 3, none⟩ v) := by
  obtain ⟨c1, c2, ho, ht, hk⟩ := h.own.retag hy hr g hb e
  obtain ⟨hl, cur, hcur⟩ := h.nrow hy e
  have hc1 := hk _ _ _ _ (by decide) hcur
  have hB := hk _ _ _ _ (by decide) h.box
  have hD := hk _ _ _ _ (by decide) h.res
  have k2 := kept_of_turned hc1 ht
  have gg : Grow w0 w1 := grown_grow h.grow (h.own.tags y (List.mem_of_getElem? hy)) g
  exact ⟨c1, c2, (Array.getElem?_eq_some_iff.1 hc1).1, ⟨ht.grow gg hl, k2 _ _ _ _ (by decide) hB, k2 _ _ _ _ (by decide) hD, ho, h.low⟩⟩
theorem StB.resheet (h : StB w0 B D nb nn ns bv nv X Y w) {i : Nat} {y : NV} (hy : Y[i]? = some y) {v : Value} {l : List Int} {w1 : World} (hr : RowO w0.heap.size 3 1 v l.length (intC l) w1) (g : w.grownBy w1 (blkOf y.sv))
    (hb : ∀ b, blkOf v = some b → blkOf y.sv = some b ∨ w.heap.size ≤ b) {b c : Nat} (e : nv = .slice (some ⟨b, 0, none⟩) Y.length c) :
    w1.cell? ⟨b, i * 5 + 4, none⟩ = some y.sv ∧ w1.frozen? ⟨b, i * 5 + 4, none⟩ = false ∧ b < w1.heap.size ∧ StB w0 B D nb nn ns bv nv X (Y.set i ⟨{ y.n with sheets := l }, y.tv, v⟩) (w1.setCell ⟨b, i * 5 + 4, none⟩ v) := by
  obtain ⟨c1, c2, ho, ht, hk⟩ := h.own.resheet hy hr g hb e
  obtain ⟨hl, cur, hcur⟩ := h.nrow hy e
  have hc1 := hk _ _ _ _ (by decide) hcur
  have hB := hk _ _ _ _ (by decide) h.box
  have hD := hk _ _ _ _ (by decide) h.res
  have k2 := kept_of_turned hc1 ht
  have gg : Grow w0 w1 := grown_grow h.grow (h.own.sheets y (List.mem_of_getElem? hy)) g
  exact ⟨c1, c2, (Array.getElem?_eq_some_iff.1 hc1).1, ⟨ht.grow gg hl, k2 _ _ _ _ (by decide) hB, k2 _ _ _ _ (by decide) hD, ho, h.low⟩⟩
theorem StB.tagApp (h : StB w0 B D nb nn ns bv nv X Y w) {i : Nat} {y : NV} (hy : Y[i]? = some y) {x : ByteArray} {v' : Value} (ra : AppR w0.heap.size 9 1 w y.tv y.n.tags.length (strC y.n.tags) [.string x] v' w') {b c : Nat} (e : nv = .slice (some ⟨b, 0, none⟩) Y.length c) :
    w'.cell? ⟨b, i * 5 + 3, none⟩ = some y.tv ∧ w'.frozen? ⟨b, i * 5 + 3, none⟩ = false ∧ b < w'.heap.size ∧ StB w0 B D nb nn ns bv nv X (Y.set i ⟨{ y.n with tags := y.n.tags ++ [x] }, v', y.sv⟩) (w'.setCell ⟨b, i * 5 + 3, none⟩ v') := by
  have hr : RowO w0.heap.size 9 1 v' (y.n.tags ++ [x]).length (strC (y.n.tags ++ [x])) w' := by
    have := ra.1
    unfold strC at this ⊢
    rw [List.length_append, List.map_append]; exact this
  obtain ⟨g, hg1, hg2⟩ := ra.2.2.1
  exact h.retag hy hr ra.2.1 (fun q hq => by rw [hg1] at hq; obtain rfl := Option.some.inj hq; exact hg2) e
theorem StB.sheetApp (h : StB w0 B D nb nn ns bv nv X Y w) {i : Nat} {y : NV} (hy : Y[i]? = some y) {x : Int} {v' : Value} (ra : AppR w0.heap.size 3 1 w y.sv y.n.sheets.length (intC y.n.sheets) [.int .i64 x] v' w') {b c : Nat} (e : nv = .slice (some ⟨b, 0, none⟩) Y.length c) :
    w'.cell? ⟨b, i * 5 + 4, none⟩ = some y.sv ∧ w'.frozen? ⟨b, i * 5 + 4, none⟩ = false ∧ b < w'.heap.size ∧ StB w0 B D nb nn ns bv nv X (Y.set i ⟨{ y.n with sheets := y.n.sheets ++ [x] }, y.tv, v'⟩) (w'.setCell ⟨b, i * 5 + 4, none⟩ v') := by
  have hr : RowO w0.heap.size 3 1 v' (y.n.sheets ++ [x]).length (intC (y.n.sheets ++ [x])) w' := by
    have := ra.1
    unfold intC at this ⊢
    rw [List.length_append, List.map_append]; exact this
  obtain ⟨g, hg1, hg2⟩ := ra.2.2.1
  exact h.resheet hy hr ra.2.1 (fun q hq => by rw [hg1] at hq; obtain rfl := Option.some.inj hq; exact hg2) e
theorem setCell_self {w : World} {b j : Nat} {v : Value} (h : w.cell? ⟨b, j, none⟩ = some v) : w.setCell ⟨b, j, none⟩ v = w := by
  rw [Go.Sort.setCell_eq]
  refine Go.Sort.mapBlock_id w b _ fun c e fr hb => ?_
  rw [cell_of_row w b j _ _ _ hb] at h
  obtain ⟨hj, e⟩ := Array.getElem?_eq_some_iff.1 h
  rw [← e]
  apply Array.ext_getElem?
  intro i
  rw [Array.getElem?_setIfInBounds]
  split
  · rename_i hij; subst hij; simp [hj]
  · rfl
/-- A note's tags were turned where they stand. -/
theorem StB.resort (h : StB w0 B D nb nn ns bv nv X Y w) {i : Nat} {y : NV} (hy : Y[i]? = some y) {l : List ByteArray} {w1 : World} (hr : RowO w0.heap.size 9 1 y.tv l.length (strC l) w1) (g : w.grownBy w1 (blkOf y.tv)) {b c : Nat} (e : nv = .slice (some ⟨b, 0, none⟩) Y.length c) :
    StB w0 B D nb nn ns bv nv X (Y.set i ⟨{ y.n with tags := l }, y.tv, y.sv⟩) w1 := by
  obtain ⟨c1, -, -, h2⟩ := h.retag hy hr g (fun b hb => .inl hb) e
  rw [setCell_self c1] at h2
  exact h2
/-- A number of the box is stored. -/
theorem StB.num0 (h : StB w0 B D nb nn ns bv nv X Y w) (x : Int) : StB w0 B D x nn ns bv nv X Y (w.setCell ⟨B, 0, none⟩ (.int .i64 x)) := StB.put h.grow h.own h.res h.box h.low rfl
theorem StB.num1 (h : StB w0 B D nb nn ns bv nv X Y w) (x : Int) : StB w0 B D nb x ns bv nv X Y (w.setCell ⟨B, 1, none⟩ (.int .i64 x)) := StB.put h.grow h.own h.res h.box h.low rfl
theorem StB.num2 (h : StB w0 B D nb nn ns bv nv X Y w) (x : Int) : StB w0 B D nb nn x bv nv X Y (w.setCell ⟨B, 2, none⟩ (.int .i64 x)) := StB.put h.grow h.own h.res h.box h.low rfl
end
theorem OwnD2.drew {base D : Nat} {bv nv : Value} {X : List Book} {Y : List NV} {W0 w : World} (h : OwnD2 base bv nv X Y W0 D w) : OwnD2 base bv nv X Y W0 D w.drew :=
  ⟨h.1.drew, h.2.1.grow (Grow.refl w).drew, h.2.2.elim fun cs hc => ⟨cs, (Grow.refl w).drew.blk hc⟩⟩
/-- What a change answers: a shelf of the call's own, and an error. -/
def RetC (r : Res) (w : World) (e : Ending) (w' : World) : Prop :=
  Grow w w' ∧ ∃ bv nv Y, e = .returned (.tuple #[shelfV r.s bv nv, .int .i64 r.e]) ∧ OwnS w.heap.size bv nv r.s.books Y w' ∧ Y.map NV.n = r.s.notes
def RetM (r : Res) (w : World) (e : Ending) (w' : World) : Prop :=
  Grow w w' ∧ ∃ bv nv Y, e = .returned (.tuple #[shelfV r.s bv nv, .int .i64 r.n, .int .i64 r.e]) ∧ OwnS w.heap.size bv nv r.s.books Y w' ∧ Y.map NV.n = r.s.notes
theorem ret_badC {r : Res} {e : Int} {w w' : World} (h : r = bad e) (g : Grow w w') : RetC r w (.returned (.tuple #[zV, .int .i64 e])) w' := by
  subst h; exact ⟨g, _, _, [], rfl, OwnS.nil, rfl⟩
theorem ret_badM {r : Res} {e : Int} {w w' : World} (h : r = bad e) (g : Grow w w') : RetM r w (.returned (.tuple #[zV, .int .i64 0, .int .i64 e])) w' := by
  subst h; exact ⟨g, _, _, [], rfl, OwnS.nil, rfl⟩
theorem ret_okC {r : Res} {s : Shelf} {n : Int} {w w' : World} {bv nv : Value} {Y : List NV} {D : Nat} (h : r = ⟨s, n, 0⟩) (ho : OwnD2 w.heap.size bv nv s.books Y w D w') (hm : Y.map NV.n = s.notes) : RetC r w (.returned (.tuple #[shelfV s bv nv, .int .i64 0])) w' := by
  subst h; exact ⟨ho.1, bv, nv, Y, rfl, ho.2.1, hm⟩
theorem ret_okM {r : Res} {s : Shelf} {n : Int} {w w' : World} {bv nv : Value} {Y : List NV} {D : Nat} (h : r = ⟨s, n, 0⟩) (ho : OwnD2 w.heap.size bv nv s.books Y w D w') (hm : Y.map NV.n = s.notes) : RetM r w (.returned (.tuple #[shelfV s bv nv, .int .i64 n, .int .i64 0])) w' := by
  subst h; exact ⟨ho.1, bv, nv, Y, rfl, ho.2.1, hm⟩
theorem res_bad {e e' : Int} (h : e = e') (h0 : e' ≠ 0) (s : Shelf) (n : Int) : resOf e s n = bad e' := by subst h; exact resOf_no h0 s n
end Go.Proofs.YtgpjcgcecahddaaGreatDoor
set_option linter.unusedVariables false
set_option linter.unusedSimpArgs false
namespace Go.Proofs.YtgpjcgcecahddaaGreatDoor
open Go.RowKit Go.Lib
/-- A shelf of some size. -/
def Low (s : Shelf) : Prop := s.books.length ≤ 10 ∧ s.notes.length ≤ 16 ∧ (∀ b ∈ s.books, b.name.size ≤ 60) ∧ ∀ n ∈ s.notes, n.name.size ≤ 60 ∧ n.tags.length ≤ 8 ∧ n.sheets.length ≤ 12 ∧ ∀ t ∈ n.tags, t.size ≤ 60
theorem Low.tame {s : Shelf} (h : Low s) : Tame s := ⟨by have := h.1; omega, by have := h.2.1; omega, fun b hb => by have := h.2.2.1 b hb; omega, fun n hn => by
  obtain ⟨h1, h2, h3, h4⟩ := h.2.2.2 n hn
  exact ⟨by omega, by omega, by omega, fun t ht => by have := h4 t ht; omega⟩⟩
set_option maxRecDepth 100000 in
theorem greatTexts_wide (v : Value) (l : List ByteArray) (long : Int) (w : World) (h : Texts w v l) (hl : l.length ≤ 9223372036854775807) :
    Calls Tryz.prog 33 #[v, .int .i64 8, .int .i64 long] w fun e w' => e = .returned (.bool (greatTexts l 8 long)) ∧ w = w' := by
  by_cases hs : l.length ≤ 4611686018427387904
  · exact greatTexts_any v l 8 long w h hs (by decide)
  obtain ⟨a, c, rfl⟩ := h.mk
  have hb : (8 : Int) < (l.length : Int) := by omega
  have h0 : (0 : Int) < l.length := by omega
  have HR := Lib.hid (show greatTexts l 8 long = true by unfold greatTexts; rw [decide_eq_true hb]; rfl)
  clear hs
  go_enter Tryz.func33, Tryz.ntmps33
  go_wp2
  refine wp_loop_rounds 1 ?_
  rw [rounds_succ]
  go_wp2
  go_ret
  exact ⟨ret_bool HR.out.symm, rfl⟩
def GreatPost (s : Shelf) (w : World) (e : Ending) (w' : World) : Prop := Grow w w' ∧ ∃ r, e = .returned (.bool r) ∧ (r = false → Low s)
set_option maxRecDepth 100000 in
set_option maxHeartbeats 2000000 in
theorem great_any (s : Shelf) (bv nv : Value) (w : World) (h : ShelfR w s bv nv) (hwd : ∀ n ∈ s.notes, n.tags.length ≤ 9223372036854775807) :
    Calls Tryz.prog 9 #[shelfV s bv nv] w (GreatPost s w) := by
  obtain ⟨a1, c1, rfl⟩ := h.1.mk
  obtain ⟨a2, c2, rfl⟩ := h.2.mk
  have HH := Lib.hid h
  have HWD := Lib.hid hwd
  clear h hwd
  unfold shelfV
  go_enter Tryz.func9, Tryz.ntmps9
  go_upto_region 1 with (fail)
  generalize hV : w.alloc (.cells #[.int .i64 s.nb, .int .i64 s.nn, .int .i64 s.ns, .slice a1 s.books.length c1, .slice a2 s.notes.length c2] 25) = V
  have gV : Grow w V := by rw [← hV]; exact (Grow.refl w).alloc _
  have hsz : w.heap.size < V.heap.size := by rw [← hV]; simp
  have Q : V.cell? ⟨w.heap.size, 3, none⟩ = some (.slice a1 s.books.length c1) ∧
      V.cell? ⟨w.heap.size, 4, none⟩ = some (.slice a2 s.notes.length c2) := by rw [← hV]; simp [go_sem]
  obtain ⟨q3, q4⟩ := Q
  clear hV
  go_wp2_with fail
  go_loop [3] (fun v3 => ∃ j : Nat, v3 = .int .i64 j ∧ j ≤ 10 ∧ ∀ (k : Nat) x, k < j → s.books[k]? = some x → x.name.size ≤ 60) (fun v3 => 11 - (intOf v3).toNat)
  case atStart => exact ⟨0, rfl, by omega, fun k x h => absurd h (by omega)⟩
  case round =>
    obtain ⟨j, rfl, hj, hall⟩ := hrel
    have HA := Lib.hid hall
    clear hall
    by_cases hgo : j < s.books.length ∧ s.books.length ≤ 10
    · obtain ⟨hlt, hle⟩ := hgo
      have hlt' : (j : Int) < s.books.length := by omega
      have hle' : (s.books.length : Int) ≤ 10 := by omega
      have hd1 : decide ((j : Int) < s.books.length) = true := decide_eq_true hlt'
      obtain ⟨x, hx, -⟩ := lt_get hlt
      obtain ⟨bb, off, rfl, hbb, p0, p1⟩ := (HH.out.1.grow gV).at hx
      have HX := Lib.hid hx
      clear hx
      by_cases hs : x.name.size ≤ 60
      · have hs' : ¬ (60 : Int) < x.name.size := by omega
        go_wp2_with fail
        go_round
        case rel => exact ⟨j + 1, by go_num, by omega, fun k y hk hy => by
          rcases (by omega : k < j ∨ k = j) with h3 | rfl
          · exact HA.out k y h3 hy
          · rw [HX.out] at hy; injection hy with hy; rw [← hy]; exact hs⟩
        case measure => simp [intOf]; omega
      · have hs' : (60 : Int) < x.name.size := by omega
        go_wp2_with fail
        go_ret
        exact ⟨gV, true, rfl, fun h => by cases h⟩
    · have hbooks : s.books.length ≤ 10 → ∀ b ∈ s.books, b.name.size ≤ 60 := fun hle b hb => by
        obtain ⟨i, hi, e⟩ := List.getElem_of_mem hb
        exact HA.out i b (by omega) (by rw [List.getElem?_eq_getElem hi, e])
      have HBK := Lib.hid hbooks
      clear hbooks
      have hdd : (decide ((j : Int) < s.books.length) && decide ((s.books.length : Int) ≤ 10)) = false := by
        rw [← Bool.not_eq_true, Bool.and_eq_true, decide_eq_true_eq, decide_eq_true_eq]; omega
      by_cases hlt : j < s.books.length
      · have hlt' : (j : Int) < s.books.length := by omega
        have hle' : ¬ (s.books.length : Int) ≤ 10 := by omega
        have hle'' : (10 : Int) < s.books.length := by omega
        go_wp2_with fail
        go_loopw [4] (fun v4 wx => wx = V ∧ ∃ j : Nat, v4 = .int .i64 j ∧ j ≤ 16 ∧ ∀ (k : Nat) x, k < j → s.notes[k]? = some x → x.name.size ≤ 60 ∧ x.tags.length ≤ 8 ∧ x.sheets.length ≤ 12 ∧ ∀ t ∈ x.tags, t.size ≤ 60) (fun v4 _ => 17 - (intOf v4).toNat)
        case atStart => exact ⟨rfl, 0, rfl, by omega, fun k x h => absurd h (by omega)⟩
        case round =>
          obtain ⟨rfl, j, rfl, hj, hall⟩ := hrel
          have HA := Lib.hid hall
          clear hall hlt'
          by_cases hgo : j < s.notes.length ∧ s.notes.length ≤ 16
          · obtain ⟨hlt, hle⟩ := hgo
            have hlt' : (j : Int) < s.notes.length := by omega
            have hle' : (s.notes.length : Int) ≤ 16 := by omega
            obtain ⟨x, hx, -⟩ := lt_get hlt
            obtain ⟨bb, off, tv, sv, rfl, hbb, p0, p1, p2, p3, p4, htx, hsx⟩ := (HH.out.2.grow gV).at hx
            have cT := greatTexts_wide tv x.tags 60 wr htx (HWD.out x (List.mem_of_getElem? hx))
            obtain ⟨ta, tc, rfl⟩ := htx.mk
            obtain ⟨sa, sc, rfl⟩ := hsx.mk
            have HX := Lib.hid hx
            clear hx htx hsx
            by_cases hs : x.name.size ≤ 60
            · have hs' : ¬ (60 : Int) < x.name.size := by omega
              cases ht : greatTexts x.tags 8 60
              · rw [ht] at cT
                have HT := Lib.hid ht
                clear ht
                by_cases hsh : x.sheets.length ≤ 12
                · have hsh' : ¬ (12 : Int) < x.sheets.length := by omega
                  go_wp2_with fail
                  refine cT.mono ?_
                  rintro e w1 ⟨rfl, rfl⟩
                  go_wp2_with fail
                  go_roundw
                  case rel => exact ⟨by first | trivial | rfl, j + 1, by go_num, by omega, fun k y hk hy => by
                    rcases (by omega : k < j ∨ k = j) with h3 | rfl
                    · exact HA.out k y h3 hy
                    · rw [HX.out] at hy; injection hy with hy; subst hy
                      have h4 := HT.out
                      unfold greatTexts at h4
                      rw [Bool.or_eq_false_iff, decide_eq_false_iff_not, List.any_eq_false] at h4
                      exact ⟨hs, by omega, hsh, fun t ht => by have := h4.2 t ht; rw [decide_eq_true_eq] at this; omega⟩⟩
                  case measure => simp [intOf]; omega
                · have hsh' : (12 : Int) < x.sheets.length := by omega
                  go_wp2_with fail
                  refine cT.mono ?_
                  rintro e w1 ⟨rfl, rfl⟩
                  go_wp2_with fail
                  go_ret
                  exact ⟨gV, true, rfl, fun h => by cases h⟩
              · rw [ht] at cT
                clear ht
                go_wp2_with fail
                refine cT.mono ?_
                rintro e w1 ⟨rfl, rfl⟩
                go_wp2_with fail
                go_ret
                exact ⟨gV, true, rfl, fun h => by cases h⟩
            · have hs' : (60 : Int) < x.name.size := by omega
              clear cT
              go_wp2_with fail
              go_ret
              exact ⟨gV, true, rfl, fun h => by cases h⟩
          · have hfin : s.books.length ≤ 10 → s.notes.length ≤ 16 → Low s := fun h1 h2 => ⟨h1, h2, HBK.out h1, fun n hn => by
              obtain ⟨i, hi, e⟩ := List.getElem_of_mem hn
              obtain ⟨z1, z2, z3, z4⟩ := HA.out i n (by omega) (by rw [List.getElem?_eq_getElem hi, e])
              exact ⟨z1, z2, z3, z4⟩⟩
            have HF := Lib.hid hfin
            clear hfin
            by_cases hb10 : s.books.length ≤ 10
            · omega
            · have hb10' : (10 : Int) < s.books.length := by omega
              by_cases hlt : j < s.notes.length
              · have hlt' : (j : Int) < s.notes.length := by omega
                have hn16'' : ¬ (s.notes.length : Int) ≤ 16 := by omega
                go_wp2_with fail
                go_ret
                exact ⟨gV, true, rfl, fun h => by cases h⟩
              · have hlt' : ¬ (j : Int) < s.notes.length := by omega
                go_wp2_with fail
                go_ret
                exact ⟨gV, true, rfl, fun h => by cases h⟩
      · have hlt' : ¬ (j : Int) < s.books.length := by omega
        go_wp2_with fail
        go_loopw [4] (fun v4 wx => wx = V ∧ ∃ j : Nat, v4 = .int .i64 j ∧ j ≤ 16 ∧ ∀ (k : Nat) x, k < j → s.notes[k]? = some x → x.name.size ≤ 60 ∧ x.tags.length ≤ 8 ∧ x.sheets.length ≤ 12 ∧ ∀ t ∈ x.tags, t.size ≤ 60) (fun v4 _ => 17 - (intOf v4).toNat)
        case atStart => exact ⟨rfl, 0, rfl, by omega, fun k x h => absurd h (by omega)⟩
        case round =>
          obtain ⟨rfl, j, rfl, hj, hall⟩ := hrel
          have HA := Lib.hid hall
          clear hall hlt'
          by_cases hgo : j < s.notes.length ∧ s.notes.length ≤ 16
          · obtain ⟨hlt, hle⟩ := hgo
            have hlt' : (j : Int) < s.notes.length := by omega
            have hle' : (s.notes.length : Int) ≤ 16 := by omega
            obtain ⟨x, hx, -⟩ := lt_get hlt
            obtain ⟨bb, off, tv, sv, rfl, hbb, p0, p1, p2, p3, p4, htx, hsx⟩ := (HH.out.2.grow gV).at hx
            have cT := greatTexts_wide tv x.tags 60 wr htx (HWD.out x (List.mem_of_getElem? hx))
            obtain ⟨ta, tc, rfl⟩ := htx.mk
            obtain ⟨sa, sc, rfl⟩ := hsx.mk
            have HX := Lib.hid hx
            clear hx htx hsx
            by_cases hs : x.name.size ≤ 60
            · have hs' : ¬ (60 : Int) < x.name.size := by omega
              cases ht : greatTexts x.tags 8 60
              · rw [ht] at cT
                have HT := Lib.hid ht
                clear ht
                by_cases hsh : x.sheets.length ≤ 12
                · have hsh' : ¬ (12 : Int) < x.sheets.length := by omega
                  go_wp2_with fail
                  refine cT.mono ?_
                  rintro e w1 ⟨rfl, rfl⟩
                  go_wp2_with fail
                  go_roundw
                  case rel => exact ⟨by first | trivial | rfl, j + 1, by go_num, by omega, fun k y hk hy => by
                    rcases (by omega : k < j ∨ k = j) with h3 | rfl
                    · exact HA.out k y h3 hy
                    · rw [HX.out] at hy; injection hy with hy; subst hy
                      have h4 := HT.out
                      unfold greatTexts at h4
                      rw [Bool.or_eq_false_iff, decide_eq_false_iff_not, List.any_eq_false] at h4
                      exact ⟨hs, by omega, hsh, fun t ht => by have := h4.2 t ht; rw [decide_eq_true_eq] at this; omega⟩⟩
                  case measure => simp [intOf]; omega
                · have hsh' : (12 : Int) < x.sheets.length := by omega
                  go_wp2_with fail
                  refine cT.mono ?_
                  rintro e w1 ⟨rfl, rfl⟩
                  go_wp2_with fail
                  go_ret
                  exact ⟨gV, true, rfl, fun h => by cases h⟩
              · rw [ht] at cT
                clear ht
                go_wp2_with fail
                refine cT.mono ?_
                rintro e w1 ⟨rfl, rfl⟩
                go_wp2_with fail
                go_ret
                exact ⟨gV, true, rfl, fun h => by cases h⟩
            · have hs' : (60 : Int) < x.name.size := by omega
              clear cT
              go_wp2_with fail
              go_ret
              exact ⟨gV, true, rfl, fun h => by cases h⟩
          · have hfin : s.books.length ≤ 10 → s.notes.length ≤ 16 → Low s := fun h1 h2 => ⟨h1, h2, HBK.out h1, fun n hn => by
              obtain ⟨i, hi, e⟩ := List.getElem_of_mem hn
              obtain ⟨z1, z2, z3, z4⟩ := HA.out i n (by omega) (by rw [List.getElem?_eq_getElem hi, e])
              exact ⟨z1, z2, z3, z4⟩⟩
            have HF := Lib.hid hfin
            clear hfin
            by_cases hb10 : s.books.length ≤ 10
            · have hb10' : ¬ (10 : Int) < s.books.length := by omega
              have hdb : decide ((10 : Int) < s.books.length) = false := decide_eq_false hb10'
              have hdb' : decide (10 < s.books.length) = false := decide_eq_false (by omega)
              by_cases hn16 : s.notes.length ≤ 16
              · have hn16' : ¬ (16 : Int) < s.notes.length := by omega
                have hn16'' : (s.notes.length : Int) ≤ 16 := by omega
                have hlt' : ¬ (j : Int) < s.notes.length := by omega
                go_wp2_with fail
                go_ret
                exact ⟨gV, _, rfl, fun _ => HF.out hb10 hn16⟩
              · have hn16' : (16 : Int) < s.notes.length := by omega
                have hn16'' : ¬ (s.notes.length : Int) ≤ 16 := by omega
                by_cases hlt : j < s.notes.length
                · have hlt' : (j : Int) < s.notes.length := by omega
                  go_wp2_with fail
                  go_ret
                  exact ⟨gV, true, rfl, fun h => by cases h⟩
                · omega
            · omega
end Go.Proofs.YtgpjcgcecahddaaGreatDoor
set_option linter.unusedVariables false
set_option linter.unusedSimpArgs false
namespace Go.Proofs.YtgpjcgcecahddaaGreatDoor
open Go.RowKit Go.Lib
def OutC (S : Shelf) (E : Int) (w : World) (e : Ending) (w' : World) : Prop := ∃ xa xc ya yc, Grow w w' ∧ e = .returned (.tuple #[.agg #[.int .i64 S.nb, .int .i64 S.nn, .int .i64 S.ns, .slice xa S.books.length xc, .slice ya S.notes.length yc], .int .i64 E]) ∧ ShelfR w' S (.slice xa S.books.length xc) (.slice ya S.notes.length yc)
def OutM (S : Shelf) (N E : Int) (w : World) (e : Ending) (w' : World) : Prop := ∃ xa xc ya yc, Grow w w' ∧ e = .returned (.tuple #[.agg #[.int .i64 S.nb, .int .i64 S.nn, .int .i64 S.ns, .slice xa S.books.length xc, .slice ya S.notes.length yc], .int .i64 N, .int .i64 E]) ∧ ShelfR w' S (.slice xa S.books.length xc) (.slice ya S.notes.length yc)
theorem RetC.out {r : Res} {S : Shelf} {N E : Int} (hr : r = ⟨S, N, E⟩) {w w' : World} {e : Ending} (h : RetC r w e w') : OutC S E w e w' := by
  subst hr
  obtain ⟨g, bv, nv, Y, rfl, ho, hm⟩ := h
  obtain ⟨h1, h2⟩ := ho.reads
  rw [hm] at h2
  obtain ⟨xa, xc, rfl⟩ := h1.mk
  obtain ⟨ya, yc, rfl⟩ := h2.mk
  exact ⟨xa, xc, ya, yc, g, rfl, h1, h2⟩
theorem RetM.out {r : Res} {S : Shelf} {N E : Int} (hr : r = ⟨S, N, E⟩) {w w' : World} {e : Ending} (h : RetM r w e w') : OutM S N E w e w' := by
  subst hr
  obtain ⟨g, bv, nv, Y, rfl, ho, hm⟩ := h
  obtain ⟨h1, h2⟩ := ho.reads
  rw [hm] at h2
  obtain ⟨xa, xc, rfl⟩ := h1.mk
  obtain ⟨ya, yc, rfl⟩ := h2.mk
  exact ⟨xa, xc, ya, yc, g, rfl, h1, h2⟩
theorem res_mk (r : Res) : r = ⟨r.s, r.n, r.e⟩ := rfl
theorem zS_tame : TameS zS := ⟨⟨by simp [zS], by simp [zS], by simp [zS], by simp [zS]⟩, by simp [zS]⟩
theorem tame_res {e : Int} {s : Shelf} {n : Int} (h : e = 0 → MayP (resOf e s n).s) : TameS (resOf e s n).s := by
  by_cases h0 : e = 0
  · exact (h h0).tame
  · rw [resOf_no h0]; exact zS_tame
theorem make_tame (s : Shelf) (t : ByteArray) : TameS (makeR s t).s := tame_res make_may
theorem rename_tame (s : Shelf) (id : Int) (t : ByteArray) : TameS (renameR s id t).s := tame_res rename_may
theorem drop_tame (s : Shelf) (id : Int) : TameS (dropR s id).s := tame_res drop_may
theorem move_tame (s : Shelf) (id q : Int) : TameS (moveR s id q).s := tame_res move_may
theorem discard_tame (s : Shelf) (id : Int) : TameS (discardR s id).s := tame_res discard_may
theorem tag_tame (s : Shelf) (id : Int) (t : ByteArray) : TameS (tagR s id t).s := tame_res tag_may
theorem untag_tame (s : Shelf) (id : Int) (t : ByteArray) : TameS (untagR s id t).s := tame_res untag_may
theorem append_tame (s : Shelf) (id : Int) : TameS (appendR s id).s := tame_res append_may
theorem remove_tame (s : Shelf) (id k : Int) : TameS (removeR s id k).s := tame_res remove_may
/-- What Find answers, to a reader. -/
def foundB (s : Shelf) (id : Int) : Bool := decide (noteE s id = 0)
def foundN (s : Shelf) (id : Int) : Note := if noteE s id = 0 then noteOf s id else ⟨0, 0, ⟨#[]⟩, [], []⟩
def OutF (N : Note) (B : Bool) (w : World) (e : Ending) (w' : World) : Prop := ∃ ta tc sa sc, Grow w w' ∧ e = .returned (.tuple #[.agg #[.int .i64 N.id, .int .i64 N.book, .string N.name, .slice ta N.tags.length tc, .slice sa N.sheets.length sc], .bool B]) ∧ Texts w' (.slice ta N.tags.length tc) N.tags ∧ Ints w' (.slice sa N.sheets.length sc) N.sheets
theorem RetFind.out {s : Shelf} {id : Int} {N : Note} {B : Bool} (hN : foundN s id = N) (hB : foundB s id = B) {w w' : World} {e : Ending} (h : RetFind s id w e w') : OutF N B w e w' := by
  subst hN hB
  obtain ⟨g, ⟨x, bv, nv, Y, y, hm, h0, hx, rfl, ho, hmap, hy, rfl⟩ | ⟨hn, rfl⟩⟩ := h
  · have hE : noteE s id = 0 := noteE_zero.2 ⟨hm, h0⟩
    have hN : foundN s id = y.n := by
      unfold foundN
      rw [if_pos hE]
      have := (noteOf_get h0).1
      rw [hx] at this
      exact (Option.some.inj this).symm
    have hB : foundB s id = true := by unfold foundB; rw [hE]; rfl
    have hmem := List.mem_of_getElem? hy
    have h1 := row_texts (ho.tags y hmem)
    have h2 : Ints w' y.sv y.n.sheets := (ho.sheets y hmem).reads fun i x hx => by rw [Nat.mul_one, List.take_one, List.head?_drop, List.getElem?_map, hx]; rfl
    obtain ⟨ta, tc, e1⟩ := h1.mk
    obtain ⟨sa, sc, e2⟩ := h2.mk
    rw [OutF, hN, hB]
    rw [e1] at h1
    rw [e2] at h2
    exact ⟨ta, tc, sa, sc, g, by rw [e1, e2]; rfl, h1, h2⟩
  · have hE : noteE s id ≠ 0 := fun h => by
      obtain ⟨h1, h2⟩ := noteE_zero.1 h
      rcases hn with hn | hn
      · rw [hn] at h1; cases h1
      · omega
    have hN : foundN s id = ⟨0, 0, ⟨#[]⟩, [], []⟩ := if_neg hE
    have hB : foundB s id = false := decide_eq_false hE
    rw [OutF, hN, hB]
    exact ⟨none, 0, none, 0, g, rfl, Reads.nil, Reads.nil⟩
end Go.Proofs.YtgpjcgcecahddaaGreatDoor
set_option linter.unusedVariables false
set_option linter.unusedSimpArgs false
namespace Go.Proofs.YtgpjcgcecahddaaGreatDoor
open Go.RowKit Go.Lib
def tkB : ByteArray := ⟨#[98]⟩
def tkX : ByteArray := ⟨#[120]⟩
def tkY : ByteArray := ⟨#[121]⟩
def tkTo : ByteArray := ⟨#[116, 111, 32, 98, 101]⟩
def tkNot : ByteArray := ⟨#[110, 111, 116]⟩
def tw : Shelf := ⟨2, 3, 1, [⟨1, tkB⟩], [⟨1, 1, tkTo, [tkX], []⟩, ⟨2, 1, tkNot, [tkX, tkY], []⟩]⟩
theorem may_tw : mayS tw = true := by decide +kernel
theorem tame_tw : TameS tw := (mayS_iff.1 may_tw).tame
def qA : ByteArray := ⟨#[35, 120, 32, 33, 98, 101]⟩
def qB : ByteArray := ⟨#[97, 32, 32, 98]⟩
def qW : ByteArray := ⟨#[116, 111, 32, 98, 101, 32, 111, 114, 32, 110, 111, 116, 32, 116, 111, 32, 98, 101]⟩
def qM : ByteArray := ⟨#[97, 32, 35, 98, 32, 47, 99, 32, 33, 100]⟩
abbrev litA : List Item := [⟨2, tkNot⟩]
abbrev litT : List Item := [⟨2, tkX⟩, ⟨1, tkY⟩]
abbrev litW : List ByteArray := [⟨#[98, 101]⟩, ⟨#[110, 111, 116]⟩, ⟨#[111, 114]⟩, ⟨#[116, 111]⟩]
theorem terms_A : terms qA = some [⟨false, 1, tkX⟩, ⟨true, 0, ⟨#[98, 101]⟩⟩] := by kernel_rfl
theorem terms_B : terms qB = none := by kernel_rfl
theorem terms_M : (terms qM).isSome = true := by kernel_rfl
theorem findE_A : findE tw qA = 0 := findE_of (mayS_iff.1 may_tw) terms_A
theorem findI_A : findI tw qA = litA := by
  rw [findI_of (mayS_iff.1 may_tw) terms_A]
  kernel_rfl
theorem findE_B : findE tw qB = 5 := by unfold findE; rw [if_neg (by rw [may_tw]; simp), if_pos terms_B]
theorem noteE_1 : noteE tw 1 = 0 := by decide +kernel
theorem kinI_1 : kinI tw 1 = litA := by
  rw [kinI, if_pos noteE_1]
  kernel_rfl
theorem tagsI_1 : tagsI tw = litT := by
  rw [tagsI, if_pos may_tw]
  kernel_rfl
theorem words_W : words qW = litW := by kernel_rfl
theorem five_boxes (w : World) (o1 o2 o3 o4 o5 : Obj) : ((((((w.alloc o1).alloc o2).alloc o3).alloc o4).alloc o5).heap[w.heap.size + 1]? = some o2) ∧ ((((((w.alloc o1).alloc o2).alloc o3).alloc o4).alloc o5).heap[w.heap.size + 2]? = some o3) ∧ ((((((w.alloc o1).alloc o2).alloc o3).alloc o4).alloc o5).heap[w.heap.size + 3]? = some o4) ∧ ((((((w.alloc o1).alloc o2).alloc o3).alloc o4).alloc o5).heap[w.heap.size + 4]? = some o5) := by
  obtain ⟨-, h2, h3⟩ := three_boxes w o1 o2 o3
  obtain ⟨h4, h5⟩ := two_boxes2 (((w.alloc o1).alloc o2).alloc o3) o4 o5
  rw [show (((w.alloc o1).alloc o2).alloc o3).heap.size = w.heap.size + 3 by simp] at h4 h5
  exact ⟨(((Grow.refl _).alloc o4).alloc o5).blk h2, (((Grow.refl _).alloc o4).alloc o5).blk h3, h4, h5⟩
theorem two_reads {W : World} {b : Nat} (h1 : W.heap[b + 1]? = some (.cells #[.int .i64 1, .string tkB] 60 (0, 0))) (h2 : W.heap[b + 2]? = some (.cells #[.string tkX] 9 (0, 0))) (h3 : W.heap[b + 3]? = some (.cells #[.string tkX, .string tkY] 9 (0, 0)))
    (h4 : W.heap[b + 4]? = some (.cells #[.int .i64 1, .int .i64 1, .string tkTo, .slice (some ⟨b + 2, 0, none⟩) 1 1, .slice none 0 0, .int .i64 2, .int .i64 1, .string tkNot, .slice (some ⟨b + 3, 0, none⟩) 2 2, .slice none 0 0] 54 (0, 0))) :
    ShelfR W tw (.slice (some ⟨b + 1, 0, none⟩) 1 1) (.slice (some ⟨b + 4, 0, none⟩) 2 2) := by
  have t1 : Texts W (.slice (some ⟨b + 2, 0, none⟩) 1 1) [tkX] := ⟨_, _, rfl, by decide, fun _ => ⟨_, 0, rfl, (Array.getElem?_eq_some_iff.1 h2).1, fun i hi => ⟨[.string tkX], rfl, fun x hx => by
      obtain rfl : i = 0 := by have : [tkX].length = 1 := rfl; omega
      obtain rfl := Option.some.inj hx
      rfl, fun j v hj => by
      obtain rfl : i = 0 := by have : [tkX].length = 1 := rfl; omega
      rw [cell_of_row W _ _ _ _ _ h2]
      simpa using hj⟩⟩⟩
  have t2 : Texts W (.slice (some ⟨b + 3, 0, none⟩) 2 2) [tkX, tkY] := ⟨_, _, rfl, by decide, fun _ => ⟨_, 0, rfl, (Array.getElem?_eq_some_iff.1 h3).1, fun i hi => by
      have h2 : [tkX, tkY].length = 2 := rfl
      rcases (by omega : i = 0 ∨ i = 1) with rfl | rfl
      · exact ⟨[.string tkX], rfl, fun x hx => by obtain rfl := Option.some.inj hx; rfl, fun j v hj => by
          rw [cell_of_row W _ _ _ _ _ h3]
          match j, hj with
          | 0, hj => simpa using hj⟩
      · exact ⟨[.string tkY], rfl, fun x hx => by obtain rfl := Option.some.inj hx; rfl, fun j v hj => by
          rw [cell_of_row W _ _ _ _ _ h3]
          match j, hj with
          | 0, hj => simpa using hj⟩⟩⟩
  refine ⟨⟨_, _, rfl, by decide, fun _ => ⟨_, 0, rfl, (Array.getElem?_eq_some_iff.1 h1).1, fun i hi => ⟨bookC ⟨1, tkB⟩, rfl, fun x hx => ?_, fun j v hj => ?_⟩⟩⟩, ⟨_, _, rfl, by decide, fun _ => ⟨_, 0, rfl, (Array.getElem?_eq_some_iff.1 h4).1, fun i hi => ?_⟩⟩⟩
  · obtain rfl : i = 0 := by have : tw.books.length = 1 := rfl; omega
    obtain rfl := Option.some.inj hx
    rfl
  · obtain rfl : i = 0 := by have : tw.books.length = 1 := rfl; omega
    rw [cell_of_row W _ _ _ _ _ h1]
    simpa using hj
  · have h2 : tw.notes.length = 2 := rfl
    rcases (by omega : i = 0 ∨ i = 1) with rfl | rfl
    · refine ⟨[.int .i64 1, .int .i64 1, .string tkTo, .slice (some ⟨b + 2, 0, none⟩) 1 1, .slice none 0 0], rfl, fun x hx => ?_, fun j v hj => ?_⟩
      · obtain rfl := Option.some.inj hx
        exact ⟨_, _, rfl, t1, Reads.nil⟩
      · rw [cell_of_row W _ _ _ _ _ h4]
        match j, hj with
        | 0, hj => simpa using hj
        | 1, hj => simpa using hj
        | 2, hj => simpa using hj
        | 3, hj => simpa using hj
        | 4, hj => simpa using hj
    · refine ⟨[.int .i64 2, .int .i64 1, .string tkNot, .slice (some ⟨b + 3, 0, none⟩) 2 2, .slice none 0 0], rfl, fun x hx => ?_, fun j v hj => ?_⟩
      · obtain rfl := Option.some.inj hx
        exact ⟨_, _, rfl, t2, Reads.nil⟩
      · rw [cell_of_row W _ _ _ _ _ h4]
        match j, hj with
        | 0, hj => simpa using hj
        | 1, hj => simpa using hj
        | 2, hj => simpa using hj
        | 3, hj => simpa using hj
        | 4, hj => simpa using hj
set_option maxRecDepth 100000 in
theorem two_any (w : World) : Calls Tryz.prog 34 #[] w fun e w' => ∃ xa xc ya yc, Grow w w' ∧ e = .returned (.agg #[.int .i64 2, .int .i64 3, .int .i64 1, .slice xa 1 xc, .slice ya 2 yc]) ∧ ShelfR w' tw (.slice xa 1 xc) (.slice ya 2 yc) := by
  go_enter Tryz.func34, Tryz.ntmps34
  go_wp2_with fail
  refine bodyPost_ret (v := .agg #[.int .i64 2, .int .i64 3, .int .i64 1, .slice (some ⟨w.heap.size + 1, 0, none⟩) 1 1, .slice (some ⟨w.heap.size + 4, 0, none⟩) 2 2]) ?_ rfl ?_
  · rw [results_cell rfl]
    go_simp
  · have key : ∀ W, Grow w W → W.heap[w.heap.size + 1]? = some (.cells #[.int .i64 1, .string tkB] 60 (0, 0)) → W.heap[w.heap.size + 2]? = some (.cells #[.string tkX] 9 (0, 0)) → W.heap[w.heap.size + 3]? = some (.cells #[.string tkX, .string tkY] 9 (0, 0)) →
        W.heap[w.heap.size + 4]? = some (.cells #[.int .i64 1, .int .i64 1, .string tkTo, .slice (some ⟨w.heap.size + 2, 0, none⟩) 1 1, .slice none 0 0, .int .i64 2, .int .i64 1, .string tkNot, .slice (some ⟨w.heap.size + 3, 0, none⟩) 2 2, .slice none 0 0] 54 (0, 0)) →
        ∃ xa xc ya yc, Grow w W ∧ Ending.returned (.agg #[.int .i64 2, .int .i64 3, .int .i64 1, .slice (some ⟨w.heap.size + 1, 0, none⟩) 1 1, .slice (some ⟨w.heap.size + 4, 0, none⟩) 2 2]) = .returned (.agg #[.int .i64 2, .int .i64 3, .int .i64 1, .slice xa 1 xc, .slice ya 2 yc]) ∧ ShelfR W tw (.slice xa 1 xc) (.slice ya 2 yc) := fun W g k1 k2 k3 k4 => ⟨_, _, _, _, g, rfl, two_reads k1 k2 k3 k4⟩
    exact key _ ((((((Grow.refl w).alloc _).alloc _).alloc _).alloc _).alloc _) (five_boxes w _ _ _ _ _).1 (five_boxes w _ _ _ _ _).2.1 (five_boxes w _ _ _ _ _).2.2.1 (five_boxes w _ _ _ _ _).2.2.2
end Go.Proofs.YtgpjcgcecahddaaGreatDoor
set_option linter.unusedVariables false
set_option linter.unusedSimpArgs false
namespace Go.Proofs.YtgpjcgcecahddaaGreatDoor
open Go.RowKit Go.Lib
def noB (c : UInt8) : Bool := c != 32
/-- What a term's text, and what stands behind it, come to. -/
def fin (tr : Bool) (kd : Int) (r : List UInt8) : Option (List Term) :=
  if r.takeWhile noB = [] then none else match r.dropWhile noB with
    | [] => some [⟨tr, kd, bytesB (r.takeWhile noB)⟩]
    | _ :: r' => (termsL (partsL r')).map fun l => ⟨tr, kd, bytesB (r.takeWhile noB)⟩ :: l
theorem partsL_span : ∀ r : List UInt8, partsL r = r.takeWhile noB :: (match r.dropWhile noB with | [] => [] | _ :: r' => partsL r')
  | [] => rfl
  | c :: r => by
    rw [partsL]
    by_cases h : c = 32
    · subst h; rfl
    · have hb : noB c = true := by unfold noB; simpa using h
      rw [if_neg h, partsL_span r, List.takeWhile_cons_of_pos hb, List.dropWhile_cons_of_pos hb]
def cont (r : List UInt8) : Option Term → Option (List Term)
  | none => none
  | some t => match r with
    | [] => some [t]
    | _ :: r' => (termsL (partsL r')).map fun l => t :: l
theorem termsL_span (r : List UInt8) : termsL (partsL r) = cont (r.dropWhile noB) (termL (r.takeWhile noB)) := by
  rw [partsL_span, termsL]
  cases termL (r.takeWhile noB) with
  | none => rfl
  | some t =>
    cases r.dropWhile noB with
    | nil => rfl
    | cons c r' => simp only [cont]; cases termsL (partsL r') <;> rfl
theorem fin_of {tr : Bool} {kd : Int} {r : List UInt8} {o : Option Term} (h : o = if r.takeWhile noB = [] then none else some ⟨tr, kd, bytesB (r.takeWhile noB)⟩) : cont (r.dropWhile noB) o = fin tr kd r := by
  subst h
  unfold fin
  by_cases h : r.takeWhile noB = []
  · rw [if_pos h, if_pos h]; rfl
  · rw [if_neg h, if_neg h]; cases r.dropWhile noB <;> rfl
/-- Behind a '!', or without one. -/
def begB (tr : Bool) : List UInt8 → Option (List Term)
  | [] => none
  | c :: r => if c = 35 then fin tr 1 r else if c = 47 then fin tr 2 r else fin tr 0 (c :: r)
theorem takeW (c : UInt8) (r : List UInt8) (h : c ≠ 32) : (c :: r).takeWhile noB = c :: r.takeWhile noB ∧ (c :: r).dropWhile noB = r.dropWhile noB := by
  have hb : noB c = true := by unfold noB; simpa using h
  exact ⟨List.takeWhile_cons_of_pos hb, List.dropWhile_cons_of_pos hb⟩
theorem beg_plain {c : UInt8} {r : List UInt8} (h : c ≠ 33) : termsL (partsL (c :: r)) = begB false (c :: r) := by
  rw [termsL_span, begB]
  by_cases h1 : c = 35
  · subst h1
    obtain ⟨e1, e2⟩ := takeW 35 r (by decide)
    rw [if_pos rfl, e1, e2]
    refine fin_of ?_
    rw [termL, if_neg (by decide), bare, if_neg (by decide), if_pos rfl]
  by_cases h2 : c = 47
  · subst h2
    obtain ⟨e1, e2⟩ := takeW 47 r (by decide)
    rw [if_neg (by decide), if_pos rfl, e1, e2]
    refine fin_of ?_
    rw [termL, if_neg (by decide), bare, if_neg (by decide), if_neg (by decide), if_pos rfl]
  rw [if_neg h1, if_neg h2]
  refine fin_of ?_
  by_cases h3 : c = 32
  · subst h3; rfl
  · obtain ⟨e1, e2⟩ := takeW c r h3
    rw [e1, termL, if_neg h, bare, if_neg h, if_neg h1, if_neg h2, if_neg (by simp)]
theorem beg_nil : termsL (partsL []) = none := rfl
theorem beg_turn_nil : termsL (partsL [33]) = none := by decide
theorem beg_turn {c : UInt8} {r : List UInt8} (h : c ≠ 33) : termsL (partsL (33 :: c :: r)) = begB true (c :: r) := by
  obtain ⟨e1, e2⟩ := takeW 33 (c :: r) (by decide)
  rw [termsL_span, begB, e1, e2]
  by_cases h1 : c = 35
  · subst h1
    obtain ⟨e1, e2⟩ := takeW 35 r (by decide)
    rw [if_pos rfl, e1, e2]
    refine fin_of ?_
    rw [termL, if_pos rfl, bare, if_neg (by decide), if_pos rfl]
  by_cases h2 : c = 47
  · subst h2
    obtain ⟨e1, e2⟩ := takeW 47 r (by decide)
    rw [if_neg (by decide), if_pos rfl, e1, e2]
    refine fin_of ?_
    rw [termL, if_pos rfl, bare, if_neg (by decide), if_neg (by decide), if_pos rfl]
  rw [if_neg h1, if_neg h2]
  refine fin_of ?_
  by_cases h3 : c = 32
  · subst h3; rfl
  · obtain ⟨e1, e2⟩ := takeW c r h3
    rw [e1, termL, if_pos rfl, bare, if_neg h, if_neg h1, if_neg h2, if_neg (by simp)]
theorem beg_twice (r : List UInt8) : termsL (partsL (33 :: 33 :: r)) = none := by
  obtain ⟨e1, e2⟩ := takeW 33 (33 :: r) (by decide)
  obtain ⟨e3, e4⟩ := takeW 33 r (by decide)
  rw [termsL_span, e1, e3]; rfl
/-- Texts that are gone through. -/
theorem take_word {a b : List UInt8} (h : 32 ∉ a) : (a ++ b).takeWhile noB = a ++ b.takeWhile noB ∧ (a ++ b).dropWhile noB = b.dropWhile noB := by
  induction a with
  | nil => exact ⟨rfl, rfl⟩
  | cons c a ih =>
    obtain ⟨h1, h2⟩ := ih fun e => h (List.mem_cons_of_mem _ e)
    obtain ⟨e1, e2⟩ := takeW c (a ++ b) (fun e => h (by rw [e]; simp))
    rw [List.cons_append, e1, e2, h1, h2]; exact ⟨rfl, rfl⟩
/-- A term that ends where all ends. -/
theorem fin_end {tr : Bool} {kd : Int} {a : List UInt8} (h : 32 ∉ a) (h0 : a ≠ []) : fin tr kd a = some [⟨tr, kd, bytesB a⟩] := by
  obtain ⟨h1, h2⟩ := take_word (b := []) h
  rw [List.append_nil] at h1 h2
  have e : a.takeWhile noB = a := by rw [h1]; simp
  unfold fin
  rw [e, h2, if_neg h0]; rfl
/-- A term that ends at a blank. -/
theorem fin_more {tr : Bool} {kd : Int} {a b : List UInt8} (h : 32 ∉ a) (h0 : a ≠ []) : fin tr kd (a ++ 32 :: b) = (termsL (partsL b)).map fun l => ⟨tr, kd, bytesB a⟩ :: l := by
  obtain ⟨h1, h2⟩ := take_word (b := 32 :: b) h
  have e : (a ++ 32 :: b).takeWhile noB = a := by rw [h1]; show a ++ [] = a; simp
  have e2 : (a ++ 32 :: b).dropWhile noB = 32 :: b := by rw [h2]; rfl
  unfold fin
  rw [e, e2, if_neg h0]
theorem fin_none {tr : Bool} {kd : Int} {b : List UInt8} : fin tr kd [] = none ∧ fin tr kd (32 :: b) = none := ⟨rfl, rfl⟩
end Go.Proofs.YtgpjcgcecahddaaGreatDoor
set_option linter.unusedVariables false
set_option linter.unusedSimpArgs false
namespace Go.Proofs.YtgpjcgcecahddaaGreatDoor
section
variable {P : Program} {Q : Exit → Act → World → Prop}
/-- By a goto: J of its label; else Q. -/
def Exit.jumps (J : Nat → Act → World → Prop) (Q : Exit → Act → World → Prop) : Exit → Act → World → Prop
  | .goto l, a, w => J l a w
  | e, a, w => Q e a w
/-- Behind a jump to label l, of at most n jumps more. -/
def wpJ (P : Program) (c : Code) (Q : Exit → Act → World → Prop) : Nat → Nat → Act → World → Prop
  | 0, _, _, _ => False
  | n + 1, l, a, w => ∃ rest, findLabel c l = some rest ∧ rest.wp P (Exit.jumps (wpJ P c Q n) Q) a w
theorem wp_scope_fuel {c : Code} (n : Nat) {a : Act} {w : World} (first : c.wp P (Exit.jumps (wpJ P c Q n) Q) a w) : (Code.scope c).wp P Q a w := by
  intro b k cs
  have key : ∀ (n l : Nat) (a : Act) (w : World), wpJ P c Q n l a w → ∃ rest, findLabel c l = some rest ∧ ∃ e a' w', Q e a' w' ∧ Arrives P (lone (b.at a (.code rest :: .inScope c :: k)) cs w) b k cs e a' w' := by
    intro n
    induction n with
    | zero => intro l a w h; exact h.elim
    | succ n ih =>
      rintro l a w ⟨rest, hf, hw⟩
      refine ⟨rest, hf, ?_⟩
      obtain ⟨e, a₁, w₁, hq, harr⟩ := hw b (.inScope c :: k) cs
      cases e with
      | normal => exact ⟨.normal, a₁, w₁, hq, Steps.trans harr (.one step_inScope)⟩
      | exit id => exact ⟨.exit id, a₁, w₁, hq, fun k' hk => harr k' (by simp [exitTo, hk])⟩
      | goto l' =>
        obtain ⟨rest', hf', e₂, a₂, w₂, hq₂, harr₂⟩ := ih l' a₁ w₁ hq
        have hg : gotoIn l' (.inScope c :: k) = some (.code rest' :: .inScope c :: k) := by simp [gotoIn, hf']
        exact ⟨e₂, a₂, w₂, hq₂, .of_steps (harr _ hg) harr₂⟩
      | ret => exact ⟨_, a₁, w₁, hq, harr⟩
      | panic ch => exact ⟨_, a₁, w₁, hq, harr⟩
      | outgrown => exact ⟨_, a₁, w₁, hq, harr⟩
  obtain ⟨e, a₁, w₁, hq, harr⟩ := first b (.inScope c :: k) cs
  cases e with
  | normal => exact ⟨.normal, a₁, w₁, hq, .head step_scope (Steps.trans harr (.one step_inScope))⟩
  | exit id => exact ⟨.exit id, a₁, w₁, hq, fun k' hk => .head step_scope (harr k' (by simp [exitTo, hk]))⟩
  | goto l' =>
    obtain ⟨rest', hf', e₂, a₂, w₂, hq₂, harr₂⟩ := key n l' a₁ w₁ hq
    have hg : gotoIn l' (.inScope c :: k) = some (.code rest' :: .inScope c :: k) := by simp [gotoIn, hf']
    exact ⟨e₂, a₂, w₂, hq₂, .of_steps (.head step_scope (harr _ hg)) harr₂⟩
  | ret => exact ⟨_, a₁, w₁, hq, .of_steps (.one step_scope) harr⟩
  | panic ch => exact ⟨_, a₁, w₁, hq, .of_steps (.one step_scope) harr⟩
  | outgrown => exact ⟨_, a₁, w₁, hq, .of_steps (.one step_scope) harr⟩
@[go_sem] theorem Exit.jumps_normal {J : Nat → Act → World → Prop} {a : Act} {w : World} : Exit.jumps J Q .normal a w = Q .normal a w := rfl
@[go_sem] theorem Exit.jumps_exit {J : Nat → Act → World → Prop} {a : Act} {w : World} (id : Nat) : Exit.jumps J Q (.exit id) a w = Q (.exit id) a w := rfl
@[go_sem] theorem Exit.jumps_ret {J : Nat → Act → World → Prop} {a : Act} {w : World} : Exit.jumps J Q .ret a w = Q .ret a w := rfl
@[go_sem] theorem Exit.jumps_panic {J : Nat → Act → World → Prop} {a : Act} {w : World} (ch : List PanicEntry) : Exit.jumps J Q (.panic ch) a w = Q (.panic ch) a w := rfl
@[go_sem] theorem Exit.jumps_goto {J : Nat → Act → World → Prop} {a : Act} {w : World} (l : Nat) : Exit.jumps J Q (.goto l) a w = J l a w := rfl
end
end Go.Proofs.YtgpjcgcecahddaaGreatDoor
set_option linter.unusedVariables false
set_option linter.unusedSimpArgs false
namespace Go.Proofs.YtgpjcgcecahddaaGreatDoor
section
variable {P : Program} {Q : Exit → Act → World → Prop}
/-- Behind a jump to label l: back to l1 or l2, or ahead. -/
def Jmp (P : Program) (c : Code) (Q : Exit → Act → World → Prop) (l1 l2 : Nat) (J1 J2 : Act → World → Prop) (l : Nat) (a : Act) (w : World) : Prop :=
  (l = l1 ∧ J1 a w) ∨ (l = l2 ∧ J2 a w) ∨ wpJ P c Q 3 l a w
theorem wpJ_arrives {c : Code} {b : Frame} {k : List Go.Item} {cs : List Frame} : ∀ (n l : Nat) (a : Act) (w : World), wpJ P c Q n l a w → ∃ rest, findLabel c l = some rest ∧ ∃ e a' w', Q e a' w' ∧ Arrives P (lone (b.at a (.code rest :: .inScope c :: k)) cs w) b k cs e a' w' := by
  intro n
  induction n with
  | zero => intro l a w h; exact h.elim
  | succ n ih =>
    rintro l a w ⟨rest, hf, hw⟩
    refine ⟨rest, hf, ?_⟩
    obtain ⟨e, a₁, w₁, hq, harr⟩ := hw b (.inScope c :: k) cs
    cases e with
    | normal => exact ⟨.normal, a₁, w₁, hq, Steps.trans harr (.one step_inScope)⟩
    | exit id => exact ⟨.exit id, a₁, w₁, hq, fun k' hk => harr k' (by simp [exitTo, hk])⟩
    | goto l' =>
      obtain ⟨rest', hf', e₂, a₂, w₂, hq₂, harr₂⟩ := ih l' a₁ w₁ hq
      have hg : gotoIn l' (.inScope c :: k) = some (.code rest' :: .inScope c :: k) := by simp [gotoIn, hf']
      exact ⟨e₂, a₂, w₂, hq₂, .of_steps (harr _ hg) harr₂⟩
    | ret => exact ⟨_, a₁, w₁, hq, harr⟩
    | panic ch => exact ⟨_, a₁, w₁, hq, harr⟩
    | outgrown => exact ⟨_, a₁, w₁, hq, harr⟩
theorem wp_scope_two {c : Code} {a : Act} {w : World} (l1 l2 : Nat) (I1 I2 : Nat → Act → World → Prop)
    (h2 : ∀ m a w, I2 m a w → ∃ rest, findLabel c l2 = some (Code.skip.seq rest) ∧ rest.wp P (Exit.jumps (Jmp P c Q l1 l2 (fun _ _ => False) (fun a w => ∃ m', m' < m ∧ I2 m' a w)) Q) a w)
    (h1 : (∀ m a w, I2 m a w → ∃ rest, findLabel c l2 = some (Code.skip.seq rest) ∧ ∀ J1 : Act → World → Prop, rest.wp P (Exit.jumps (Jmp P c Q l1 l2 J1 (fun a w => ∃ m', I2 m' a w)) Q) a w) → ∀ m a w, I1 m a w → ∃ rest, findLabel c l1 = some (Code.skip.seq rest) ∧ rest.wp P (Exit.jumps (Jmp P c Q l1 l2 (fun a w => ∃ m', m' < m ∧ I1 m' a w) (fun a w => ∃ m', I2 m' a w)) Q) a w)
    (first : (∀ m a w, I1 m a w → ∃ rest, findLabel c l1 = some (Code.skip.seq rest) ∧ rest.wp P (Exit.jumps (Jmp P c Q l1 l2 (fun a w => ∃ m', I1 m' a w) (fun a w => ∃ m', I2 m' a w)) Q) a w) → c.wp P (Exit.jumps (Jmp P c Q l1 l2 (fun a w => ∃ m', I1 m' a w) (fun a w => ∃ m', I2 m' a w)) Q) a w) :
    (Code.scope c).wp P Q a w := by
  have mono : ∀ {J1 J1' J2 J2' : Act → World → Prop} (g1 : ∀ a w, J1 a w → J1' a w) (g2 : ∀ a w, J2 a w → J2' a w) {r : Code} {a : Act} {w : World}, r.wp P (Exit.jumps (Jmp P c Q l1 l2 J1 J2) Q) a w → r.wp P (Exit.jumps (Jmp P c Q l1 l2 J1' J2') Q) a w := by
    intro J1 J1' J2 J2' g1 g2 r a w h
    refine Code.wp_mono (fun e a w q => ?_) h
    cases e with
    | goto l =>
      rcases q with ⟨e, q⟩ | ⟨e, q⟩ | q
      · exact .inl ⟨e, g1 _ _ q⟩
      · exact .inr (.inl ⟨e, g2 _ _ q⟩)
      · exact .inr (.inr q)
    | _ => exact q
  have h1' := h1 fun m a w h => by
    obtain ⟨rest, hf, hw⟩ := h2 m a w h
    exact ⟨rest, hf, fun J1 => mono (fun _ _ h => h.elim) (fun _ _ ⟨m', _, h⟩ => ⟨m', h⟩) hw⟩
  have hfirst := first fun m a w h => by
    obtain ⟨rest, hf, hw⟩ := h1' m a w h
    exact ⟨rest, hf, mono (fun _ _ ⟨m', _, h⟩ => ⟨m', h⟩) (fun _ _ h => h) hw⟩
  intro b k cs
  have tail : ∀ (l : Nat) (rest : Code) (a : Act) (w : World) (J : Nat → Act → World → Prop), rest.wp P (Exit.jumps J Q) a w → (∀ l' a' w', J l' a' w' → ∃ rest', findLabel c l' = some rest' ∧ ∃ e a'' w'', Q e a'' w'' ∧ Arrives P (lone (b.at a' (.code rest' :: .inScope c :: k)) cs w') b k cs e a'' w'') →
      ∃ e a' w', Q e a' w' ∧ Arrives P (lone (b.at a (.code rest :: .inScope c :: k)) cs w) b k cs e a' w' := by
    intro l rest a w J hw hJ
    obtain ⟨e, a₁, w₁, hq, harr⟩ := hw b (.inScope c :: k) cs
    cases e with
    | normal => exact ⟨.normal, a₁, w₁, hq, Steps.trans harr (.one step_inScope)⟩
    | exit id => exact ⟨.exit id, a₁, w₁, hq, fun k' hk => harr k' (by simp [exitTo, hk])⟩
    | goto l' =>
      obtain ⟨rest', hf', e₂, a₂, w₂, hq₂, harr₂⟩ := hJ l' a₁ w₁ hq
      have hg : gotoIn l' (.inScope c :: k) = some (.code rest' :: .inScope c :: k) := by simp [gotoIn, hf']
      exact ⟨e₂, a₂, w₂, hq₂, .of_steps (harr _ hg) harr₂⟩
    | ret => exact ⟨_, a₁, w₁, hq, harr⟩
    | panic ch => exact ⟨_, a₁, w₁, hq, harr⟩
    | outgrown => exact ⟨_, a₁, w₁, hq, harr⟩
  have key2 : ∀ m a w, I2 m a w → ∃ rest, findLabel c l2 = some rest ∧ ∃ e a' w', Q e a' w' ∧ Arrives P (lone (b.at a (.code rest :: .inScope c :: k)) cs w) b k cs e a' w' := by
    intro m
    induction m using Nat.strongRecOn with
    | ind m ih =>
      intro a w h
      obtain ⟨rest, hf, hw⟩ := h2 m a w h
      refine ⟨_, hf, tail l2 _ a w _ (wp_seq (wp_skip hw)) fun l' a' w' hj => ?_⟩
      rcases hj with ⟨-, q⟩ | ⟨rfl, m', hm, q⟩ | q
      · exact q.elim
      · exact ih m' hm a' w' q
      · exact wpJ_arrives 3 l' a' w' q
  have key1 : ∀ m a w, I1 m a w → ∃ rest, findLabel c l1 = some rest ∧ ∃ e a' w', Q e a' w' ∧ Arrives P (lone (b.at a (.code rest :: .inScope c :: k)) cs w) b k cs e a' w' := by
    intro m
    induction m using Nat.strongRecOn with
    | ind m ih =>
      intro a w h
      obtain ⟨rest, hf, hw⟩ := h1' m a w h
      refine ⟨_, hf, tail l1 _ a w _ (wp_seq (wp_skip hw)) fun l' a' w' hj => ?_⟩
      rcases hj with ⟨rfl, m', hm, q⟩ | ⟨rfl, m', q⟩ | q
      · exact ih m' hm a' w' q
      · exact key2 m' a' w' q
      · exact wpJ_arrives 3 l' a' w' q
  obtain ⟨e, a₁, w₁, hq, harr⟩ := tail 0 c a w _ hfirst fun l' a' w' hj => by
    rcases hj with ⟨rfl, m', q⟩ | ⟨rfl, m', q⟩ | q
    · exact key1 m' a' w' q
    · exact key2 m' a' w' q
    · exact wpJ_arrives 3 l' a' w' q
  exact ⟨e, a₁, w₁, hq, .of_steps (.one step_scope) harr⟩
/-- A label that is come to from above. -/
theorem fall {c r : Code} {l1 l2 : Nat} {J1 J2 : Act → World → Prop} {I2 : Nat → Act → World → Prop} (H : ∀ m a w, I2 m a w → ∃ rest, findLabel c l2 = some (Code.skip.seq rest) ∧ ∀ J1 : Act → World → Prop, rest.wp P (Exit.jumps (Jmp P c Q l1 l2 J1 J2) Q) a w) (hf : findLabel c l2 = some (Code.skip.seq r)) {m : Nat} {a : Act} {w : World} (hi : I2 m a w) : r.wp P (Exit.jumps (Jmp P c Q l1 l2 J1 J2) Q) a w := by
  obtain ⟨rest, h1, h2⟩ := H m a w hi
  rw [hf] at h1
  injection h1 with h1
  injection h1 with h3 h4
  rw [h4]; exact h2 J1
theorem fall1 {c r : Code} {l1 l2 : Nat} {J1 J2 : Act → World → Prop} {I1 : Nat → Act → World → Prop} (H : ∀ m a w, I1 m a w → ∃ rest, findLabel c l1 = some (Code.skip.seq rest) ∧ rest.wp P (Exit.jumps (Jmp P c Q l1 l2 J1 J2) Q) a w) (hf : findLabel c l1 = some (Code.skip.seq r)) {m : Nat} {a : Act} {w : World} (hi : I1 m a w) : r.wp P (Exit.jumps (Jmp P c Q l1 l2 J1 J2) Q) a w := by
  obtain ⟨rest, h1, h2⟩ := H m a w hi
  rw [hf] at h1
  injection h1 with h1
  injection h1 with h3 h4
  rw [h4]; exact h2
theorem Jmp.one {c : Code} {l1 l2 : Nat} {J1 J2 : Act → World → Prop} {a : Act} {w : World} (h : J1 a w) : Jmp P c Q l1 l2 J1 J2 l1 a w := .inl ⟨rfl, h⟩
theorem Jmp.two {c : Code} {l1 l2 : Nat} {J1 J2 : Act → World → Prop} {a : Act} {w : World} (h : J2 a w) : Jmp P c Q l1 l2 J1 J2 l2 a w := .inr (.inl ⟨rfl, h⟩)
theorem Jmp.far {c : Code} {l1 l2 l : Nat} {J1 J2 : Act → World → Prop} {a : Act} {w : World} (h : wpJ P c Q 3 l a w) : Jmp P c Q l1 l2 J1 J2 l a w := .inr (.inr h)
end
end Go.Proofs.YtgpjcgcecahddaaGreatDoor
set_option linter.unusedVariables false
set_option linter.unusedSimpArgs false
namespace Go.Proofs.YtgpjcgcecahddaaGreatDoor
section
variable {P : Program} {Q : Exit → Act → World → Prop}
/-- Behind a jump to label l: by I at less than m, or ahead. -/
def JL (P : Program) (c : Code) (Q : Exit → Act → World → Prop) (I : Nat → Nat → Act → World → Prop) (m : Nat) (l : Nat) (a : Act) (w : World) : Prop := (∃ m', m' < m ∧ I m' l a w) ∨ wpJ P c Q 3 l a w
theorem JL.mono {c : Code} {I : Nat → Nat → Act → World → Prop} {m m' : Nat} (hm : m ≤ m') {r : Code} {a : Act} {w : World} (h : r.wp P (Exit.jumps (JL P c Q I m) Q) a w) : r.wp P (Exit.jumps (JL P c Q I m') Q) a w := by
  refine Code.wp_mono (fun e a w q => ?_) h
  cases e with
  | goto l =>
    rcases q with ⟨k, hk, q⟩ | q
    · exact .inl ⟨k, by omega, q⟩
    · exact .inr q
  | _ => exact q
theorem wp_scope_ind {c : Code} {a : Act} {w : World} (I : Nat → Nat → Act → World → Prop)
    (step : ∀ m, (∀ m' l a w, m' < m → I m' l a w → ∃ rest, findLabel c l = some (Code.skip.seq rest) ∧ rest.wp P (Exit.jumps (JL P c Q I m) Q) a w) → ∀ l a w, I m l a w → ∃ rest, findLabel c l = some (Code.skip.seq rest) ∧ rest.wp P (Exit.jumps (JL P c Q I m) Q) a w)
    (M : Nat) (first : (∀ m' l a w, m' < M → I m' l a w → ∃ rest, findLabel c l = some (Code.skip.seq rest) ∧ rest.wp P (Exit.jumps (JL P c Q I M) Q) a w) → c.wp P (Exit.jumps (JL P c Q I M) Q) a w) :
    (Code.scope c).wp P Q a w := by
  have H : ∀ m l a w, I m l a w → ∃ rest, findLabel c l = some (Code.skip.seq rest) ∧ rest.wp P (Exit.jumps (JL P c Q I m) Q) a w := by
    intro m
    induction m using Nat.strongRecOn with
    | ind m ih =>
      intro l a w h
      refine step m (fun m' l' a' w' hm h' => ?_) l a w h
      obtain ⟨rest, hf, hw⟩ := ih m' hm l' a' w' h'
      exact ⟨rest, hf, JL.mono (by omega) hw⟩
  have hfirst := first fun m' l a w hm h => by
    obtain ⟨rest, hf, hw⟩ := H m' l a w h
    exact ⟨rest, hf, JL.mono (by omega) hw⟩
  intro b k cs
  have tail : ∀ (rest : Code) (a : Act) (w : World) (J : Nat → Act → World → Prop), rest.wp P (Exit.jumps J Q) a w → (∀ l' a' w', J l' a' w' → ∃ rest', findLabel c l' = some rest' ∧ ∃ e a'' w'', Q e a'' w'' ∧ Arrives P (lone (b.at a' (.code rest' :: .inScope c :: k)) cs w') b k cs e a'' w'') →
      ∃ e a' w', Q e a' w' ∧ Arrives P (lone (b.at a (.code rest :: .inScope c :: k)) cs w) b k cs e a' w' := by
    intro rest a w J hw hJ
    obtain ⟨e, a₁, w₁, hq, harr⟩ := hw b (.inScope c :: k) cs
    cases e with
    | normal => exact ⟨.normal, a₁, w₁, hq, Steps.trans harr (.one step_inScope)⟩
    | exit id => exact ⟨.exit id, a₁, w₁, hq, fun k' hk => harr k' (by simp [exitTo, hk])⟩
    | goto l' =>
      obtain ⟨rest', hf', e₂, a₂, w₂, hq₂, harr₂⟩ := hJ l' a₁ w₁ hq
      have hg : gotoIn l' (.inScope c :: k) = some (.code rest' :: .inScope c :: k) := by simp [gotoIn, hf']
      exact ⟨e₂, a₂, w₂, hq₂, .of_steps (harr _ hg) harr₂⟩
    | ret => exact ⟨_, a₁, w₁, hq, harr⟩
    | panic ch => exact ⟨_, a₁, w₁, hq, harr⟩
    | outgrown => exact ⟨_, a₁, w₁, hq, harr⟩
  have key : ∀ m l a w, I m l a w → ∃ rest, findLabel c l = some rest ∧ ∃ e a' w', Q e a' w' ∧ Arrives P (lone (b.at a (.code rest :: .inScope c :: k)) cs w) b k cs e a' w' := by
    intro m
    induction m using Nat.strongRecOn with
    | ind m ih =>
      intro l a w h
      obtain ⟨rest, hf, hw⟩ := H m l a w h
      refine ⟨_, hf, tail _ a w _ (wp_seq (wp_skip hw)) fun l' a' w' hj => ?_⟩
      rcases hj with ⟨m', hm, q⟩ | q
      · exact ih m' hm l' a' w' q
      · exact wpJ_arrives 3 l' a' w' q
  obtain ⟨e, a₁, w₁, hq, harr⟩ := tail c a w _ hfirst fun l' a' w' hj => by
    rcases hj with ⟨m', hm, q⟩ | q
    · exact key m' l' a' w' q
    · exact wpJ_arrives 3 l' a' w' q
  exact ⟨e, a₁, w₁, hq, .of_steps (.one step_scope) harr⟩
/-- A label that is come to from above. -/
theorem fallI {c r : Code} {I : Nat → Nat → Act → World → Prop} {m M l : Nat} (H : ∀ m' l a w, m' < M → I m' l a w → ∃ rest, findLabel c l = some (Code.skip.seq rest) ∧ rest.wp P (Exit.jumps (JL P c Q I M) Q) a w) (hm : m < M) (hf : findLabel c l = some (Code.skip.seq r)) {a : Act} {w : World} (hi : I m l a w) : r.wp P (Exit.jumps (JL P c Q I M) Q) a w := by
  obtain ⟨rest, h1, h2⟩ := H m l a w hm hi
  rw [hf] at h1
  injection h1 with h1
  injection h1 with h3 h4
  rw [h4]; exact h2
theorem JL.jump {c : Code} {I : Nat → Nat → Act → World → Prop} {m M l : Nat} (hm : m < M) {a : Act} {w : World} (hi : I m l a w) : JL P c Q I M l a w := .inl ⟨m, hm, hi⟩
end
end Go.Proofs.YtgpjcgcecahddaaGreatDoor
set_option linter.unusedVariables false
set_option linter.unusedSimpArgs false
namespace Go.Proofs.YtgpjcgcecahddaaGreatDoor
open Go.RowKit Go.Lib
theorem info_item : (Tryz.prog.info? 50).map (fun i => (i.zero, i.size, i.bytes)) = some (some (.agg #[.int .i64 0, .string ⟨#[]⟩]), 2, 24) := by kernel_rfl
/-- A list of items of the call's own. -/
def RetI (l : List Item) (w : World) (v : Value) (w' : World) : Prop := Grow w w' ∧ RowO w.heap.size 50 2 v l.length (l.flatMap itemC) w'
theorem itemC_one (x : Item) : ∀ u ∈ itemC x, u.oneCell' = true := fun u hu => by simp at hu; rcases hu with rfl | rfl <;> rfl
theorem row_add {base : Nat} {v v' : Value} {l : List Item} {x : Item} {w w' : World} (ra : AppR base 50 2 w v l.length (l.flatMap itemC) (itemC x) v' w') : RowO base 50 2 v' (l ++ [x]).length ((l ++ [x]).flatMap itemC) w' := by
  have := ra.1
  rw [List.length_append, List.flatMap_append]
  simpa using this
theorem ret_v {a b : Value} (h : a = b) : Ending.returned a = .returned b := by rw [h]
theorem Items.grow {w W : World} {v : Value} {l : List Item} (h : Items w v l) (g : Grow w W) : Items W v l := Reads.grow (w := w) (W := W) (fun _ _ h => h) h g
theorem Items.at {w : World} {a : Option Addr} {n c : Nat} {l : List Item} (h : Items w (.slice a n c) l) {i : Nat} {x : Item} (hx : l[i]? = some x) :
    ∃ b off, a = some ⟨b, off, none⟩ ∧ b < w.heap.size ∧ w.cell? ⟨b, off + i * 2, none⟩ = some (.int .i64 x.id) ∧ w.cell? ⟨b, off + i * 2 + 1, none⟩ = some (.string x.name) := by
  obtain ⟨b, off, e, hb, cs, h1, h2, h3⟩ := Reads.at h hx
  exact ⟨b, off, e, hb, h3 0 _ (by rw [h2]; rfl), h3 1 _ (by rw [h2]; rfl)⟩
theorem row_items {base : Nat} {v : Value} {l : List Item} {w : World} (h : RowO base 50 2 v l.length (l.flatMap itemC) w) : Items w v l := h.reads fun i x hx => flat_part itemC (fun _ => rfl) hx
theorem eqItem (x y : Item) (w : World) : (Op.equalIn 10000 50 (.agg #[.int .i64 x.id, .string x.name]) (.agg #[.int .i64 y.id, .string y.name])).run Tryz.prog w = .ok (x.id == y.id && x.name.toList == y.name.toList) w := by
  refine eq_struct (d := 9999) Tryz.underlying50 (by kernel_rfl) ?_
  refine eqf_more (by rfl) (by go_simp; rfl) (by go_simp; rfl) (by go_simp) ?_
  exact eqf_one (by rfl) (by go_simp; rfl) (by go_simp; rfl) (by go_simp)
theorem neqItem (x y : Item) (r : Bool) (h : (x.id == y.id && x.name.toList == y.name.toList) = r) (w : World) : (binOp .neq 50 (.agg #[.int .i64 x.id, .string x.name]) (.agg #[.int .i64 y.id, .string y.name])).run Tryz.prog w = .ok (.bool (!r)) w := by
  rw [run_neq_struct, eqItem, h]; rfl
theorem eqlItem (x y : Item) (r : Bool) (h : (x.id == y.id && x.name.toList == y.name.toList) = r) (w : World) : (binOp .eql 50 (.agg #[.int .i64 x.id, .string x.name]) (.agg #[.int .i64 y.id, .string y.name])).run Tryz.prog w = .ok (.bool r) w := by
  rw [run_eql_struct, eqItem, h]; rfl
set_option maxRecDepth 100000 in
theorem sameItems_any (va vb : Value) (l m : List Item) (w : World) (hl : Items w va l) (hm : Items w vb m) (hz : l.length ≤ 1000000000) :
    Calls Tryz.prog 18 #[va, vb] w fun e w' => e = .returned (.bool (same l m)) ∧ Grow w w' := by
  obtain ⟨a, c, rfl⟩ := hl.mk
  obtain ⟨a', c', rfl⟩ := hm.mk
  by_cases hlm : l.length = m.length
  · have hn : ((l.length : Int) != (m.length : Int)) = false := by rw [hlm]; simp
    have HLM := Lib.hid hlm
    clear hlm
    go_enter Tryz.func18, Tryz.ntmps18
    go_wp2
    go_loopw [5] (fun v5 wx => Grow w wx ∧ ∃ i : Nat, v5 = .int .i64 i ∧ i ≤ l.length ∧ ∀ j x y, j < i → l[j]? = some x → m[j]? = some y → x = y) (fun v5 _ => l.length - (intOf v5).toNat)
    case atStart => exact ⟨Grow.refl _, 0, rfl, by omega, fun j _ _ h => absurd h (by omega)⟩
    case round =>
      obtain ⟨hg, i, rfl, hi, hall⟩ := hrel
      have HA := Lib.hid hall
      clear hall hn
      by_cases hlt : i < l.length
      · have hlt' : (i : Int) < l.length := by omega
        have hlm' : (i : Int) < m.length := by have := HLM.out; omega
        obtain ⟨x, hx, -⟩ := lt_get hlt
        obtain ⟨y, hy, -⟩ := lt_get (l := m) (i := i) (by omega)
        obtain ⟨b, off, rfl, -, hc, hd⟩ := (hl.grow hg).at hx
        obtain ⟨b', off', rfl, -, hc', hd'⟩ := (hm.grow hg).at hy
        have HX := Lib.hid hx
        have HY := Lib.hid hy
        clear hx hy hl hm
        by_cases hxy : x = y
        · have hq := neqItem x y true (by rw [hxy]; simp)
          have HXY := Lib.hid hxy
          clear hxy
          go_wp2
          go_quiet (fail)
          go_wp2
          go_roundw
          case rel => exact ⟨hg.drewN _, i + 1, by go_num, by omega, fun j x' y' hj h1 h2 => by
            rcases (by omega : j < i ∨ j = i) with h3 | rfl
            · exact HA.out j x' y' h3 h1 h2
            · rw [HX.out] at h1; rw [HY.out] at h2; injection h1 with h1; injection h2 with h2; rw [← h1, ← h2]; exact HXY.out⟩
          case measure => simp [intOf]; omega
        · have hq : (x.id == y.id && x.name.toList == y.name.toList) = false := by
            rw [Bool.eq_false_iff]; intro e; rw [Bool.and_eq_true, beq_iff_eq, beq_iff_eq] at e
            exact hxy (by cases x; cases y; simp only [Item.mk.injEq]; exact ⟨e.1, eq_of_tl e.2⟩)
          replace hq := neqItem x y false hq
          have HR := Lib.hid (same_no (a := l) (b := m) (fun e => hxy (by have h1 := HX.out; rw [e, HY.out] at h1; injection h1 with h1; exact h1.symm)))
          clear hxy
          go_wp2
          go_quiet (fail)
          go_wp2
          go_ret
          exact ⟨ret_bool HR.out.symm, hg.drewN _⟩
      · have HR := Lib.hid (same_yes (list_same HLM.out (fun j x y h1 h2 => HA.out j x y (by have := (List.getElem?_eq_some_iff.1 h1).1; omega) h1 h2)))
        have hlt' : ¬ (i : Int) < l.length := by omega
        clear hl hm
        go_wp2
        go_ret
        exact ⟨ret_bool HR.out.symm, hg⟩
  · have hn : ((l.length : Int) != (m.length : Int)) = true := by rw [bne_iff_ne]; omega
    have HR := Lib.hid (same_no (a := l) (b := m) (fun e => hlm (by rw [e])))
    clear hlm hl hm
    go_enter Tryz.func18, Tryz.ntmps18
    go_wp2
    go_ret
    exact ⟨ret_bool HR.out.symm, Grow.refl _⟩
end Go.Proofs.YtgpjcgcecahddaaGreatDoor
set_option linter.unusedVariables false
set_option linter.unusedSimpArgs false
namespace Go.Proofs.YtgpjcgcecahddaaGreatDoor
open Go.RowKit Go.Lib
theorem setCells_blk (b : Nat) : ∀ (vs : List Value) (o : Nat) (w : World) (cs : Array Value) (t : TypeId), w.heap[b]? = some (.cells cs t (0, 0)) →
    ∃ cs' : Array Value, (w.setCells b o vs).heap[b]? = some (.cells cs' t (0, 0)) ∧ cs'.size = cs.size ∧ (∀ j, j < o → cs'[j]? = cs[j]?) ∧ Turned b w (w.setCells b o vs)
  | [], o, w, cs, t, h => ⟨cs, h, rfl, fun _ _ => rfl, Turned.refl _ _⟩
  | v :: r, o, w, cs, t, h => by
    obtain ⟨cs', h1, h2, h3, h4⟩ := setCells_blk b r (o + 1) _ _ t (heap_setCell_same w b o cs t v h)
    have ht : Turned b w (w.setCell ⟨b, o, none⟩ v) := ⟨rfl, rfl, rfl, by simp, fun i _ hb => heap_setCell_other w ⟨b, o, none⟩ i v hb⟩
    refine ⟨cs', h1, by rw [h2]; simp, fun j hj => ?_, ht.trans h4⟩
    rw [h3 j (by omega), Array.getElem?_setIfInBounds_ne (by omega)]
section
variable {P : Program}
theorem run_clear {t e : TypeId} {z : Value} {k : Nat} (ht : P.underlying t = some (.slice e)) (hv : ∀ w, (zeroValue e).run P w = .ok z w) (hzs : z.cells.size = k) (hk : 0 < k) (h1 : ∀ u ∈ z.cells, u.oneCell' = true)
    (w : World) {b o n : Nat} (c : Nat) (hn : 0 < n) {cs : Array Value} {e' : TypeId} (hb : w.heap[b]? = some (.cells cs e' (0, 0))) (hs : o + n * k ≤ cs.size) :
    ∃ w' cs', (∀ ty, (Builtin.clear_ #[t] ty #[.slice (some ⟨b, o, none⟩) n c]).run P w = .ok (.tuple #[]) w') ∧ w'.heap[b]? = some (.cells cs' e' (0, 0)) ∧ cs'.size = cs.size ∧ (∀ j, j < o → cs'[j]? = cs[j]?) ∧ Turned b w w' := by
  have hl : (Builtin.zeroCells z.cells n).toList.length = n * k := by simp [Builtin.zeroCells, hzs]
  have hone : ∀ v ∈ (Builtin.zeroCells z.cells n).toList, v.oneCell' = true := fun v hm => by
    unfold Builtin.zeroCells at hm
    rw [Array.toList_map, List.mem_map] at hm
    obtain ⟨i, -, rfl⟩ := hm
    have hlt : i % z.cells.size < z.cells.size := Nat.mod_lt _ (by omega)
    have e : z.cells[i % z.cells.size]! = z.cells[i % z.cells.size]'hlt := by simp [hlt]
    rw [e]
    exact h1 _ (Array.getElem_mem hlt)
  have hst := run_storeCells_cells (P := P) b o (Builtin.zeroCells z.cells n).toList 0 w (fun j hj => by
    rw [cell_of_row w b _ _ _ _ hb, Array.getElem?_eq_getElem (by omega)]; rfl) (fun j hj => frozen_of_row w b _ _ _ hb) hone
  obtain ⟨cs', c1, c2, c3, c4⟩ := setCells_blk b (Builtin.zeroCells z.cells n).toList o w cs e' hb
  simp only [Nat.add_zero] at hst
  refine ⟨_, cs', fun ty => ?_, c1, c2, c3, c4⟩
  obtain ⟨m, rfl⟩ : ∃ m, n = m + 1 := ⟨n - 1, by omega⟩
  simp [Builtin.clear_, run_underlying ht, hv, hst]
end
/-- A row cut short, what lies behind it turned. -/
theorem RowO.cut {base b n c k i : Nat} {e : TypeId} {xs : List Value} {w w' : World} (h : RowO base e k (.slice (some ⟨b, 0, none⟩) n (c + 1)) n xs w) {cs cs' : Array Value} (hb : w.heap[b]? = some (.cells cs e (0, 0))) (hb' : w'.heap[b]? = some (.cells cs' e (0, 0))) (hs : cs'.size = cs.size) (hi : i ≤ n) (hj : ∀ j, j < i * k → cs'[j]? = cs[j]?) :
    RowO base e k (.slice (some ⟨b, 0, none⟩) i (c + 1)) i (xs.take (i * k)) w' := by
  have hlen := h.len
  rcases h with ⟨h1, ⟨h2, -⟩ | ⟨g, cap, cur, e2, h3, h4, h5, h6, h7, h8⟩⟩ | ⟨-, -, a, e2⟩
  · cases h2
  · injection e2 with e2 e3 e4
    injection e2 with e2
    injection e2 with e2
    subst e2 e4
    rw [hb] at h4
    injection h4 with h4
    injection h4 with h4
    subst h4
    have hm : i * k ≤ n * k := Nat.mul_le_mul_right k hi
    refine .inl ⟨by rw [List.length_take]; omega, .inr ⟨b, c + 1, cs', rfl, h3, hb', by omega, h6, by omega, ?_⟩⟩
    rw [← h8, List.take_take, Nat.min_eq_left hm]
    apply List.ext_getElem?
    intro j
    rw [List.getElem?_take, List.getElem?_take]
    split
    · rename_i hlt
      rw [Array.getElem?_toList, Array.getElem?_toList, hj j hlt]
    · rfl
  · injection e2 with _ _ e2
    omega
theorem flat_take {α : Type} (enc : α → List Value) {k : Nat} (hk : ∀ x, (enc x).length = k) : ∀ (l : List α) (i : Nat), (l.flatMap enc).take (i * k) = (l.take i).flatMap enc
  | [], i => by simp
  | x :: l, 0 => by simp
  | x :: l, i + 1 => by
    rw [List.take_succ_cons, List.flatMap_cons, List.flatMap_cons, ← flat_take enc hk l i, List.take_append, hk, List.take_of_length_le (by rw [hk, Nat.add_mul]; omega), show (i + 1) * k - k = i * k by rw [Nat.add_mul]; omega]
theorem idx_before {α : Type} {p : α → Bool} : ∀ {l : List α} {i : Nat}, idx p l = i → (l.take i).filter (fun x => !p x) = l.take i
  | [], i, h => by simp
  | x :: l, i, h => by
    unfold idx at h
    split at h
    · have : i = 0 := by omega
      subst this; simp
    · rename_i hp
      split at h
      · omega
      · cases i with
        | zero => simp
        | succ i =>
          rw [List.take_succ_cons, List.filter_cons_of_pos (by simpa using hp), idx_before (l := l) (p := p) (by omega)]
theorem filter_all {α : Type} {p : α → Bool} {l : List α} (h : idx p l < 0) : l.filter (fun x => !p x) = l := by
  rw [List.filter_eq_self]
  intro x hx
  rw [idx_neg.1 h x hx]; rfl
theorem filter_next {α : Type} {q : α → Bool} {l : List α} {j : Nat} {x : α} (hx : l[j]? = some x) : (l.take (j + 1)).filter q = (l.take j).filter q ++ (if q x then [x] else []) := by
  rw [List.take_add_one, hx, List.filter_append]
  congr 1
  cases h : q x <;> simp [h]
/-- What is kept and what is not yet looked at. -/
structure Mid {α : Type} (q : α → Bool) (l l' : List α) (i j : Nat) : Prop where
  len : l'.length = l.length
  le : i ≤ j
  jl : j ≤ l.length
  kept : l'.take i = (l.take j).filter q
  rest : l'.drop j = l.drop j
theorem Mid.get {α : Type} {q : α → Bool} {l l' : List α} {i j : Nat} (h : Mid q l l' i j) {x : α} (hx : l[j]? = some x) : l'[j]? = some x := by
  have h1 := congrArg (fun m => m[0]?) h.rest
  simp only [List.getElem?_drop, Nat.add_zero] at h1
  rw [h1, hx]
theorem Mid.skip {α : Type} {q : α → Bool} {l l' : List α} {i j : Nat} (h : Mid q l l' i j) {x : α} (hx : l[j]? = some x) (hq : q x = false) : Mid q l l' i (j + 1) := by
  have hj := (List.getElem?_eq_some_iff.1 hx).1
  have hr := congrArg (List.drop 1) h.rest
  rw [List.drop_drop, List.drop_drop] at hr
  refine ⟨h.len, by have := h.le; omega, hj, ?_, hr⟩
  rw [filter_next hx, hq, if_neg (by simp), List.append_nil]; exact h.kept
theorem Mid.keep {α : Type} {q : α → Bool} {l l' : List α} {i j : Nat} (h : Mid q l l' i j) {x : α} (hx : l[j]? = some x) (hq : q x = true) : Mid q l (l'.set i x) (i + 1) (j + 1) := by
  have hj := (List.getElem?_eq_some_iff.1 hx).1
  have hle := h.le
  have hlen := h.len
  have hr := congrArg (List.drop 1) h.rest
  rw [List.drop_drop, List.drop_drop] at hr
  refine ⟨by rw [List.length_set]; exact hlen, by omega, hj, ?_, ?_⟩
  · rw [filter_next hx, if_pos hq, ← h.kept, List.take_add_one, List.getElem?_set_self (by omega), List.take_set_of_le (Nat.le_refl _)]; rfl
  · rw [List.drop_set_of_lt (by omega)]; exact hr
theorem Mid.done {α : Type} {q : α → Bool} {l l' : List α} {i : Nat} (h : Mid q l l' i l.length) : l'.take i = l.filter q := by
  rw [h.kept, List.take_length]
theorem Mid.start {α : Type} {p : α → Bool} {l : List α} {i : Nat} (h : idx p l = i) : Mid (fun x => !p x) l l i (i + 1) := by
  obtain ⟨x, hx, hp⟩ := idx_get h (by omega)
  rw [Int.toNat_natCast] at hx
  have hi := (List.getElem?_eq_some_iff.1 hx).1
  refine ⟨rfl, by omega, hi, ?_, rfl⟩
  rw [filter_next hx, hp]
  simp [idx_before h]
theorem setCells_get (b : Nat) : ∀ (vs : List Value) (o : Nat) (w : World) (cs : Array Value) (t : TypeId), w.heap[b]? = some (.cells cs t (0, 0)) → o + vs.length ≤ cs.size →
    ∃ cs' : Array Value, (w.setCells b o vs).heap[b]? = some (.cells cs' t (0, 0)) ∧ cs'.size = cs.size ∧ (∀ j, j < o ∨ o + vs.length ≤ j → cs'[j]? = cs[j]?) ∧ (∀ j, j < vs.length → cs'[o + j]? = vs[j]?) ∧ Turned b w (w.setCells b o vs)
  | [], o, w, cs, t, h, _ => ⟨cs, h, rfl, fun _ _ => rfl, fun j hj => absurd hj (Nat.not_lt_zero _), Turned.refl _ _⟩
  | v :: r, o, w, cs, t, h, hs => by
    rw [List.length_cons] at hs
    obtain ⟨cs', h1, h2, h3, h4, h5⟩ := setCells_get b r (o + 1) _ _ t (heap_setCell_same w b o cs t v h) (by simp; omega)
    have ht : Turned b w (w.setCell ⟨b, o, none⟩ v) := ⟨rfl, rfl, rfl, by simp, fun i _ hb => heap_setCell_other w ⟨b, o, none⟩ i v hb⟩
    refine ⟨cs', h1, by rw [h2]; simp, fun j hj => ?_, fun j hj => ?_, ht.trans h5⟩
    · rw [List.length_cons] at hj
      rw [h3 j (by omega), Array.getElem?_setIfInBounds_ne (by omega)]
    · cases j with
      | zero => rw [Nat.add_zero, h3 o (by omega), Array.getElem?_setIfInBounds_self_of_lt (by omega)]; rfl
      | succ j =>
        rw [List.length_cons] at hj
        rw [show o + (j + 1) = o + 1 + j by omega, h4 j (by omega)]; rfl
/-- An element is stored, cell by cell. -/
theorem put_row {α : Type} (enc : α → List Value) {k : Nat} (hk : ∀ x, (enc x).length = k) (h0 : 0 < k) {base b n c : Nat} {e : TypeId} {l : List α} {w : World} (h : RowO base e k (.slice (some ⟨b, 0, none⟩) n (c + 1)) n (l.flatMap enc) w) (hn : l.length = n) {i : Nat} (hi : i < n) (x : α) :
    RowO base e k (.slice (some ⟨b, 0, none⟩) n (c + 1)) n ((l.set i x).flatMap enc) (w.setCells b (i * k) (enc x)) ∧ Turned b w (w.setCells b (i * k) (enc x)) := by
  rcases h with ⟨h1, ⟨h2, -⟩ | ⟨g, cap, cur, e2, h3, h4, h5, h6, h7, h8⟩⟩ | ⟨-, -, a, e2⟩
  · cases h2
  · injection e2 with e2 e3 e4
    injection e2 with e2
    injection e2 with e2
    subst e2 e4
    have hm : (i + 1) * k ≤ n * k := Nat.mul_le_mul_right k hi
    have hm2 : n * k ≤ (c + 1) * k := Nat.mul_le_mul_right k h5
    rw [Nat.add_mul, Nat.one_mul] at hm
    obtain ⟨cs', c1, c2, c3, c4, c5⟩ := setCells_get b (enc x) (i * k) w cur e h4 (by rw [hk]; omega)
    refine ⟨.inl ⟨by rw [flat_len enc hk, List.length_set, hn], .inr ⟨b, c + 1, cs', rfl, h3, c1, h5, h6, by omega, ?_⟩⟩, c5⟩
    apply List.ext_getElem?
    intro j
    rw [List.getElem?_take]
    split
    · rename_i hj
      rw [Array.getElem?_toList]
      have hd : j = j / k * k + j % k := by rw [Nat.mul_comm]; exact (Nat.div_add_mod j k).symm
      have hmod : j % k < k := Nat.mod_lt _ h0
      have hq : j / k < n := Nat.div_lt_of_lt_mul (by rw [Nat.mul_comm]; exact hj)
      obtain ⟨z, hz, -⟩ := lt_get (l := l.set i x) (i := j / k) (by rw [List.length_set]; omega)
      have g1 := flat_get enc hk _ (j / k) (j % k) z hz hmod
      rw [← hd] at g1
      rw [g1]
      by_cases e1 : j / k = i
      · rw [← e1, List.getElem?_set_self (by omega)] at hz
        obtain rfl := Option.some.inj hz
        have := c4 (j % k) (by rw [hk]; exact hmod)
        rw [← e1, ← hd] at this
        exact this
      · rw [List.getElem?_set_ne (Ne.symm e1)] at hz
        have g2 := flat_get enc hk _ (j / k) (j % k) z hz hmod
        rw [← hd, ← h8, List.getElem?_take_of_lt hj, Array.getElem?_toList] at g2
        rw [← g2]
        refine c3 j ?_
        rw [hk]
        apply Classical.byContradiction
        intro hcon
        have : j / k = i := Nat.div_eq_of_lt_le (by omega) (by rw [Nat.add_mul]; omega)
        exact e1 this
    · rename_i hj
      rw [List.getElem?_eq_none (by rw [flat_len enc hk, List.length_set, hn]; omega)]
  · injection e2 with _ _ e2
    omega
theorem row_cells {α : Type} (enc : α → List Value) {k : Nat} (hk : ∀ x, (enc x).length = k) {base b n c : Nat} {e : TypeId} {l : List α} {w : World} (h : RowO base e k (.slice (some ⟨b, 0, none⟩) n c) n (l.flatMap enc) w) {i : Nat} {y : α} (hy : l[i]? = some y) (f : Nat) (u : Value) (hu : (enc y)[f]? = some u) :
    w.cell? ⟨b, i * k + f, none⟩ = some u ∧ w.frozen? ⟨b, i * k + f, none⟩ = false ∧ b < w.heap.size := by
  have hf : f < k := by have := (List.getElem?_eq_some_iff.1 hu).1; rw [hk] at this; exact this
  have hc : (l.flatMap enc)[i * k + f]? = some u := by rw [flat_get enc hk l i f y hy hf]; exact hu
  obtain ⟨b1, c1, e1, h1, h2, h3, -⟩ := h.cell hc
  injection e1 with e1
  injection e1 with e1
  injection e1 with e1
  subst e1
  exact ⟨h1, h2, h3⟩
end Go.Proofs.YtgpjcgcecahddaaGreatDoor
set_option linter.unusedVariables false
set_option linter.unusedSimpArgs false
namespace Go.Proofs.YtgpjcgcecahddaaGreatDoor
open Go.RowKit Go.Lib Go.Sort
/-- A block's cells are laid anew. -/
theorem mapB {base k n c b : Nat} {e : TypeId} {xs xs' : List Value} {w : World} (h : RowO base e k (.slice (some ⟨b, 0, none⟩) n (c + 1)) n xs w) (f : Array Value → Array Value) (hs : ∀ cs, (f cs).size = cs.size)
    (hx : ∀ cs : Array Value, cs.toList.take (n * k) = xs → n * k ≤ cs.size → (f cs).toList.take (n * k) = xs') (hl : xs'.length = n * k) :
    RowO base e k (.slice (some ⟨b, 0, none⟩) n (c + 1)) n xs' (mapBlock w b f) ∧ Turned b w (mapBlock w b f) := by
  have ht : Turned b w (mapBlock w b f) := ⟨rfl, rfl, rfl, by unfold mapBlock; simp, fun i _ hb => by unfold mapBlock; simp [Array.getElem?_modify, Ne.symm hb]⟩
  rcases h with ⟨h1, ⟨h2, -⟩ | ⟨g, cap, cur, e2, h3, h4, h5, h6, h7, h8⟩⟩ | ⟨-, -, a, e2⟩
  · cases h2
  · injection e2 with e2 e3 e4
    injection e2 with e2
    injection e2 with e2
    subst e2 e4
    have hm : n * k ≤ (c + 1) * k := Nat.mul_le_mul_right k h5
    refine ⟨.inl ⟨hl, .inr ⟨b, c + 1, f cur, rfl, h3, ?_, h5, h6, by rw [hs, h7], hx cur h8 (by omega)⟩⟩, ht⟩
    unfold mapBlock
    simp [Array.getElem?_modify, h4, onCells]
  · injection e2 with _ _ e2
    omega
theorem putCells_size {α : Type} [Inhabited α] (enc : α → Value) (off : Nat) (d : Array α) (c : Array Value) : (putCells enc off d c).size = c.size := by unfold putCells; simp
theorem putCells_take {α : Type} [Inhabited α] (enc : α → Value) (d : Array α) (c : Array Value) (h : d.size ≤ c.size) : (putCells enc 0 d c).toList.take d.size = d.toList.map enc := by
  apply List.ext_getElem?
  intro j
  rw [List.getElem?_take]
  by_cases hj : j < d.size
  · rw [if_pos hj, Array.getElem?_toList, List.getElem?_map, Array.getElem?_toList]
    unfold putCells
    rw [Array.getElem?_mapIdx, Array.getElem?_eq_getElem (by omega), Array.getElem?_eq_getElem hj]
    simp [hj]
  · rw [if_neg hj, List.getElem?_eq_none (by simp; omega)]
theorem grow_turned (b : Nat) (w : World) (os : Array Obj) : Turned b w (grow w os) := ⟨rfl, rfl, rfl, by unfold grow; simp, fun i hi _ => by unfold grow; exact Array.getElem?_append_left hi⟩
theorem ahead_turned (b : Nat) (w : World) (n : Nat) : Turned b w (Sort.ahead w n) := ⟨rfl, rfl, rfl, by simp, fun i hi _ => by simp⟩
/-- A row is laid anew by a sort. -/
theorem row_sorted {α : Type} [Inhabited α] (enc : α → Value) {base k n c b : Nat} {e : TypeId} {xs : List Value} {w : World} (h : RowO base e k (.slice (some ⟨b, 0, none⟩) n (c + 1)) n xs w) (hlt : b < w.heap.size) (d : Array α) (hd : d.size = n * k) (m : Nat) (os : Array Obj) :
    RowO base e k (.slice (some ⟨b, 0, none⟩) n (c + 1)) n (d.toList.map enc) (grow (putRow enc (Sort.ahead w m) b 0 d) os) ∧ Turned b w (grow (putRow enc (Sort.ahead w m) b 0 d) os) := by
  have t0 := ahead_turned b w m
  have h0 : RowO base e k (.slice (some ⟨b, 0, none⟩) n (c + 1)) n xs (Sort.ahead w m) := h.kept_of fun g _ => by simp
  obtain ⟨h1, t1⟩ := mapB (xs' := d.toList.map enc) h0 (putCells enc 0 d) (putCells_size enc 0 d) (fun cs _ hc => by rw [← hd]; exact putCells_take enc d cs (by omega)) (by simp [hd])
  have t2 := grow_turned b (putRow enc (Sort.ahead w m) b 0 d) os
  refine ⟨h1.kept_of fun g hg => ?_, (t0.trans t1).trans t2⟩
  have := h1.blk_lt hg
  unfold grow
  exact Array.getElem?_append_left this
/-! Items, by name. -/
theorem ltOf_item (a b : Item) : ltOf (fun x y : Item => cmpS x.name y.name) a b = ltS a.name b.name := by
  unfold ltOf cmpS
  cases h1 : ltS a.name b.name
  · cases h2 : ltS b.name a.name <;> simp [h1, h2]
  · simp [h1]
theorem ltS_ntrans {a b c : ByteArray} (h1 : ltS a b = false) (h2 : ltS b c = false) : ltS a c = false := by
  cases h : ltS a c with
  | false => rfl
  | true =>
    cases h3 : ltS b a with
    | true => rw [ltS_trans h3 h] at h2; cases h2
    | false =>
      have := ltS_total h1 h3
      subst this
      rw [h] at h2; cases h2
theorem item_swo : SWO (ltOf (fun x y : Item => cmpS x.name y.name)) :=
  ⟨fun x => by rw [ltOf_item]; exact ltS_irrefl _, fun x y z h1 h2 => by rw [ltOf_item] at *; exact ltS_trans h1 h2, fun x y z h1 h2 => by rw [ltOf_item] at *; exact ltS_ntrans h1 h2⟩
theorem flatK_item (l : List Item) : (flatK itemC 2 l.toArray).toList = l.flatMap itemC := by
  apply List.ext_getElem?
  intro j
  have hl : (l.flatMap itemC).length = l.length * 2 := flat_len itemC (fun _ => rfl) l
  by_cases hj : j < l.length * 2
  · have hd : j = j / 2 * 2 + j % 2 := by omega
    have hq : j / 2 < l.length := by omega
    have hm : j % 2 < 2 := Nat.mod_lt _ (by decide)
    have g1 := flat_get itemC (fun _ => rfl) l (j / 2) (j % 2) l[j / 2] (List.getElem?_eq_getElem hq) hm
    rw [← hd] at g1
    rw [g1, Array.getElem?_toList, Array.getElem?_eq_getElem (by simp; omega)]
    have := get_flatK itemC 2 l.toArray j (by simpa using hj)
    rw [getElem!_pos _ _ (by simp; omega)] at this
    rw [this]
    have e1 : l.toArray[j / 2]! = l[j / 2] := by simp [hq]
    rw [e1]
    have hm2 : j % 2 < (itemC l[j / 2]).length := hm
    rw [List.getElem?_eq_getElem hm2, List.getElem!_eq_getElem?_getD, List.getElem?_eq_getElem hm2]
    rfl
  · rw [List.getElem?_eq_none (by simp; omega), List.getElem?_eq_none (by omega)]
/-- What a row of items holds, to the sort. -/
theorem holds_of_row {α : Type} [Inhabited α] (enc : α → Value) {base n c b k : Nat} {e : TypeId} {w : World} {d : Array α} (h : RowO base e k (.slice (some ⟨b, 0, none⟩) n c) n (d.toList.map enc) w) : Holds enc w b 0 d := fun j hj => by
  have hc : (d.toList.map enc)[j]? = some (enc d[j]!) := by
    have e : d[j]! = d[j]'hj := by simp [hj]
    rw [e, List.getElem?_map, Array.getElem?_toList, Array.getElem?_eq_getElem hj]; rfl
  obtain ⟨b', c', e1, h1, h2, -⟩ := h.cell hc
  injection e1 with e1
  injection e1 with e1
  injection e1 with e1
  subst e1
  rw [Nat.zero_add]
  exact ⟨h1, h2⟩
end Go.Proofs.YtgpjcgcecahddaaGreatDoor
set_option linter.unusedVariables false
set_option linter.unusedSimpArgs false
namespace Go.Proofs.YtgpjcgcecahddaaGreatDoor
open Go.RowKit Go.Lib Go.Sort
theorem encStr_of (t : ByteArray) : encStr t.data.toList = .string t := by simp [encStr]
def tx (l : List UInt8) : ByteArray := ⟨l.toArray⟩
theorem tx_of (t : ByteArray) : tx t.data.toList = t := by simp [tx]
theorem sortTexts_any (base : Nat) (v : Value) (l : List ByteArray) (w : World) (h : RowO base 9 1 v l.length (strC l) w) (hz : l.length ≤ 1000000) :
    Calls Tryz.prog 56 #[v] w fun e w' => e = .returned (.tuple #[]) ∧ ∃ l' : List ByteArray, l'.Perm l ∧ l'.Pairwise (fun a b => ltS b a = false) ∧ RowO base 9 1 v l'.length (strC l') w' ∧ w.grownBy w' (blkOf v) := by
  obtain ⟨a, c, rfl, hc⟩ := h.slice
  by_cases h0 : l.length = 0
  · have hl : l = [] := List.eq_nil_of_length_eq_zero h0
    subst hl
    refine (Any.slices_Sort_string_none Tryz.sortTexts a c w).mono ?_
    rintro e w' ⟨rfl, rfl⟩
    exact ⟨rfl, [], .nil, .nil, h, World.grownBy.refl _ _⟩
  · obtain ⟨b, cc, hbc⟩ : ∃ b cc, (Value.slice a l.length c) = .slice (some ⟨b, 0, none⟩) l.length (cc + 1) := by
      obtain ⟨x, hx, -⟩ := lt_get (l := l) (i := 0) (by omega)
      obtain ⟨b, c', e, -⟩ := h.cell (j := 0) (u := .string x) (by rw [List.getElem?_map, hx]; rfl)
      injection e with e1 e2 e3
      cases c with
      | zero => omega
      | succ c => exact ⟨b, c, by rw [e1]⟩
    injection hbc with e1 e2 e3
    subst e1 e3
    have hlt := h.blk_lt (g := b) rfl
    have hmap : ∀ m : List ByteArray, (m.map (fun t => t.data.toList)).map encStr = strC m := fun m => by
      rw [List.map_map]; apply List.map_congr_left; intro t _; exact encStr_of t
    have hH : Holds encStr w b 0 (l.map (fun t => t.data.toList)).toArray := holds_of_row encStr (k := 1) (by simpa [hmap] using h)
    have hS := Any.slices_Sort_string Tryz.sortTexts b 0 (cc + 1) (l.map (fun t => t.data.toList)) w hH hlt (by simp; omega)
    rw [List.length_map] at hS
    refine hS.mono ?_
    rintro e w' ⟨rfl, m, os, rfl⟩
    have hperm := List.mergeSort_perm (l.map (fun t : ByteArray => t.data.toList)) (fun x y => decide (x ≤ y))
    have hsort := List.pairwise_mergeSort (le := fun x y : List UInt8 => decide (x ≤ y)) (fun a b c h1 h2 => by simp only [decide_eq_true_eq] at *; exact List.le_trans h1 h2) (fun a b => by simp only [Bool.or_eq_true, decide_eq_true_eq]; exact List.le_total a b) (l.map (fun t : ByteArray => t.data.toList))
    generalize hM : (l.map (fun t : ByteArray => t.data.toList)).mergeSort (fun x y => decide (x ≤ y)) = M at *
    have hMl : M.length = l.length := by rw [hperm.length_eq, List.length_map]
    obtain ⟨r1, r2⟩ := row_sorted encStr (k := 1) h hlt M.toArray (by simp [hMl]) m os
    have hback : (M.map tx).Perm l := by
      have := hperm.map tx
      rw [List.map_map] at this
      have e : l.map (tx ∘ fun t : ByteArray => t.data.toList) = l := by
        conv => rhs; rw [← List.map_id l]
        apply List.map_congr_left; intro t _; exact tx_of t
      rw [e] at this; exact this
    refine ⟨rfl, M.map tx, hback, ?_, ?_, ⟨r2.os, r2.tape, r2.output, r2.size, fun k hk hne => r2.block k hk fun e => hne (by rw [e]; rfl)⟩⟩
    · rw [List.pairwise_map]
      refine hsort.imp fun {a b} hab => ?_
      rw [ltS_list]
      simp only [decide_eq_true_eq] at hab
      simp only [decide_eq_false_iff_not]
      simpa [tx] using List.not_lt.2 hab
    · rw [List.length_map, hMl]
      have e : strC (M.map tx) = M.toArray.toList.map encStr := by simp [tx, encStr]
      rw [e]; exact r1
/-! A text among others, of whoever's they are. -/
theorem hasText_any (v : Value) (l : List ByteArray) (t : ByteArray) (w : World) (h : Texts w v l) (hz : l.length ≤ 1000000) :
    Calls Tryz.prog 72 #[v, .string t] w fun e w' => e = .returned (.bool (hasT t l)) ∧ w' = w := by
  have hh : ∀ m : List ByteArray, Lib.containsS m t = hasT t m := fun m => by
    rw [Bool.eq_iff_iff, Lib.containsS_iff, hasT_iff]
  obtain ⟨a, c, rfl⟩ := h.mk
  by_cases h0 : l.length = 0
  · have hl : l = [] := List.eq_nil_of_length_eq_zero h0
    subst hl
    exact Any.slices_Contains_string_empty Tryz.hasText a c t w
  · obtain ⟨x, hx, -⟩ := lt_get (l := l) (i := 0) (by omega)
    obtain ⟨b, off, rfl, -, -⟩ := h.at hx
    have := Any.slices_Contains_string Tryz.hasText b off l.length c l t w (Nat.le_refl _) (by omega) (fun j hj => by
      obtain ⟨y, hy, -⟩ := lt_get hj
      obtain ⟨b', off', e, -, hc⟩ := h.at hy
      injection e with e
      injection e with e1 e2
      subst e1 e2
      rw [getD_of hy]; exact hc)
    rw [List.take_length, hh] at this
    exact this
end Go.Proofs.YtgpjcgcecahddaaGreatDoor
set_option linter.unusedVariables false
set_option linter.unusedSimpArgs false
namespace Go.Proofs.YtgpjcgcecahddaaGreatDoor
open Go.RowKit Go.Lib Go.Sort
/-- internal/bytealg.MaxLen holds some number. -/
def MaxL (w : World) : Prop := ∃ m : Int, w.cell? ⟨2, 0, none⟩ = some (.int .i64 m)
theorem MaxL.grow {w W : World} (h : MaxL w) (g : Grow w W) : MaxL W := by
  obtain ⟨m, hm⟩ := h
  refine ⟨m, (Below.cell g (p := ⟨2, 0, none⟩) ?_).trans hm⟩
  unfold World.cell? at hm
  split at hm
  · rename_i e; exact (Array.getElem?_eq_some_iff.1 e).1
  · cases hm
theorem split_len : ∀ (n : Nat) (s : List UInt8), s.length ≤ n → (partsL s).length = count s [32] + 1
  | n, s, hn => by
    rcases index_spec s [32] with ⟨h, hno⟩ | ⟨i, h, hi, ho, hno⟩
    · rw [count_miss h, partsL_word]
      · rfl
      · intro hm
        obtain ⟨j, hj⟩ := List.mem_iff_getElem?.1 hm
        have := hno j (by have := (List.getElem?_eq_some_iff.1 hj).1; omega)
        rw [(occ32 s j).2 hj] at this; cases this
    · have hs := (occ32 s i).1 ho
      obtain ⟨h1, h2⟩ := List.getElem?_eq_some_iff.1 hs
      have e : s = s.take i ++ 32 :: s.drop (i + 1) := by
        conv => lhs; rw [← List.take_append_drop i s, List.drop_eq_getElem_cons h1, h2]
      have hw : 32 ∉ s.take i := by
        intro hm
        obtain ⟨j, hj⟩ := List.mem_iff_getElem?.1 hm
        have hj' := (List.getElem?_eq_some_iff.1 hj).1
        rw [List.length_take] at hj'
        rw [List.getElem?_take, if_pos (by omega)] at hj
        have := hno j (by omega)
        rw [(occ32 s j).2 hj] at this; cases this
      cases n with
      | zero => omega
      | succ n =>
        have ih := split_len n (s.drop (i + 1)) (by rw [List.length_drop]; omega)
        rw [count_hit (s := s) (sub := [32]) (by simp) h]
        conv => lhs; rw [e, partsL_blank, partsL_word hw]
        rw [List.length_append, ih]; simp; omega
theorem parts_length (s : ByteArray) : (parts s).length = countB s ⟨#[32]⟩ + 1 := by
  unfold parts; rw [List.length_map, split_len _ s.data.toList (Nat.le_refl _)]; try rfl
/-- A row that was just made is the call's own. -/
theorem row_fresh (w : World) (e : TypeId) (xs : List Value) (k n : Nat) (h : xs.length = n * k) (hn : n ≤ 1000000) : RowO w.heap.size e k (.slice (some ⟨w.heap.size, 0, none⟩) n n) n xs (w.alloc (.cells xs.toArray e)) :=
  .inl ⟨h, .inr ⟨w.heap.size, n, xs.toArray, rfl, Nat.le_refl _, heap_alloc_new w _, Nat.le_refl _, by unfold maxLen; omega, by simpa using h, by rw [← h]; simp⟩⟩
theorem split_any (s : ByteArray) (w : World) (hm : MaxL w) (hs : s.size ≤ 500000) :
    Calls Tryz.prog 58 #[.string s, .string ⟨#[32]⟩] w fun e w' => ∃ v, e = .returned v ∧ RowO w.heap.size 9 1 v (parts s).length (strC (parts s)) w' ∧ Grow w w' := by
  obtain ⟨m, hm⟩ := hm
  have h := Any.strings_Split { Tryz.splitT with } Tryz.splitT.i9 s ⟨#[32]⟩ m w (by omega) hm (by decide)
  rw [splitB_parts s ⟨#[32]⟩ rfl, ← parts_length] at h
  refine h.mono ?_
  rintro e w' ⟨rfl, rfl⟩
  refine ⟨_, rfl, row_fresh w _ (strC (parts s)) 1 _ (by simp) ?_, (Grow.refl w).alloc _⟩
  have := parts_len s.data.toList
  unfold parts; rw [List.length_map]
  have h2 : s.data.toList.length = s.size := rfl
  omega
theorem prefix_any (s p : ByteArray) (w : World) : Calls Tryz.prog 77 #[.string s, .string p] w fun e w' => e = .returned (.bool (p.data.toList.isPrefixOf s.data.toList)) ∧ w' = w := Any.strings_HasPrefix Tryz.prefixT s p w
theorem compact_rising (l : List ByteArray) (hs : l.Pairwise fun a b => ltS b a = false) : Inc ((Lib.compact (l.map fun t => t.data.toList)).map tx) ∧ (∀ x, x ∈ (Lib.compact (l.map fun t => t.data.toList)).map tx ↔ x ∈ l) := by
  have hg : ∀ j (h : j < l.length), (l.map fun t : ByteArray => t.data.toList).toArray[j]! = l[j].data.toList := fun j h => by simp [h]
  have hle : ∀ i j (hi : i < l.length) (hj : j < l.length), i ≤ j → ltS l[j] l[i] = false := fun i j hi hj hij => by
    rcases Nat.lt_or_ge i j with h | h
    · exact List.pairwise_iff_getElem.1 hs i j hi hj h
    · obtain rfl : i = j := by omega
      exact ltS_irrefl _
  have hmem : ∀ j (hj : j < l.length), ∃ i, i ≤ j ∧ ∃ hi : i < l.length, l[i] = l[j] ∧ keeps (l.map fun t : ByteArray => t.data.toList).toArray i = true := by
    intro j
    induction j with
    | zero => intro hj; exact ⟨0, Nat.le_refl _, hj, rfl, by simp [keeps]⟩
    | succ j ih =>
      intro hj
      by_cases h : l[j + 1] = l[j]
      · obtain ⟨i, h1, h2, h3, h4⟩ := ih (by omega)
        exact ⟨i, by omega, h2, h3.trans h.symm, h4⟩
      · refine ⟨j + 1, Nat.le_refl _, hj, rfl, ?_⟩
        unfold keeps
        rw [hg _ hj, show j + 1 - 1 = j from rfl, hg j (by omega)]
        simp only [decide_eq_true_eq]
        exact .inr fun e => h (eq_of_list e)
  unfold Lib.compact compactUpTo
  rw [List.map_map, List.length_map]
  constructor
  · unfold Inc
    rw [List.pairwise_map]
    have hp : (List.range l.length).Pairwise (· < ·) := List.pairwise_lt_range
    refine (List.Pairwise.and_mem.1 (hp.sublist List.filter_sublist)).imp fun {i j} ⟨hi, hj, hij⟩ => ?_
    obtain ⟨hi1, hi2⟩ := List.mem_filter.1 hi
    obtain ⟨hj1, hj2⟩ := List.mem_filter.1 hj
    rw [List.mem_range] at hi1 hj1
    show ltS (tx ((l.map fun t : ByteArray => t.data.toList).toArray[i]!)) (tx ((l.map fun t : ByteArray => t.data.toList).toArray[j]!)) = true
    rw [hg i hi1, hg j hj1, tx_of, tx_of]
    unfold keeps at hj2
    rw [hg j hj1, hg (j - 1) (by omega)] at hj2
    simp only [decide_eq_true_eq] at hj2
    have hne : l[j] ≠ l[j - 1] := by
      rcases hj2 with h | h
      · omega
      · exact fun e => h (by rw [e])
    have h1 := hle i (j - 1) hi1 (by omega) (by omega)
    have h2 := hle (j - 1) j (by omega) hj1 (by omega)
    have h3 : ltS l[j - 1] l[j] = true := by
      cases e : ltS l[j - 1] l[j] with
      | true => rfl
      | false => exact absurd (ltS_total h2 e) hne
    cases e : ltS l[i] l[j] with
    | true => rfl
    | false =>
      have := ltS_ntrans h1 e
      rw [h3] at this; cases this
  · intro x
    rw [List.mem_map]
    constructor
    · rintro ⟨i, hi, rfl⟩
      obtain ⟨hi1, hi2⟩ := List.mem_filter.1 hi
      rw [List.mem_range] at hi1
      show tx ((l.map fun t : ByteArray => t.data.toList).toArray[i]!) ∈ l
      rw [hg i hi1, tx_of]
      exact List.getElem_mem hi1
    · intro hx
      obtain ⟨j, hj, rfl⟩ := List.mem_iff_getElem.1 hx
      obtain ⟨i, h1, h2, h3, h4⟩ := hmem j hj
      refine ⟨i, List.mem_filter.2 ⟨List.mem_range.2 h2, h4⟩, ?_⟩
      show tx ((l.map fun t : ByteArray => t.data.toList).toArray[i]!) = _
      rw [hg i h2, tx_of]; exact h3
theorem compact_any (base : Nat) (v : Value) (l : List ByteArray) (w : World) (h : RowO base 9 1 v l.length (strC l) w) (hs : l.Pairwise fun a b => ltS b a = false) (hz : l.length ≤ 1000000) :
    Calls Tryz.prog 60 #[v] w fun e w' => ∃ v', e = .returned v' ∧ RowO base 9 1 v' (gather l).length (strC (gather l)) w' ∧ w.grownBy w' (blkOf v) := by
  obtain ⟨a, c, rfl, hc⟩ := h.slice
  by_cases h0 : l.length = 0
  · have hl : l = [] := List.eq_nil_of_length_eq_zero h0
    subst hl
    refine (Any.slices_Compact_string_empty Tryz.compactT a c w).mono ?_
    rintro e w' ⟨rfl, rfl⟩
    exact ⟨_, rfl, h, World.grownBy.refl _ _⟩
  · obtain ⟨b, cc, hbc⟩ : ∃ b cc, (Value.slice a l.length c) = .slice (some ⟨b, 0, none⟩) l.length (cc + 1) := by
      obtain ⟨x, hx, -⟩ := lt_get (l := l) (i := 0) (by omega)
      obtain ⟨b, c', e, -⟩ := h.cell (j := 0) (u := .string x) (by rw [List.getElem?_map, hx]; rfl)
      injection e with e1 e2 e3
      cases c with
      | zero => omega
      | succ c => exact ⟨b, c, by rw [e1]⟩
    injection hbc with e1 e2 e3
    subst e1 e3
    have hlt := h.blk_lt (g := b) rfl
    have hmap : ∀ m : List ByteArray, (m.map (fun t => t.data.toList)).map encStr = strC m := fun m => by
      rw [List.map_map]; apply List.map_congr_left; intro t _; exact encStr_of t
    have hH : Holds encStr w b 0 (l.map (fun t => t.data.toList)).toArray := holds_of_row encStr (k := 1) (by simpa [hmap] using h)
    have hC := Any.slices_Compact_string Tryz.compactT b 0 (cc + 1) (l.map (fun t => t.data.toList)) w hH (by simp; omega) (by simpa using hc)
    have hcm := compact_rising l hs
    have hle : (Lib.compact (l.map fun t => t.data.toList)).length ≤ l.length := by
      unfold Lib.compact compactUpTo
      rw [List.length_map, List.length_map]
      exact Nat.le_trans (List.length_filter_le _ _) (by simp)
    generalize Lib.compact (l.map fun t => t.data.toList) = M at *
    have hg : M.map tx = gather l := inc_one hcm.1 (gather_inc l) fun x => by rw [hcm.2, gather_mem]
    have hgl : (gather l).length = M.length := by rw [← hg, List.length_map]
    rw [List.length_map] at hC
    refine hC.mono ?_
    rintro e w' ⟨rfl, q, rfl⟩
    obtain ⟨r1, r2⟩ := row_sorted encStr (k := 1) h hlt (M ++ List.replicate (l.length - M.length) []).toArray (by simp; omega) q #[]
    rw [grow_empty] at r1 r2
    obtain ⟨-, cur2, hcur2⟩ := r1.blk (g := b) rfl
    have r3 := r1.cut (i := M.length) hcur2 hcur2 rfl hle (fun _ _ => rfl)
    refine ⟨_, rfl, ?_, ⟨r2.os, r2.tape, r2.output, r2.size, fun k hk hne => r2.block k hk fun e => hne (by rw [e]; rfl)⟩⟩
    rw [hgl]
    have e4 : ((M ++ List.replicate (l.length - M.length) []).toArray.toList.map encStr).take (M.length * 1) = strC (gather l) := by
      rw [← hg, Nat.mul_one]
      simp [encStr, tx, Function.comp_def]
    rw [e4] at r3
    exact r3
end Go.Proofs.YtgpjcgcecahddaaGreatDoor
