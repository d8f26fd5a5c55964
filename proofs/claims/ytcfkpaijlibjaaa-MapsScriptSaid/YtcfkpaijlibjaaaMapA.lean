/- maps.New, At, Who of a map. -/
import Derived.Test.YtcfkpaijlibjaaaMapN
import Derived.Test.YtcfkpaijlibjaaaGr
set_option linter.unusedVariables false
set_option linter.unusedSimpArgs false
namespace Go.Proofs.Ytcfkpaijlibjaaa
open Go.RowKit Go.Lib Go.Maps
abbrev mapO (g : Geo) (a h : Nat) : Obj := .cells #[.int .i64 g.blocks, .int .i64 g.pages, .int .i64 g.bytes, .int .i64 g.spares, .int .i64 g.trigger, .map (some a), .map (some h)] 76
/-- Block B is a map of pages and places: 'A' where pages stand, 'H' which page stands at a place; at most n entries. -/
def MSt (w : World) (B a h : Nat) (g : Geo) (n : Nat) (A : Int → Option Pl) (H : Pl → Option Int) : Prop :=
  w.heap[B]? = some (mapO g a h) ∧ AtMap w a n A ∧ WhoMap w h n H ∧ a ≠ h ∧ B ≠ a ∧ B ≠ h
theorem MSt.grow {w w' : World} {B a h : Nat} {g : Geo} {n : Nat} {A : Int → Option Pl} {H : Pl → Option Int} (s : MSt w B a h g n A H) (e : Grow w w') : MSt w' B a h g n A H :=
  ⟨e.blk s.1, s.2.1.grow e, s.2.2.1.grow e, s.2.2.2⟩
theorem map7 {w : World} {b : Nat} {t : TypeId} {m : Nat × Nat} {u0 u1 u2 u3 u4 u5 u6 : Value} (hb : w.heap[b]? = some (.cells #[u0, u1, u2, u3, u4, u5, u6] t m)) :
    w.cell? ⟨b, 0, none⟩ = some u0 ∧ w.cell? ⟨b, 1, none⟩ = some u1 ∧ w.cell? ⟨b, 2, none⟩ = some u2 ∧ w.cell? ⟨b, 3, none⟩ = some u3 ∧ w.cell? ⟨b, 4, none⟩ = some u4 ∧ w.cell? ⟨b, 5, none⟩ = some u5 ∧ w.cell? ⟨b, 6, none⟩ = some u6 :=
  ⟨(cell_of_row w b 0 _ _ _ hb).trans rfl, (cell_of_row w b 1 _ _ _ hb).trans rfl, (cell_of_row w b 2 _ _ _ hb).trans rfl, (cell_of_row w b 3 _ _ _ hb).trans rfl, (cell_of_row w b 4 _ _ _ hb).trans rfl, (cell_of_row w b 5 _ _ _ hb).trans rfl, (cell_of_row w b 6 _ _ _ hb).trans rfl⟩
set_option maxRecDepth 100000 in
theorem new_no (g : Geo) (w : World) (h : mayG g = false) : Calls Try.prog 20 #[geoV g] w fun e w' => e = .returned (.pointer none) ∧ Grow w w' := by
  have c := fun W => mayG_any g W
  rw [h] at c
  clear h
  go_enter Try.func20, Try.ntmps20
  go_wp2_with fail
  refine (c _).mono ?_
  rintro e w1 ⟨rfl, g1⟩
  go_wp2_with fail
  go_ret
  exact ⟨rfl, ((Grow.refl _).alloc _).trans g1⟩
def RetNew (g : Geo) (w : World) (e : Ending) (w' : World) : Prop := ∃ B a h, e = .returned (.pointer (some ⟨B, 0, none⟩)) ∧ w.heap.size ≤ B ∧ MSt w' B a h g 0 (fun _ => none) (fun _ => none) ∧ Grow w w'
theorem three_new (w : World) (g : Geo) : MSt (((w.alloc (.map #[] 0)).alloc (.map #[] 0)).alloc (mapO g w.heap.size (w.heap.size + 1))) (w.heap.size + 2) w.heap.size (w.heap.size + 1) g 0 (fun _ => none) (fun _ => none) := by
  have e1 : (w.alloc (.map #[] 0)).heap.size = w.heap.size + 1 := Array.size_push _
  have e2 : ((w.alloc (.map #[] 0)).alloc (.map #[] 0)).heap.size = w.heap.size + 2 := (Array.size_push _).trans (by rw [e1])
  refine ⟨?_, ?_, ?_, by omega, by omega, by omega⟩
  · have := heap_alloc_new ((w.alloc (.map #[] 0)).alloc (.map #[] 0)) (mapO g w.heap.size (w.heap.size + 1))
    rwa [e2] at this
  · exact (GMap.made w).grow (((Grow.refl _).alloc _).alloc _)
  · have := (GMap.made (K := Pl) (V := Int) (k := 28) (Wk := WfP) (kl := plL) (vd := inD) (R := elemE inV inD) (z := 0) (w.alloc (.map #[] 0)))
    rw [e1] at this
    exact this.grow ((Grow.refl _).alloc _)
set_option maxRecDepth 100000 in
theorem new_yes (g : Geo) (w : World) (h : mayG g = true) : Calls Try.prog 20 #[geoV g] w (RetNew g w) := by
  have c := fun W => mayG_any g W
  have hmm := @run_makeMap Try.prog
  have HX := Lib.hid (heap_alloc_new w (geoO g))
  rw [h] at c
  clear h
  go_enter Try.func20, Try.ntmps20
  go_wp2_with fail
  refine (c _).mono ?_
  rintro e w1 ⟨rfl, g1⟩
  obtain ⟨b0, b1, b2, b3, b4⟩ := geo5 (g1.blk HX.out)
  go_wp2_with fail
  go_ret
  have hg : Grow w w1 := ((Grow.refl w).alloc _).trans g1
  exact ⟨w1.heap.size + 2, w1.heap.size, w1.heap.size + 1, rfl, by have := hg.size; omega, three_new w1 g, ((hg.alloc _).alloc _).alloc _⟩
set_option maxRecDepth 100000 in
theorem at_map {w : World} {B a h : Nat} {g : Geo} {n : Nat} {A : Int → Option Pl} {H : Pl → Option Int} (s : MSt w B a h g n A H) (x : Int) (hx : Wf x) :
    Calls Try.prog 25 #[.pointer (some ⟨B, 0, none⟩), .int .i64 x] w fun e w' => e = .returned (.tuple #[plV ((A x).getD ⟨0, 0⟩), .bool (A x).isSome]) ∧ Grow w w' := by
  have g0 : Grow w (w.alloc (plO 0 0)) := (Grow.refl w).alloc _
  have hB : B < w.heap.size := (Array.getElem?_eq_some_iff.1 s.1).1
  obtain ⟨c0, c1, c2, c3, c4, c5, c6⟩ := map7 (g0.blk s.1)
  have hl := (s.2.1.grow g0).look_ok atKV hx
  generalize (A x).getD ⟨0, 0⟩ = y at *
  generalize (A x).isSome = r at *
  clear s
  go_enter Try.func25, Try.ntmps25
  go_wp2_with fail
  refine bodyPost_ret (v := .tuple #[plV y, .bool r]) ?_ rfl ?_
  · rw [results_cell_tmp rfl]
    go_simp
  · exact ⟨rfl, by repeat' (first | with_reducible exact Grow.refl _ | with_reducible refine Grow.set ?_ (by simp) _ | with_reducible refine Grow.alloc ?_ _)⟩
set_option maxRecDepth 100000 in
theorem who_map {w : World} {B a h : Nat} {g : Geo} {n : Nat} {A : Int → Option Pl} {H : Pl → Option Int} (s : MSt w B a h g n A H) (p : Pl) (hp : WfP p) :
    Calls Try.prog 26 #[.pointer (some ⟨B, 0, none⟩), plV p] w fun e w' => e = .returned (.tuple #[.int .i64 ((H p).getD 0), .bool (H p).isSome]) ∧ Grow w w' := by
  have g0 : Grow w (w.alloc (plO p.b p.p)) := (Grow.refl w).alloc _
  have hB : B < w.heap.size := (Array.getElem?_eq_some_iff.1 s.1).1
  obtain ⟨c0, c1, c2, c3, c4, c5, c6⟩ := map7 (g0.blk s.1)
  have hl := fun k => (s.2.2.1.grow (g0.drewN k)).look_ok whoKV hp
  generalize (H p).getD 0 = y at *
  generalize (H p).isSome = r at *
  clear s
  go_enter Try.func26, Try.ntmps26
  go_wp2_with fail
  go_quiet (fail)
  go_wp2_with fail
  refine bodyPost_ret (v := .tuple #[.int .i64 y, .bool r]) (by simp [results, Try.results26, go_sem]) rfl ⟨rfl, ?_⟩
  exact ((Grow.refl w).alloc _).drewN _
end Go.Proofs.Ytcfkpaijlibjaaa
