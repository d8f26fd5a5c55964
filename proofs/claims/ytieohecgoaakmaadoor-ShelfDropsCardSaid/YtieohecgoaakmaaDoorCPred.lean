/- The predicates of Drop and Discard. -/
import Derived.Test.YtieohecgoaakmaaDoorDel
import Derived.Test.YtieohecgoaakmaaDoorSt
set_option linter.unusedVariables false
set_option linter.unusedSimpArgs false
namespace Go.Proofs.YtieohecgoaakmaaDoor
open Go.RowKit Go.Lib
set_option maxRecDepth 100000 in
theorem drop1_any (x : Book) (n : Int) (B : Nat) (w : World) (h : w.heap[B]? = some (.cells #[.int .i64 n] 3 (0, 0))) :
    Calls Tryd.prog 42 #[bookV x, .pointer (some ⟨B, 0, none⟩)] w fun e w' => e = .returned (.bool (x.id == n)) ∧ Grow w w' := by
  have hb : B < w.heap.size := (Array.getElem?_eq_some_iff.1 h).1
  have h0 : w.cell? ⟨B, 0, none⟩ = some (.int .i64 n) := (cell_of_row w B 0 _ _ _ h).trans rfl
  clear h
  unfold bookV
  go_enter Tryd.func42, Tryd.ntmps42
  go_wp2_with fail
  go_ret
  exact ⟨rfl, (Grow.refl w).alloc _⟩
set_option maxRecDepth 100000 in
theorem drop2_any (x : Note) (tv sv : Value) (n : Int) (B : Nat) (w : World) (h : w.heap[B]? = some (.cells #[.int .i64 n] 3 (0, 0))) :
    Calls Tryd.prog 44 #[noteV x tv sv, .pointer (some ⟨B, 0, none⟩)] w fun e w' => e = .returned (.bool (x.book == n)) ∧ Grow w w' := by
  have hb : B < w.heap.size := (Array.getElem?_eq_some_iff.1 h).1
  have h0 : w.cell? ⟨B, 0, none⟩ = some (.int .i64 n) := (cell_of_row w B 0 _ _ _ h).trans rfl
  clear h
  unfold noteV
  go_enter Tryd.func44, Tryd.ntmps44
  go_wp2_with fail
  go_ret
  exact ⟨rfl, (Grow.refl w).alloc _⟩
set_option maxRecDepth 100000 in
theorem disc1_any (x : Note) (tv sv : Value) (n : Int) (B : Nat) (w : World) (h : w.heap[B]? = some (.cells #[.int .i64 n] 3 (0, 0))) :
    Calls Tryd.prog 45 #[noteV x tv sv, .pointer (some ⟨B, 0, none⟩)] w fun e w' => e = .returned (.bool (x.id == n)) ∧ Grow w w' := by
  have hb : B < w.heap.size := (Array.getElem?_eq_some_iff.1 h).1
  have h0 : w.cell? ⟨B, 0, none⟩ = some (.int .i64 n) := (cell_of_row w B 0 _ _ _ h).trans rfl
  clear h
  unfold noteV
  go_enter Tryd.func45, Tryd.ntmps45
  go_wp2_with fail
  go_ret
  exact ⟨rfl, (Grow.refl w).alloc _⟩
theorem idx_map {α β : Type} (f : α → β) (p : β → Bool) : ∀ l : List α, idx p (l.map f) = idx (fun x => p (f x)) l
  | [] => rfl
  | x :: l => by
    rw [List.map_cons]
    unfold idx
    rw [idx_map f p l]
theorem nv_slices {base : Nat} {bv nv : Value} {X : List Book} {Y : List NV} {w : World} (h : OwnS base bv nv X Y w) : ∀ x ∈ Y, ∃ ta tn tc sa sn sc, x.tv = .slice ta tn tc ∧ x.sv = .slice sa sn sc := fun x hx => by
  obtain ⟨a, c, e, -⟩ := (h.tags x hx).slice
  obtain ⟨a', c', e', -⟩ := (h.sheets x hx).slice
  exact ⟨a, _, c, a', _, c', e, e'⟩
set_option maxRecDepth 100000 in
/-- DeleteFunc at the books of a shelf in work. -/
theorem dropB {w0 w : World} {B D : Nat} {nb nn ns : Int} {bv nv : Value} {X : List Book} {Y : List NV} (h : StB w0 B D nb nn ns bv nv X Y w) (hl : X.length ≤ 1000000) {I : Nat} {id : Int} (hI : w.heap[I]? = some (.cells #[.int .i64 id] 3 (0, 0))) :
    Calls Tryd.prog 41 #[bv, .func (.func 42) #[] #[.pointer (some ⟨I, 0, none⟩)]] w fun e w' => ∃ v', e = .returned v' ∧ RowO w0.heap.size 58 2 v' (X.filter fun x => !(x.id == id)).length ((X.filter fun x => !(x.id == id)).flatMap bookC) w' ∧ w.grownBy w' (blkOf bv) ∧ blkOf v' = blkOf bv := by
  have hp : ∀ W (x : Book), Kept 58 w W → w.heap.size ≤ W.heap.size → x ∈ X → Calls Tryd.prog 42 (#[.agg #[.int .i64 x.id, .string x.name]] ++ #[.pointer (some ⟨I, 0, none⟩)]) W fun e w' => e = .returned (.bool (x.id == id)) ∧ Grow W w' := fun W x k _ _ => drop1_any x id I W (k _ _ _ _ (by decide) hI)
  exact delBooks w0.heap.size bv X _ _ (fun x => x.id == id) w h.own.books hl h.grow.size (fun _ _ => rfl) hp (indexBooks bv X _ _ _ w h.own.reads.1 (by omega) (fun _ _ => rfl) fun W x g hx => hp W x (Kept.of_grow g) g.size hx)
set_option maxRecDepth 100000 in
theorem dropN {w0 w : World} {B D : Nat} {nb nn ns : Int} {bv nv : Value} {X : List Book} {Y : List NV} (h : StB w0 B D nb nn ns bv nv X Y w) (hl : Y.length ≤ 1000000) {I : Nat} {id : Int} (hI : w.heap[I]? = some (.cells #[.int .i64 id] 3 (0, 0))) :
    Calls Tryd.prog 43 #[nv, .func (.func 44) #[] #[.pointer (some ⟨I, 0, none⟩)]] w fun e w' => ∃ v', e = .returned v' ∧ RowO w0.heap.size 38 5 v' (Y.filter fun y => !(y.n.book == id)).length ((Y.filter fun y => !(y.n.book == id)).flatMap noteC) w' ∧ w.grownBy w' (blkOf nv) ∧ blkOf v' = blkOf nv := by
  have hp : ∀ W (x : Note) tv sv, Kept 38 w W → Calls Tryd.prog 44 (#[noteV x tv sv] ++ #[.pointer (some ⟨I, 0, none⟩)]) W fun e w' => e = .returned (.bool (x.book == id)) ∧ Grow W w' := fun W x tv sv k => drop2_any x tv sv id I W (k _ _ _ _ (by decide) hI)
  have hix := indexNotes nv (Y.map NV.n) 44 #[.pointer (some ⟨I, 0, none⟩)] (fun x => x.book == id) w h.own.reads.2 (by rw [List.length_map]; omega) (fun _ _ => rfl) fun W x _ _ _ _ g _ => hp W x _ _ (Kept.of_grow g)
  rw [idx_map] at hix
  exact delNotes w0.heap.size nv Y _ _ (fun y => y.n.book == id) w h.own.notes hl h.grow.size (fun _ _ => rfl) (nv_slices h.own) (fun W y k _ _ => hp W y.n y.tv y.sv k) hix
set_option maxRecDepth 100000 in
theorem discN {w0 w : World} {B D : Nat} {nb nn ns : Int} {bv nv : Value} {X : List Book} {Y : List NV} (h : StB w0 B D nb nn ns bv nv X Y w) (hl : Y.length ≤ 1000000) {I : Nat} {id : Int} (hI : w.heap[I]? = some (.cells #[.int .i64 id] 3 (0, 0))) :
    Calls Tryd.prog 43 #[nv, .func (.func 45) #[] #[.pointer (some ⟨I, 0, none⟩)]] w fun e w' => ∃ v', e = .returned v' ∧ RowO w0.heap.size 38 5 v' (Y.filter fun y => !(y.n.id == id)).length ((Y.filter fun y => !(y.n.id == id)).flatMap noteC) w' ∧ w.grownBy w' (blkOf nv) ∧ blkOf v' = blkOf nv := by
  have hp : ∀ W (x : Note) tv sv, Kept 38 w W → Calls Tryd.prog 45 (#[noteV x tv sv] ++ #[.pointer (some ⟨I, 0, none⟩)]) W fun e w' => e = .returned (.bool (x.id == id)) ∧ Grow W w' := fun W x tv sv k => disc1_any x tv sv id I W (k _ _ _ _ (by decide) hI)
  have hix := indexNotes nv (Y.map NV.n) 45 #[.pointer (some ⟨I, 0, none⟩)] (fun x => x.id == id) w h.own.reads.2 (by rw [List.length_map]; omega) (fun _ _ => rfl) fun W x _ _ _ _ g _ => hp W x _ _ (Kept.of_grow g)
  rw [idx_map] at hix
  exact delNotes w0.heap.size nv Y _ _ (fun y => y.n.id == id) w h.own.notes hl h.grow.size (fun _ _ => rfl) (nv_slices h.own) (fun W y k _ _ => hp W y.n y.tv y.sv k) hix
end Go.Proofs.YtieohecgoaakmaaDoor
