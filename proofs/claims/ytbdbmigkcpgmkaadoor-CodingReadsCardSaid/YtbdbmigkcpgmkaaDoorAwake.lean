/- The walk of chapter 19's awake. -/
import Derived.Test.YtbdbmigkcpgmkaaDoorGreat
import Derived.Test.YtbdbmigkcpgmkaaDoorGr
import Derived.Test.YtbdbmigkcpgmkaaDoorSameY
import Derived.Test.YtbdbmigkcpgmkaaDoorSize
set_option linter.unusedVariables false
set_option linter.unusedSimpArgs false
namespace Go.Proofs.YtbdbmigkcpgmkaaDoor
open Go.RowKit Go.Lib
theorem gr_of {V w : World} (g : Grow V w) : ∃ y : Gr V, w = y.W := ⟨⟨w, g⟩, rfl⟩
theorem lay_empty (W : World) (hT : Tabs W) : Calls Tryd.prog 23 #[.agg #[.int .i64 1, .int .i64 1, .int .i64 1, .slice none 0 0, .slice none 0 0]] W fun e w' => ∃ v, e = .returned (.tuple #[v, .int .i64 0]) ∧ Buf W v eleven w' :=
  (lay_any emptyS (.slice none 0 0) (.slice none 0 0) W ⟨Reads.nil, Reads.nil⟩ emptyS_tame hT).mono fun e w' hp => by
    rcases hp with ⟨h, _⟩ | ⟨_, v, he, hb⟩
    · exact absurd h (by decide)
    · exact ⟨v, he, hb⟩
theorem bytes_lit (W : World) : Bytes (W.alloc (.cells #[.int .u8 0, .int .u8 0, .int .u8 1, .int .u8 0, .int .u8 0, .int .u8 1, .int .u8 0, .int .u8 0, .int .u8 1, .int .u8 0, .int .u8 0] 5)) (.slice (some ⟨W.heap.size, 0, none⟩) 11 11) eleven := by
  refine ⟨_, 11, rfl, by decide, fun _ => ⟨W.heap.size, 0, rfl, by simp, fun i hi => ⟨[.int .u8 (eleven.getD i 0).toNat], rfl, fun x hx => ?_, fun j u hu => ?_⟩⟩⟩
  · unfold ByteR; rw [List.getD_eq_getElem?_getD, hx]; rfl
  · have h := cell_of_row _ W.heap.size i _ _ _ (heap_alloc_new W (.cells #[.int .u8 0, .int .u8 0, .int .u8 1, .int .u8 0, .int .u8 0, .int .u8 1, .int .u8 0, .int .u8 0, .int .u8 1, .int .u8 0, .int .u8 0] 5))
    have hj : j = 0 := by
      obtain ⟨h1, _⟩ := List.getElem?_eq_some_iff.1 hu
      simpa using h1
    subst hj
    have hu' : u = .int .u8 (eleven.getD i 0).toNat := by simpa using hu.symm
    rw [show 0 + i * 1 + 0 = i by omega, h, hu']
    have hi' : i < 11 := hi
    have hc : i = 0 ∨ i = 1 ∨ i = 2 ∨ i = 3 ∨ i = 4 ∨ i = 5 ∨ i = 6 ∨ i = 7 ∨ i = 8 ∨ i = 9 ∨ i = 10 := by omega
    clear h hu hi' hi
    rcases hc with rfl | rfl | rfl | rfl | rfl | rfl | rfl | rfl | rfl | rfl | rfl <;> rfl
theorem bytes_lit2 (W : World) (A : Obj) : Bytes ((W.alloc A).alloc (.cells #[.int .u8 0, .int .u8 0, .int .u8 1, .int .u8 0, .int .u8 0, .int .u8 1, .int .u8 0, .int .u8 0, .int .u8 1, .int .u8 0, .int .u8 0] 5)) (.slice (some ⟨W.heap.size + 1, 0, none⟩) 11 11) eleven := by
  have h := bytes_lit (W.alloc A)
  rw [show (W.alloc A).heap.size = W.heap.size + 1 by simp] at h
  exact h
theorem size_empty : sizeS emptyS = 11 := by unfold sizeS; rw [if_pos (by decide)]; rfl
set_option maxRecDepth 100000 in
set_option maxHeartbeats 4000000 in
theorem awake19_any (w : World) (hT : Tabs w) :
    Calls Tryd.prog 22 #[] w fun e w' => e = .returned (.bool true) ∧ Grow w w' := by
  have c1 := fun W (g : Grow w W) => lay_empty W (hT.below g)
  have c2 := fun v W (h : Bytes W v eleven) (g : Grow w W) => read_eleven v W h (hT.below g)
  have c3 := fun W => read_nil W
  have c4 := fun v v' W (h1 : Bytes W v eleven) (h2 : Bytes W v' eleven) => sameBytes_any v v' eleven eleven W h1 h2 (by decide)
  have c5 := fun W => sameShelf_any emptyS emptyS (.slice none 0 0) (.slice none 0 0) (.slice none 0 0) (.slice none 0 0) W ⟨Reads.nil, Reads.nil⟩ ⟨Reads.nil, Reads.nil⟩ emptyS_tame.1
  have c6 := fun W (g : Grow w W) => size_any emptyS (.slice none 0 0) (.slice none 0 0) W ⟨Reads.nil, Reads.nil⟩ emptyS_tame (hT.below g)
  rw [show same eleven eleven = true from same_yes rfl] at c4
  rw [show same emptyS emptyS = true from same_yes rfl] at c5
  rw [size_empty] at c6
  go_enter Tryd.func22, Tryd.ntmps22
  go_wp2_with fail
  refine (c1 _ ((Grow.refl w).alloc _)).mono ?_
  rintro e w1 ⟨v, rfl, hb⟩
  have hx := hb.bytes
  have g1 := hb.grow
  have hb1 := (Below.block g1 w.heap.size (by simp)).trans (heap_alloc_new w _)
  have gw1 := ((Grow.refl w).alloc _).trans g1
  clear hb
  go_wp2_with fail
  refine (c2 _ w1 hx gw1).mono ?_
  rintro e w2 ⟨rfl, g2⟩
  go_wp2_with fail
  refine (c3 _).mono ?_
  rintro e w3 ⟨rfl, g3⟩
  go_wp2_with fail
  have hb2 := (Below.block g3 w2.heap.size (by simp)).trans (heap_alloc_new w2 _)
  have gw3 := (gw1.trans g2).trans (((Grow.refl w2).alloc _).trans g3)
  replace hb1 := (Below.block ((g2.alloc _).trans g3) _ (by have := gw1.size; have := g1.size; simp at this; omega)).trans hb1
  have hz2 : w2.heap.size < w3.heap.size := by have := g3.size; simp at this; omega
  have hz1 : w.heap.size < w3.heap.size := by have := gw1.size; have := g2.size; have := g1.size; simp at this; omega
  have hx3 := Bytes.grow hx ((g2.alloc _).trans g3)
  have cA := c4 v (.slice (some ⟨w3.heap.size + 1, 0, none⟩) 11 11) ((w3.alloc (.cells #[.int .i64 0, .int .i64 0, .int .i64 0, .slice none 0 0, .slice none 0 0] 36)).alloc (.cells #[.int .u8 0, .int .u8 0, .int .u8 1, .int .u8 0, .int .u8 0, .int .u8 1, .int .u8 0, .int .u8 0, .int .u8 1, .int .u8 0, .int .u8 0] 5)) (Bytes.grow hx3 (((Grow.refl w3).alloc _).alloc _)) (bytes_lit2 w3 _)
  refine cA.mono ?_
  rintro e w4 ⟨rfl, g4⟩
  have g34 := (((Grow.refl w3).alloc _).alloc _).trans g4
  replace hb1 := (Below.block g34 _ hz1).trans hb1
  replace hb2 := (Below.block g34 _ hz2).trans hb2
  have gw4 := gw3.trans g34
  have hz1' : w.heap.size < w4.heap.size := by have := g34.size; omega
  have hz2' : w2.heap.size < w4.heap.size := by have := g34.size; omega
  clear cA hx hx3 g1 g2 g3 g4 c1 c2 c3 c4 gw1 gw3 g34 hz1 hz2
  have p0 := (cell_of_row w4 (w.heap.size) 0 _ _ _ hb1).trans rfl
  have p1 := (cell_of_row w4 (w.heap.size) 1 _ _ _ hb1).trans rfl
  have p2 := (cell_of_row w4 (w.heap.size) 2 _ _ _ hb1).trans rfl
  have p3 := (cell_of_row w4 (w.heap.size) 3 _ _ _ hb1).trans rfl
  have p4 := (cell_of_row w4 (w.heap.size) 4 _ _ _ hb1).trans rfl
  have q0 := (cell_of_row w4 (w2.heap.size) 0 _ _ _ hb2).trans rfl
  have q1 := (cell_of_row w4 (w2.heap.size) 1 _ _ _ hb2).trans rfl
  have q2 := (cell_of_row w4 (w2.heap.size) 2 _ _ _ hb2).trans rfl
  have q3 := (cell_of_row w4 (w2.heap.size) 3 _ _ _ hb2).trans rfl
  have q4 := (cell_of_row w4 (w2.heap.size) 4 _ _ _ hb2).trans rfl
  go_wp2_with fail
  refine (c5 _).mono ?_
  rintro e w5 ⟨rfl, g5⟩
  clear p0 p1 p2 p3 p4 q0 q1 q2 q3 q4
  replace hb1 := (Below.block g5 _ hz1').trans hb1
  replace hb2 := (Below.block g5 _ hz2').trans hb2
  have gw5 := gw4.trans g5
  clear g5 gw4 c5
  have p0 := (cell_of_row w5 (w.heap.size) 0 _ _ _ hb1).trans rfl
  have p1 := (cell_of_row w5 (w.heap.size) 1 _ _ _ hb1).trans rfl
  have p2 := (cell_of_row w5 (w.heap.size) 2 _ _ _ hb1).trans rfl
  have p3 := (cell_of_row w5 (w.heap.size) 3 _ _ _ hb1).trans rfl
  have p4 := (cell_of_row w5 (w.heap.size) 4 _ _ _ hb1).trans rfl
  go_wp2_with fail
  refine (c6 _ gw5).mono ?_
  rintro e w6 ⟨rfl, g6⟩
  clear p0 p1 p2 p3 p4 hb1 hb2 c6
  go_wp2_with fail
  go_ret
  exact ⟨rfl, gw5.trans g6⟩
end Go.Proofs.YtbdbmigkcpgmkaaDoor
