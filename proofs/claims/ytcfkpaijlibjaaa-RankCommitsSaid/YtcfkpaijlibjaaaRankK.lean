/- The walk of jotterlaw10.awake. -/
import Derived.Test.YtcfkpaijlibjaaaRankA
import Derived.Deep.DrawnRows
set_option linter.unusedVariables false
set_option linter.unusedSimpArgs false
namespace Go.Proofs.Ytcfkpaijlibjaaa
open Go.RowKit Go.Lib Go.Maps
attribute [local go_sem ↓] Go.wp_at_zero Go.wp_at_succ
/-- A part of what reads. -/
theorem Reads.cut {α : Type} {R : World → α → List Value → Prop} {k : Nat} {w : World} {b off n c : Nat} {l : List α} (h : Reads R k w (.slice (some ⟨b, off, none⟩) n c) l) {i j : Nat} (hij : i ≤ j) (hj : j ≤ l.length) :
    Reads R k w (.slice (some ⟨b, off + i * k, none⟩) (j - i) (c - i)) ((l.take j).drop i) := by
  obtain ⟨a, c', e, hc, hr⟩ := h
  injection e with e1 e2 e3
  subst e1 e3
  have hl : ((l.take j).drop i).length = j - i := by rw [List.length_drop, List.length_take]; omega
  refine ⟨_, _, by rw [hl], by omega, fun hp => ?_⟩
  obtain ⟨b', off', e, hb, hcs⟩ := hr (by omega)
  injection e with e
  injection e with e1 e2
  subst e1 e2
  refine ⟨b, _, rfl, hb, fun r hr => ?_⟩
  obtain ⟨cs, h1, h2, h3⟩ := hcs (i + r) (by omega)
  refine ⟨cs, h1, fun x hx => h2 x ?_, fun q v hq => ?_⟩
  · rw [List.getElem?_drop, List.getElem?_take_of_lt (by omega)] at hx; exact hx
  · have := h3 q v hq
    rw [Nat.add_mul] at this
    rw [show off + i * k + r * k + q = off + (i * k + r * k) + q by omega]; exact this
theorem three_wf : ∀ x ∈ threeF, Wf x.pg := by
  intro x hx
  unfold threeF mkF at hx
  simp only [List.mem_cons, List.not_mem_nil, or_false] at hx
  rcases hx with rfl | rfl | rfl <;> (unfold Wf; constructor <;> decide)
theorem three_all {m : List Found} (h : IsAll threeF m) : m = threeF.take 1 := by
  have h3 : liveF threeF 3 = some (mkF 1 3 1 4) := by rfl
  have hn : ∀ p, p ≠ 3 → liveF threeF p = none := by
    intro p hp
    cases hl : liveF threeF p with
    | none => rfl
    | some x =>
      obtain ⟨h1, h2, h3, h4⟩ := live_spec hl
      unfold threeF mkF at h1
      simp only [List.mem_cons, List.not_mem_nil, or_false] at h1
      rcases h1 with rfl | rfl | rfl
      · exact absurd h3.symm hp
      · exact absurd h2 (by decide)
      · exact absurd h3.symm hp
  refine sorted_ext h.1 (by simp [threeF]) fun x => ?_
  rw [h.2]
  by_cases hp : x.pg = 3
  · rw [hp, h3]
    constructor
    · intro e; rw [← Option.some.inj e]; simp [threeF]
    · intro e
      have : x = mkF 1 3 1 4 := by simpa [threeF] using e
      rw [this]
  · rw [hn _ hp]
    constructor
    · intro e; cases e
    · intro e
      have : x = mkF 1 3 1 4 := by simpa [threeF] using e
      rw [this] at hp; exact absurd rfl hp
theorem three_cells {w : World} {b : Nat} (h : Founds w (.slice (some ⟨b, 0, none⟩) 3 3) threeF) :
    (w.cell? ⟨b, 0, none⟩ = some (.int .i64 4) ∧ w.cell? ⟨b, 1, none⟩ = some (.int .i64 0) ∧ w.cell? ⟨b, 2, none⟩ = some (.int .i64 1) ∧ w.cell? ⟨b, 3, none⟩ = some (.int .i64 3) ∧ w.cell? ⟨b, 4, none⟩ = some (.int .i64 4) ∧ w.cell? ⟨b, 5, none⟩ = some (.int .i64 1)) ∧
    (w.cell? ⟨b, 14, none⟩ = some (.int .i64 1) ∧ w.cell? ⟨b, 15, none⟩ = some (.int .i64 3) ∧ w.cell? ⟨b, 16, none⟩ = some (.int .i64 6) ∧ w.cell? ⟨b, 17, none⟩ = some (.int .i64 2)) ∧ b < w.heap.size := by
  obtain ⟨b1, o1, e, hb, h0, h1, h2, h3, h4, h5⟩ := h.at (i := 0) (x := mkF 1 3 1 4) rfl
  injection e with e
  injection e with e1 e2
  subst e1 e2
  obtain ⟨b2, o2, e, -, k0, k1, k2, k3, k4, k5⟩ := h.at (i := 2) (x := mkF 1 3 2 6) rfl
  injection e with e
  injection e with e1 e2
  subst e1 e2
  exact ⟨⟨h0, h1, h2, h3, h4, h5⟩, ⟨k2, k3, k4, k5⟩, hb⟩
theorem three_head {w : World} {b : Nat} (h : Founds w (.slice (some ⟨b, 0, none⟩) 3 3) threeF) : Founds w (.slice (some ⟨b, 0, none⟩) 1 3) (threeF.take 1) := Reads.cut (i := 0) (j := 1) h (by decide) (by decide)
theorem three_tail {w : World} {b : Nat} (h : Founds w (.slice (some ⟨b, 0, none⟩) 3 3) threeF) : Founds w (.slice (some ⟨b, 12, none⟩) 1 1) (staleF threeF) := Reads.cut (i := 2) (j := 3) h (by decide) (by decide)
abbrev S6 (b : Nat) (w' : World) : Prop := w'.cell? ⟨b, 0, none⟩ = some (.int .i64 4) ∧ w'.cell? ⟨b, 1, none⟩ = some (.int .i64 0) ∧ w'.cell? ⟨b, 2, none⟩ = some (.int .i64 1) ∧ w'.cell? ⟨b, 3, none⟩ = some (.int .i64 3) ∧ w'.cell? ⟨b, 4, none⟩ = some (.int .i64 4) ∧ w'.cell? ⟨b, 5, none⟩ = some (.int .i64 1)
theorem S6.grow {b : Nat} {w w' : World} (h : S6 b w) (hb : b < w.heap.size) (g : Grow w w') : S6 b w' := ⟨(g.cells _ _ hb).trans h.1, (g.cells _ _ hb).trans h.2.1, (g.cells _ _ hb).trans h.2.2.1, (g.cells _ _ hb).trans h.2.2.2.1, (g.cells _ _ hb).trans h.2.2.2.2.1, (g.cells _ _ hb).trans h.2.2.2.2.2⟩
set_option maxRecDepth 100000 in
set_option maxHeartbeats 4000000 in
theorem awake10_any (w : World) : Calls Try.prog 12 #[] w fun e w' => e = .returned (.bool true) ∧ Grow w w' := by
  have cL3 : ∀ v W, Founds W v threeF → Calls Try.prog 38 #[v, .int .i64 3] W fun e w' => e = .returned (.tuple #[.agg #[.int .i64 4, .int .i64 0, .int .i64 1, .int .i64 3, .int .i64 4, .int .i64 1], .bool true]) ∧ Grow W w' := fun v W h => live_any v threeF 3 W h (by decide) three_wf (by unfold Wf; decide)
  have cL4 : ∀ v W, Founds W v threeF → Calls Try.prog 38 #[v, .int .i64 4] W fun e w' => e = .returned (.tuple #[.agg #[.int .i64 0, .int .i64 0, .int .i64 0, .int .i64 0, .int .i64 0, .int .i64 0], .bool false]) ∧ Grow W w' := fun v W h => live_any v threeF 4 W h (by decide) three_wf (by unfold Wf; decide)
  have cLa : ∀ v W, Founds W v threeF → Calls Try.prog 15 #[v] W fun e w' => e = .returned (.int .i64 1) ∧ Grow W w' := fun v W h => last_any v threeF W h (by decide)
  have cSa : ∀ va vb l W, Founds W va l → Founds W vb l → l.length ≤ 1000000000 → Calls Try.prog 16 #[va, vb] W fun e w' => e = .returned (.bool true) ∧ Grow W w' := fun va vb l W h1 h2 hl => by
    have := sameFounds_any va vb l l W h1 h2 hl
    rw [same_yes rfl] at this; exact this
  have cNe : ∀ W, Calls Try.prog 40 #[.agg #[.int .i64 1, .int .i64 3, .int .i64 6, .int .i64 2], .agg #[.int .i64 1, .int .i64 3, .int .i64 4, .int .i64 1]] W fun e w' => e = .returned (.bool true) ∧ Grow W w' := fun W => newer_any (mkF 1 3 2 6) (mkF 1 3 1 4) W
  go_enter Try.func12, Try.ntmps12
  go_wp2_with fail
  refine (three_any _).mono ?_
  rintro e w1 ⟨b1, rfl, hf1, g1⟩
  go_wp2_with fail
  refine (cL3 _ _ hf1).mono ?_
  rintro e w2 ⟨rfl, g2⟩
  go_wp2_with fail
  have gA := (g1.trans g2).alloc (.cells #[.int .i64 4, .int .i64 0, .int .i64 1, .int .i64 3, .int .i64 4, .int .i64 1] 30)
  have hbA := heap_alloc_new w2 (.cells #[.int .i64 4, .int .i64 0, .int .i64 1, .int .i64 3, .int .i64 4, .int .i64 1] 30)
  have HBA := Lib.hid hbA
  clear hbA g1 g2 hf1
  refine (three_any _).mono ?_
  rintro e w3 ⟨b2, rfl, hf2, g3⟩
  have HBB := Lib.hid (g3.blk HBA.out)
  have gB := gA.trans g3
  clear g3 gA
  go_wp2_with fail
  refine (cL4 _ _ hf2).mono ?_
  rintro e w4 ⟨rfl, g4⟩
  have HBC := Lib.hid (g4.blk HBB.out)
  have gC := gB.trans g4
  generalize hbx : w2.heap.size = bx at *
  clear hbx gB
  go_upto_region 3 with (fail)
  generalize hV : w4.alloc (.cells #[.int .i64 0, .int .i64 0, .int .i64 0, .int .i64 0, .int .i64 0, .int .i64 0] 30) = V
  have gV : Grow w V := by rw [← hV]; exact gC.alloc _
  have gV4 : Grow w4 V := by rw [← hV]; exact (Grow.refl w4).alloc _
  have hb4 : V.heap[bx]? = some (.cells #[.int .i64 4, .int .i64 0, .int .i64 1, .int .i64 3, .int .i64 4, .int .i64 1] 30 (0, 0)) := by rw [← hV]; exact ((Grow.refl w4).alloc _).blk HBC.out
  have s0 : S6 bx V.drew := box6 hb4
  have hbV : bx < V.heap.size := (Array.getElem?_eq_some_iff.1 hb4).1
  have gD := gV.drew
  have hq : ∀ W, (binOp .eql 30 (.agg #[.int .i64 4, .int .i64 0, .int .i64 1, .int .i64 3, .int .i64 4, .int .i64 1]) (.agg #[.int .i64 4, .int .i64 0, .int .i64 1, .int .i64 3, .int .i64 4, .int .i64 1])).run Try.prog W = .ok (.bool true) W := fun W => eqlFound (mkF 1 3 1 4) (mkF 1 3 1 4) true (by decide) W
  clear hV hb4 HBA HBB HBC gC
  have hf := Founds.grow (Founds.grow (Founds.grow hf2 g4) gV4) (Grow.refl V).drew
  have hA : Founds V.drew (.slice none 0 0) [] := Reads.nil
  have hB : Founds V.drew (.slice none 0 0) [] := Reads.nil
  clear hf2 g4 gV4
  have tokA : True := trivial
  obtain ⟨z0, z1, z2, z3, z4, z5⟩ := id s0
  go_region_with
    (first
      | (go_at_call 39; refine (three_any _).mono ?_; rintro e v1 ⟨d1, rfl, hf1, k1⟩; obtain ⟨⟨x0, x1, x2, x3, x4, x5⟩, ⟨x6, x7, x8, x9⟩, -⟩ := three_cells (Founds.grow hf k1); have s9 := S6.grow s0 hbV k1; clear z0 z1 z2 z3 z4 z5 s0; have s0 := s9; clear s9; obtain ⟨z0, z1, z2, z3, z4, z5⟩ := id s0; replace hbV := Nat.lt_of_lt_of_le hbV k1.size; replace gD := gD.trans k1; replace hA := Founds.grow hA k1; replace hB := Founds.grow hB k1; obtain ⟨⟨y0, y1, y2, y3, y4, y5⟩, ⟨y6, y7, y8, y9⟩, -⟩ := three_cells hf1; have hf := hf1)
      | (go_at_call 15; refine (cLa _ _ hf).mono ?_; rintro e v1 ⟨rfl, k1⟩; have hf := Founds.grow hf k1; have s9 := S6.grow s0 hbV k1; clear z0 z1 z2 z3 z4 z5 s0; have s0 := s9; clear s9; obtain ⟨z0, z1, z2, z3, z4, z5⟩ := id s0; replace hbV := Nat.lt_of_lt_of_le hbV k1.size; replace gD := gD.trans k1; replace hA := Founds.grow hA k1; replace hB := Founds.grow hB k1)
      | (go_at_call 14; refine (all_any _ threeF _ hf (by decide) three_wf).mono ?_; rintro e v1 ⟨va, m, rfl, hm, hown, -⟩; obtain rfl := three_all hm; have k1 := hown.grow; have hf := Founds.grow hf k1; have s9 := S6.grow s0 hbV k1; clear z0 z1 z2 z3 z4 z5 s0; have s0 := s9; clear s9; obtain ⟨z0, z1, z2, z3, z4, z5⟩ := id s0; replace hbV := Nat.lt_of_lt_of_le hbV k1.size; replace gD := gD.trans k1; replace hA := Founds.grow hA k1; replace hB := Founds.grow hB k1; have hA := hown.reads' (fun _ _ _ _ h => h))
      | (go_at_call 17; refine (stale_any _ threeF _ hf (by decide)).mono ?_; rintro e v1 ⟨vs, rfl, hown⟩; have k1 := hown.grow; have hf := Founds.grow hf k1; have s9 := S6.grow s0 hbV k1; clear z0 z1 z2 z3 z4 z5 s0; have s0 := s9; clear s9; obtain ⟨z0, z1, z2, z3, z4, z5⟩ := id s0; replace hbV := Nat.lt_of_lt_of_le hbV k1.size; replace gD := gD.trans k1; replace hA := Founds.grow hA k1; replace hB := Founds.grow hB k1; have hB := hown.reads' (fun _ _ _ _ h => h))
      | (go_at_call 16; have _t := tokA; refine (cSa _ _ _ _ hA (three_head hf) (by decide)).mono ?_; rintro e v1 ⟨rfl, k1⟩; have hf := Founds.grow hf k1; have s9 := S6.grow s0 hbV k1; clear z0 z1 z2 z3 z4 z5 s0; have s0 := s9; clear s9; obtain ⟨z0, z1, z2, z3, z4, z5⟩ := id s0; replace hbV := Nat.lt_of_lt_of_le hbV k1.size; replace gD := gD.trans k1; replace hA := Founds.grow hA k1; replace hB := Founds.grow hB k1; clear tokA)
      | (go_at_call 16; refine (cSa _ _ _ _ hB (three_tail hf) (by decide)).mono ?_; rintro e v1 ⟨rfl, k1⟩; have hf := Founds.grow hf k1; have s9 := S6.grow s0 hbV k1; clear z0 z1 z2 z3 z4 z5 s0; have s0 := s9; clear s9; obtain ⟨z0, z1, z2, z3, z4, z5⟩ := id s0; replace hbV := Nat.lt_of_lt_of_le hbV k1.size; replace gD := gD.trans k1; replace hA := Founds.grow hA k1; replace hB := Founds.grow hB k1)
      | (go_at_call 40; refine (cNe _).mono ?_; rintro e v1 ⟨rfl, k1⟩; have hf := Founds.grow hf k1; have s9 := S6.grow s0 hbV k1; clear z0 z1 z2 z3 z4 z5 s0; have s0 := s9; clear s9; obtain ⟨z0, z1, z2, z3, z4, z5⟩ := id s0; replace hbV := Nat.lt_of_lt_of_le hbV k1.size; replace gD := gD.trans k1; replace hA := Founds.grow hA k1; replace hB := Founds.grow hB k1))
  all_goals
    go_wp2_with fail
    go_ret
    exact ⟨rfl, gD⟩
end Go.Proofs.Ytcfkpaijlibjaaa
