/- slices.DeleteFunc at notes, of whatever predicate that reads what lies below. slices.SortStableFunc at a few notes. The walk of shelf.Find. The walk of seek.Kin. The walk of seek.Kin. The awake of chapter 26. The walks of jotterlaw26.among and jotterlaw26.one. The walk of jotterlaw26.SeekJoins. The walk of jotterlaw26.in. An argument's cells, read: slices of whatever reads. An argument's cells, read as a shelf. -/
import Derived.Test.YtgpjcgcecahddaaGreatDoorJSeekJoinsd
import Derived.Test.YtgpjcgcecahddaaGreatDoorJSeekJoinse
import Derived.IntWalk
import Derived.Deep.RegionWith
import Derived.Deep.RegionHeld3
import Derived.Test.YtgpjcgcecahddaaGreatDoorJSeekJoinsc
import Derived.Test.YtgpjcgcecahddaaGreatDoorJSeekJoinsb
import Derived.Test.YtgpjcgcecahddaaGreatDoorJSeekJoinsa
import Derived.ProofKit
import Derived.ChangeArms
import Derived.ChangeShapes
import Derived.WideShapes
set_option linter.unusedVariables false
set_option linter.unusedSimpArgs false
namespace Go.Proofs.YtgpjcgcecahddaaGreatDoor
open Go.RowKit Go.Lib
set_option maxRecDepth 100000 in
set_option maxHeartbeats 4000000 in
theorem delNotesG (w0 : World) (v : Value) (X : List NV) (g : Nat) (lb : Array Value) (p : NV → Bool) (w : World) (h : RowO w0.heap.size 54 5 v X.length (X.flatMap noteC) w) (hz : X.length ≤ 1000000) (g0 : Grow w0 w) (eg : ∀ args w, (callFunc g args).run Tryz.prog w = .ok (.enter g args) w)
    (hsl : ∀ x ∈ X, ∃ ta tn tc sa sn sc, x.tv = .slice ta tn tc ∧ x.sv = .slice sa sn sc)
    (hp : ∀ W x, Grow w0 W → x ∈ X → Calls Tryz.prog g (#[.agg #[.int .i64 x.n.id, .int .i64 x.n.book, .string x.n.name, x.tv, x.sv]] ++ lb) W fun e w' => e = .returned (.bool (p x)) ∧ Grow W w')
    (hix : Calls Tryz.prog 89 #[v, .func (.func g) #[] lb] w fun e w' => e = .returned (.int .i64 (idx p X)) ∧ Grow w w') :
    Calls Tryz.prog 49 #[v, .func (.func g) #[] lb] w fun e w' => ∃ v', e = .returned v' ∧ RowO w0.heap.size 54 5 v' (X.filter fun x => !p x).length ((X.filter fun x => !p x).flatMap noteC) w' ∧ w.grownBy w' (blkOf v) ∧ blkOf v' = blkOf v := by
  obtain ⟨a, c, rfl, hc⟩ := h.slice
  have HH := Lib.hid h
  have HP := Lib.hid hp
  have HG0 := Lib.hid g0
  clear g0
  have hbd := idx_bd p X
  clear hp
  by_cases hneg : idx p X < 0
  · have HF := Lib.hid (filter_all hneg)
    have e1 : idx p X = -1 := by omega
    rw [e1] at hix
    clear h hneg e1 hbd
    go_enter Tryz.func49, Tryz.ntmps49
    go_wp2_with fail
    refine hix.mono ?_
    rintro e w1 ⟨rfl, g1⟩
    go_wp2_with fail
    go_ret
    exact ⟨_, rfl, by rw [HF.out]; exact HH.out.grow g1, ⟨g1.os, g1.tape, g1.output, g1.size, fun k hk _ => g1.block k hk⟩, rfl⟩
  · obtain ⟨i0, hi0⟩ : ∃ i0 : Nat, idx p X = i0 := ⟨(idx p X).toNat, by omega⟩
    have HM0 := Lib.hid (Mid.start hi0)
    obtain ⟨x0, hx0, -⟩ := idx_get hi0 (by omega)
    have hi0l : i0 < X.length := by have := (List.getElem?_eq_some_iff.1 hx0).1; simpa using this
    obtain ⟨b, cc, hbc⟩ : ∃ b cc, (Value.slice a X.length c) = .slice (some ⟨b, 0, none⟩) X.length (cc + 1) := by
      obtain ⟨x, hx, -⟩ := lt_get hi0l
      obtain ⟨u, hu⟩ : ∃ u, (X.flatMap noteC)[i0 * 5 + 0]? = some u := ⟨_, (flat_get noteC (fun _ => rfl) X i0 0 x hx (by decide)).trans rfl⟩
      obtain ⟨b, c', e, -⟩ := h.cell hu
      injection e with e1 e2 e3
      cases c with
      | zero => omega
      | succ c => exact ⟨b, c, by rw [e1]⟩
    injection hbc with e1 e2 e3
    subst e1 e3
    rw [hi0] at hix
    clear h hneg hbd hi0 hx0
    have HB := Lib.hid (HH.out.blk (g := b) rfl)
    have hi00 : ((i0 : Int) == -1) = false := by rw [beq_eq_false_iff_ne]; omega
    go_enter Tryz.func49, Tryz.ntmps49
    go_wp2_with fail
    refine hix.mono ?_
    rintro e w1 ⟨rfl, g1⟩
    have HG1 := Lib.hid g1
    clear hix g1
    go_wp2_with fail
    go_loopw [5, 6] (fun v5 v6 wx => ∃ (i j : Nat) (l' : List NV), v5 = .int .i64 i ∧ v6 = .int .i64 j ∧ Mid (fun x => !p x) X l' i j ∧ i < j ∧ RowO w0.heap.size 54 5 (.slice (some ⟨b, 0, none⟩) X.length (cc + 1)) X.length (l'.flatMap noteC) wx ∧ Turned b w wx) (fun _ v6 _ => X.length - (Go.RowKit.intOf v6).toNat)
    case atStart => exact ⟨i0, i0 + 1, X, rfl, by go_num, HM0.out, by omega, HH.out.grow HG1.out, Turned.of_grow HG1.out⟩
    case round =>
      obtain ⟨i, j, l', rfl, rfl, hm, hij, hr, ht⟩ := hrel
      have HM := Lib.hid hm
      have HR := Lib.hid hr
      have HT := Lib.hid ht
      have hjl := hm.jl
      have hll := hm.len
      by_cases hlt : j < X.length
      · have hlt' : (j : Int) < X.length := by omega
        obtain ⟨x, hx, -⟩ := lt_get hlt
        have hx' := hm.get hx
        obtain ⟨ta, tn, tc, sa, sn, sc, etv, esv⟩ := hsl x (List.mem_of_getElem? hx)
        have q0 : wr.cell? ⟨b, j * 5, none⟩ = some (.int .i64 x.n.id) := (row_cells noteC (fun _ => rfl) hr hx' 0 _ rfl).1
        have q1 : wr.cell? ⟨b, j * 5 + 1, none⟩ = some (.int .i64 x.n.book) := (row_cells noteC (fun _ => rfl) hr hx' 1 _ rfl).1
        have q2 : wr.cell? ⟨b, j * 5 + 2, none⟩ = some (.string x.n.name) := (row_cells noteC (fun _ => rfl) hr hx' 2 _ rfl).1
        have q3 : wr.cell? ⟨b, j * 5 + 3, none⟩ = some (.slice ta tn tc) := etv ▸ (row_cells noteC (fun _ => rfl) hr hx' 3 _ rfl).1
        have q4 : wr.cell? ⟨b, j * 5 + 4, none⟩ = some (.slice sa sn sc) := esv ▸ (row_cells noteC (fun _ => rfl) hr hx' 4 _ rfl).1
        have hbw := (row_cells noteC (fun _ => rfl) hr hx' 0 _ rfl).2.2
        have hkp : Grow w0 wr := ht.grow HG0.out HB.out.1
        have cP := HP.out (wr.alloc (.cells #[.int .i64 x.n.id, .int .i64 x.n.book, .string x.n.name, .slice ta tn tc, .slice sa sn sc] 54)) x (hkp.alloc _) (List.mem_of_getElem? hx)
        have HX := Lib.hid hx
        obtain ⟨y, hy, -⟩ := lt_get (l := l') (i := i) (by omega)
        have HY := Lib.hid hy
        rw [etv, esv] at cP
        clear hm hr ht hx hx' hkp hy
        cases hpx : p x
        · rw [hpx] at cP
          have HPX := Lib.hid (show (fun x => !p x) x = true by simp [hpx])
          clear hpx
          go_wp2_with fail
          refine cP.mono ?_
          rintro e w2 ⟨rfl, g2⟩
          have hbx := g2.blk (heap_alloc_new wr (.cells #[.int .i64 x.n.id, .int .i64 x.n.book, .string x.n.name, .slice ta tn tc, .slice sa sn sc] 54))
          replace g2 := ((Grow.refl wr).alloc _).trans g2
          have x0 : w2.cell? ⟨wr.heap.size, 0, none⟩ = some (.int .i64 x.n.id) := cell_of_row w2 _ 0 _ _ _ hbx
          have x1 : w2.cell? ⟨wr.heap.size, 1, none⟩ = some (.int .i64 x.n.book) := cell_of_row w2 _ 1 _ _ _ hbx
          have x2 : w2.cell? ⟨wr.heap.size, 2, none⟩ = some (.string x.n.name) := cell_of_row w2 _ 2 _ _ _ hbx
          have x3 : w2.cell? ⟨wr.heap.size, 3, none⟩ = some (.slice ta tn tc) := cell_of_row w2 _ 3 _ _ _ hbx
          have x4 : w2.cell? ⟨wr.heap.size, 4, none⟩ = some (.slice sa sn sc) := cell_of_row w2 _ 4 _ _ _ hbx
          have hbz : wr.heap.size < w2.heap.size := (Array.getElem?_eq_some_iff.1 hbx).1
          clear hbx
          have HR2 := Lib.hid (HR.out.grow g2)
          have hbw2 : b < w2.heap.size := Nat.lt_of_lt_of_le hbw g2.size
          have s0 : w2.cell? ⟨b, i * 5, none⟩ = some (.int .i64 y.n.id) := (row_cells noteC (fun _ => rfl) HR2.out HY.out 0 _ rfl).1
          have f0 : w2.frozen? ⟨b, i * 5, none⟩ = false := (row_cells noteC (fun _ => rfl) HR2.out HY.out 0 _ rfl).2.1
          have s1 : w2.cell? ⟨b, i * 5 + 1, none⟩ = some (.int .i64 y.n.book) := (row_cells noteC (fun _ => rfl) HR2.out HY.out 1 _ rfl).1
          have f1 : w2.frozen? ⟨b, i * 5 + 1, none⟩ = false := (row_cells noteC (fun _ => rfl) HR2.out HY.out 1 _ rfl).2.1
          have s2 : w2.cell? ⟨b, i * 5 + 2, none⟩ = some (.string y.n.name) := (row_cells noteC (fun _ => rfl) HR2.out HY.out 2 _ rfl).1
          have f2 : w2.frozen? ⟨b, i * 5 + 2, none⟩ = false := (row_cells noteC (fun _ => rfl) HR2.out HY.out 2 _ rfl).2.1
          have s3 : w2.cell? ⟨b, i * 5 + 3, none⟩ = some (y.tv) := (row_cells noteC (fun _ => rfl) HR2.out HY.out 3 _ rfl).1
          have f3 : w2.frozen? ⟨b, i * 5 + 3, none⟩ = false := (row_cells noteC (fun _ => rfl) HR2.out HY.out 3 _ rfl).2.1
          have s4 : w2.cell? ⟨b, i * 5 + 4, none⟩ = some (y.sv) := (row_cells noteC (fun _ => rfl) HR2.out HY.out 4 _ rfl).1
          have f4 : w2.frozen? ⟨b, i * 5 + 4, none⟩ = false := (row_cells noteC (fun _ => rfl) HR2.out HY.out 4 _ rfl).2.1
          have HPT := Lib.hid (put_row noteC (fun _ => rfl) (by decide) HR2.out (by omega) (show i < X.length by omega) x)
          have HT2 := Lib.hid (HT.out.trans (Turned.of_grow g2))
          clear cP g2
          go_wp2_with fail
          go_roundw
          case rel => exact ⟨i + 1, j + 1, l'.set i x, by go_num, by go_num, HM.out.keep HX.out HPX.out, by omega, by have := HPT.out.1; unfold noteC at this; rw [etv, esv] at this; exact this, by have := HT2.out.trans HPT.out.2; unfold noteC at this; rw [etv, esv] at this; exact this⟩
          case measure => simp [Go.RowKit.intOf]; omega
        · rw [hpx] at cP
          have HPX := Lib.hid (show (fun x => !p x) x = false by simp [hpx])
          clear hpx
          go_wp2_with fail
          refine cP.mono ?_
          rintro e w2 ⟨rfl, g2⟩
          replace g2 := ((Grow.refl wr).alloc _).trans g2
          have HR2 := Lib.hid (HR.out.grow g2)
          have HT2 := Lib.hid (HT.out.trans (Turned.of_grow g2))
          clear cP g2
          go_wp2_with fail
          go_roundw
          case rel => exact ⟨i, j + 1, l', rfl, by go_num, HM.out.skip HX.out HPX.out, by omega, HR2.out, HT2.out⟩
          case measure => simp [Go.RowKit.intOf]; omega
      · have hlt' : ¬ (j : Int) < X.length := by omega
        obtain rfl : j = X.length := by omega
        obtain ⟨-, cur, hcur⟩ := hr.blk (g := b) rfl
        have hsz : cur.size = (cc + 1) * 5 ∧ X.length ≤ cc + 1 := by
          rcases hr with ⟨-, ⟨h2, -⟩ | ⟨g, cap, cur2, e2, h3, h4, h5, h6, h7, h8⟩⟩ | ⟨-, -, a, e2⟩
          · cases h2
          · injection e2 with e2 e3 e4
            injection e2 with e2
            injection e2 with e2
            subst e2 e4
            rw [hcur] at h4
            injection h4 with h4
            injection h4 with h4
            subst h4
            exact ⟨h7, h5⟩
          · injection e2 with _ _ e2
            omega
        obtain ⟨wz, cs', hcl, hbz, hsz', hkz, htz⟩ := run_clear (P := Tryz.prog) (t := 23) (k := 5) Tryz.underlying23 (z := .agg #[.int .i64 0, .int .i64 0, .string ⟨#[]⟩, .slice none 0 0, .slice none 0 0]) (fun _ => by kernel_rfl) rfl (by decide) (by decide) wr (b := b) (o := i * 5) (n := X.length - i) (cc + 1 - i) (by omega) hcur (by rw [hsz.1, ← Nat.add_mul]; exact Nat.mul_le_mul_right _ (by omega))
        have HRZ := Lib.hid (hr.cut hcur hbz hsz' (by omega) hkz)
        have HDN := Lib.hid hm.done
        have HTZ := Lib.hid (ht.trans htz)
        have hi1 : (i : Int) ≤ X.length := by omega
        have hi2 : (i : Int) ≤ ((cc : Int) + 1) := by omega
        have hsz2 := hsz.2
        clear hr ht hm hcur hsz hbz hsz' hkz htz
        go_wp2_with fail
        go_ret
        refine ⟨_, rfl, ?_, ⟨HTZ.out.os, HTZ.out.tape, HTZ.out.output, HTZ.out.size, fun k hk hne => HTZ.out.block k hk fun e => hne (by rw [e]; rfl)⟩, rfl⟩
        have := HRZ.out
        rw [flat_take noteC (fun _ => rfl), HDN.out] at this
        have hl2 : (X.filter fun x => !p x).length = i := by rw [← HDN.out, List.length_take]; omega
        rw [hl2]
        exact this
end Go.Proofs.YtgpjcgcecahddaaGreatDoor
set_option linter.unusedVariables false
set_option linter.unusedSimpArgs false
namespace Go.Proofs.YtgpjcgcecahddaaGreatDoor
open Go.RowKit Go.Lib
/-- Sorted by falling keys, those of one key as they stood. -/
structure SortK {α : Type} (K : α → Int) (X Y : List α) : Prop where
  fil : ∀ m, (Y.filter fun y => K y == m) = X.filter fun y => K y == m
  inc : Y.Pairwise fun a b => K b ≤ K a
  len : Y.length = X.length
section
variable {α : Type} {K : α → Int}
theorem fil_swap {P S : List α} {x y : α} (h : K y < K x) (m : Int) : ((P ++ x :: y :: S).filter fun y => K y == m) = (P ++ y :: x :: S).filter fun y => K y == m := by
  rw [List.filter_append, List.filter_append, List.filter_cons, List.filter_cons, List.filter_cons, List.filter_cons]
  by_cases h1 : K x = m
  · have h2 : (K y == m) = false := by rw [beq_eq_false_iff_ne]; omega
    have h3 : (K x == m) = true := by rw [beq_iff_eq]; exact h1
    simp only [h2, h3]; rfl
  · have h3 : (K x == m) = false := by rw [beq_eq_false_iff_ne]; exact h1
    simp only [h3]; rfl
theorem ins_done {P S : List α} {x : α} (h : (P ++ S).Pairwise fun a b => K b ≤ K a) (hS : ∀ s ∈ S, K s < K x) (hP : ∀ P' y, P = P' ++ [y] → K x ≤ K y) : (P ++ x :: S).Pairwise fun a b => K b ≤ K a := by
  obtain ⟨h1, h2, h3⟩ := List.pairwise_append.1 h
  have hx : ∀ p ∈ P, K x ≤ K p := by
    rcases List.eq_nil_or_concat P with rfl | ⟨P', y, e⟩
    · intro p hp; cases hp
    · rw [List.concat_eq_append] at e
      have hy := hP P' y e
      subst e
      intro p hp
      rcases List.mem_append.1 hp with hp | hp
      · have := (List.pairwise_append.1 h1).2.2 p hp y (by simp)
        omega
      · rw [List.mem_singleton] at hp; rw [hp]; exact hy
  refine List.pairwise_append.2 ⟨h1, List.pairwise_cons.2 ⟨fun s hs => by have := hS s hs; omega, h2⟩, fun a ha b hb => ?_⟩
  rcases List.mem_cons.1 hb with rfl | hb
  · exact hx a ha
  · exact h3 a ha b hb
end
theorem take_mid {α : Type} {P S R : List α} {x : α} {i : Nat} (h : P.length + S.length = i) : (P ++ x :: (S ++ R)).take (i + 1) = P ++ x :: S := by
  rw [show P ++ x :: (S ++ R) = (P ++ x :: S) ++ R by simp, List.take_left' (by simp; omega)]
theorem cmpN_lt {a b : Int} (h : a < b) : cmpN a b = -1 := if_pos h
theorem cmpN_ge {a b : Int} (h : ¬ a < b) : ¬ cmpN a b < 0 := by unfold cmpN; rw [if_neg h]; split <;> omega
set_option maxRecDepth 100000 in
set_option maxHeartbeats 4000000 in
theorem insNotes_any (w0 : World) (v : Value) (X : List NV) (g : Nat) (lb : Array Value) (K : NV → Int) (w : World) (h : RowO w0.heap.size 54 5 v X.length (X.flatMap noteC) w) (hz : X.length ≤ 1000) (g0 : Grow w0 w) (eg : ∀ args w, (callFunc g args).run Tryz.prog w = .ok (.enter g args) w)
    (hsl : ∀ x ∈ X, ∃ ta tn tc sa sn sc, x.tv = .slice ta tn tc ∧ x.sv = .slice sa sn sc)
    (hp : ∀ W x y, Grow w0 W → x ∈ X → y ∈ X → Calls Tryz.prog g (#[.agg #[.int .i64 x.n.id, .int .i64 x.n.book, .string x.n.name, x.tv, x.sv], .agg #[.int .i64 y.n.id, .int .i64 y.n.book, .string y.n.name, y.tv, y.sv]] ++ lb) W fun e w' => e = .returned (.int .i64 (cmpN (K y) (K x))) ∧ Grow W w') :
    Calls Tryz.prog 121 #[v, .int .i64 0, .int .i64 X.length, .func (.func g) #[] lb] w fun e w' => e = .returned (.tuple #[]) ∧ ∃ Y, SortK K X Y ∧ (∀ y ∈ Y, y ∈ X) ∧ RowO w0.heap.size 54 5 v Y.length (Y.flatMap noteC) w' ∧ w.grownBy w' (blkOf v) := by
  obtain ⟨a, c, rfl, hc⟩ := h.slice
  have HH := Lib.hid h
  have HP := Lib.hid hp
  have HG0 := Lib.hid g0
  have HSL := Lib.hid hsl
  clear hp g0 hsl
  by_cases hn0 : X.length = 0
  · have hX : X = [] := List.eq_nil_of_length_eq_zero hn0
    subst hX
    clear h
    go_enter Tryz.func121, Tryz.ntmps121
    go_wp2_with fail
    go_loopw [8, 9] (fun v8 v9 wx => v8 = .int .i64 1 ∧ wx = w) (fun _ _ _ => 0)
    case atStart => exact ⟨rfl, rfl⟩
    case round =>
      obtain ⟨rfl, rfl⟩ := hrel
      go_wp2_with fail
      go_end0
      exact ⟨rfl, [], ⟨fun _ => rfl, .nil, rfl⟩, fun _ h => h, HH.out, World.grownBy.refl _ _⟩
  obtain ⟨b, cc, hbc⟩ : ∃ b cc, (Value.slice a X.length c) = .slice (some ⟨b, 0, none⟩) X.length (cc + 1) := by
    obtain ⟨x, hx, -⟩ := lt_get (l := X) (i := 0) (by omega)
    obtain ⟨u, hu⟩ : ∃ u, (X.flatMap noteC)[0 * 5 + 0]? = some u := ⟨_, (flat_get noteC (fun _ => rfl) X 0 0 x hx (by decide)).trans rfl⟩
    obtain ⟨b, c', e, -⟩ := h.cell hu
    injection e with e1 e2 e3
    cases c with
    | zero => omega
    | succ c => exact ⟨b, c, by rw [e1]⟩
  injection hbc with e1 e2 e3
  subst e1 e3
  have HB := Lib.hid (HH.out.blk (g := b) rfl)
  have hn1 : 1 ≤ X.length := by omega
  clear h hn0
  go_enter Tryz.func121, Tryz.ntmps121
  go_wp2_with fail
  go_loopw [8, 9] (fun v8 v9 wx => ∃ (i : Nat) (Y : List NV), v8 = .int .i64 i ∧ 1 ≤ i ∧ i ≤ X.length ∧ Y.length = X.length ∧ (∀ m, (Y.filter fun y => K y == m) = X.filter fun y => K y == m) ∧ ((Y.take i).Pairwise fun a b => K b ≤ K a) ∧ (∀ y ∈ Y, y ∈ X) ∧ RowO w0.heap.size 54 5 (.slice (some ⟨b, 0, none⟩) X.length (cc + 1)) X.length (Y.flatMap noteC) wx ∧ Turned b w wx) (fun v8 _ _ => X.length - (Go.RowKit.intOf v8).toNat)
  case atStart => exact ⟨1, X, rfl, by omega, hn1, rfl, fun _ => rfl, by
    cases X with
    | nil => simp at hn1
    | cons x l => simp, fun _ h => h, HH.out, Turned.refl _ _⟩
  case round =>
    obtain ⟨i, Y, rfl, hi1, hin, hYl, hF, hS, hM, hr, ht⟩ := hrel
    by_cases hlt : i < X.length
    · have hlt' : (i : Int) < X.length := by omega
      obtain ⟨x0, hx0, -⟩ := lt_get (l := Y) (i := i) (by omega)
      have hYs : Y = Y.take i ++ x0 :: ([] ++ Y.drop (i + 1)) := by
        obtain ⟨h1, h2⟩ := List.getElem?_eq_some_iff.1 hx0
        conv => lhs; rw [← List.take_append_drop i Y, List.drop_eq_getElem_cons h1, h2]
        rfl
      have HYS := Lib.hid hYs
      have HF := Lib.hid hF
      have HS := Lib.hid hS
      have HM := Lib.hid hM
      have HR := Lib.hid hr
      have HT := Lib.hid ht
      have hti : (Y.take i).length = i := by rw [List.length_take]; omega
      have HTI := Lib.hid hti
      have HYL := Lib.hid hYl
      clear hF hS hM hr ht hYs hx0 hti hYl
      go_wp2_with fail
      go_loopw [9] (fun v9 wx => ∃ (j : Nat) (P S R : List NV) (x : NV), v9 = .int .i64 j ∧ P.length = j ∧ P.length + S.length = i ∧ (P ++ x :: (S ++ R)).length = X.length ∧ (∀ m, ((P ++ x :: (S ++ R)).filter fun y => K y == m) = X.filter fun y => K y == m) ∧ ((P ++ S).Pairwise fun a b => K b ≤ K a) ∧ (∀ s ∈ S, K s < K x) ∧ (∀ y ∈ P ++ x :: (S ++ R), y ∈ X) ∧ RowO w0.heap.size 54 5 (.slice (some ⟨b, 0, none⟩) X.length (cc + 1)) X.length ((P ++ x :: (S ++ R)).flatMap noteC) wx ∧ Turned b w wx) (fun v9 _ => (Go.RowKit.intOf v9).toNat)
      case atStart => exact ⟨i, Y.take i, [], Y.drop (i + 1), x0, rfl, HTI.out, by simp [HTI.out], by rw [← HYS.out]; exact HYL.out, by rw [← HYS.out]; exact HF.out, by rw [List.append_nil]; exact HS.out, fun _ h => (by cases h), by rw [← HYS.out]; exact HM.out, by rw [← HYS.out]; exact HR.out, HT.out⟩
      case round =>
        obtain ⟨j, P, S, R, x, rfl, hPl, hPS, hL, hF, hS, hSx, hM, hr, ht⟩ := hrel
        have HPL := Lib.hid hPl
        have HPS := Lib.hid hPS
        have HL2 := Lib.hid hL
        have HF2 := Lib.hid hF
        have HS2 := Lib.hid hS
        have HSX := Lib.hid hSx
        have HM2 := Lib.hid hM
        have HR2 := Lib.hid hr
        have HT2 := Lib.hid ht
        have hji : j ≤ i := by omega
        clear hF hS hSx hM hr ht hPS HYS HF HS HM HR HT HTI HYL hL
        rcases List.eq_nil_or_concat P with hP | ⟨P', y, hP⟩
        · have hj0 : j = 0 := by rw [← hPl, hP]; rfl
          subst hj0
          have HD := Lib.hid (show (P ++ x :: S).Pairwise fun a b => K b ≤ K a from ins_done HS2.out HSX.out fun P'' z e => by rw [hP] at e; simp at e)
          clear hP hPl
          have b0 : ((0 : Nat) : Int) = 0 := rfl
          go_upto_region 4 with (fail)
          go_quiet (fail)
          go_wp2_with fail
          go_roundw
          case rel => exact ⟨i + 1, P ++ x :: (S ++ R), by go_num, by omega, by omega, HL2.out, HF2.out, by rw [take_mid (by have := HPS.out; omega)]; exact HD.out, HM2.out, HR2.out.grow (Grow.drewN (Grow.refl _) _), HT2.out.trans (Turned.of_grow (Grow.drewN (Grow.refl _) _))⟩
          case measure => simp [Go.RowKit.intOf]; omega
        · rw [List.concat_eq_append] at hP
          obtain ⟨p, rfl⟩ : ∃ p, j = p + 1 := ⟨P'.length, by rw [← hPl, hP]; simp⟩
          have hpl : P'.length = p := by rw [hP] at hPl; simpa using hPl
          have hgx : (P ++ x :: (S ++ R))[p + 1]? = some x := by rw [← hPl]; simp
          have hgy : (P ++ x :: (S ++ R))[p]? = some y := by rw [hP, List.append_assoc, ← hpl]; simp
          obtain ⟨ta, tn, tc, sa, sn, sc, etx, esx⟩ := HSL.out x (HM2.out x (by simp))
          obtain ⟨ta', tn', tc', sa', sn', sc', ety, esy⟩ := HSL.out y (HM2.out y (List.mem_of_getElem? hgy))
          have hbz : b < wr.heap.size := (row_cells noteC (fun _ => rfl) HR2.out hgx 0 _ rfl).2.2
          have HC := Lib.hid (show ∀ W, RowO w0.heap.size 54 5 (.slice (some ⟨b, 0, none⟩) X.length (cc + 1)) X.length ((P ++ x :: (S ++ R)).flatMap noteC) W → (∀ (f : Nat) u, (noteC x)[f]? = some u → W.cell? ⟨b, (p + 1) * 5 + f, none⟩ = some u ∧ W.frozen? ⟨b, (p + 1) * 5 + f, none⟩ = false) ∧ (∀ (f : Nat) u, (noteC y)[f]? = some u → W.cell? ⟨b, p * 5 + f, none⟩ = some u ∧ W.frozen? ⟨b, p * 5 + f, none⟩ = false) from fun W hW => ⟨fun f u hu => ⟨(row_cells noteC (fun _ => rfl) hW hgx f u hu).1, (row_cells noteC (fun _ => rfl) hW hgx f u hu).2.1⟩, fun f u hu => ⟨(row_cells noteC (fun _ => rfl) hW hgy f u hu).1, (row_cells noteC (fun _ => rfl) hW hgy f u hu).2.1⟩⟩)
          have cP := fun W (hW : Grow w0 W) => HP.out W x y hW (HM2.out x (by simp)) (HM2.out y (List.mem_of_getElem? hgy))
          rw [etx, esx, ety, esy] at cP
          have HEX := Lib.hid (And.intro etx esx)
          have HEY := Lib.hid (And.intro ety esy)
          have HGX := Lib.hid hgx
          have HGY := Lib.hid hgy
          have HPE := Lib.hid hP
          have hg0 := HT2.out.grow HG0.out HB.out.1
          have hp1 : (p : Int) + 1 < X.length := by have h9 := HL2.out; have h8 := HPS.out; simp at h9; omega
          have CP := Lib.hid cP
          have HGW0 := Lib.hid hg0
          have key : ∀ W, RowO w0.heap.size 54 5 (.slice (some ⟨b, 0, none⟩) X.length (cc + 1)) X.length ((P ++ x :: (S ++ R)).flatMap noteC) W → W.cell? ⟨b, (p + 1) * 5, none⟩ = some (.int .i64 x.n.id) ∧ W.cell? ⟨b, (p + 1) * 5 + 1, none⟩ = some (.int .i64 x.n.book) ∧ W.cell? ⟨b, (p + 1) * 5 + 2, none⟩ = some (.string x.n.name) ∧ W.cell? ⟨b, (p + 1) * 5 + 3, none⟩ = some (.slice ta tn tc) ∧ W.cell? ⟨b, (p + 1) * 5 + 4, none⟩ = some (.slice sa sn sc) ∧ W.cell? ⟨b, p * 5, none⟩ = some (.int .i64 y.n.id) ∧ W.cell? ⟨b, p * 5 + 1, none⟩ = some (.int .i64 y.n.book) ∧ W.cell? ⟨b, p * 5 + 2, none⟩ = some (.string y.n.name) ∧ W.cell? ⟨b, p * 5 + 3, none⟩ = some (.slice ta' tn' tc') ∧ W.cell? ⟨b, p * 5 + 4, none⟩ = some (.slice sa' sn' sc') := fun W hW => by
            obtain ⟨h1, h2⟩ := HC.out W hW
            exact ⟨(h1 0 _ rfl).1, (h1 1 _ rfl).1, (h1 2 _ rfl).1, HEX.out.1 ▸ (h1 3 _ rfl).1, HEX.out.2 ▸ (h1 4 _ rfl).1, (h2 0 _ rfl).1, (h2 1 _ rfl).1, (h2 2 _ rfl).1, HEY.out.1 ▸ (h2 3 _ rfl).1, HEY.out.2 ▸ (h2 4 _ rfl).1⟩
          have s0 := key _ (HR2.out.grow (Grow.refl wr).drew)
          have a1 : (0 : Int) ≤ (p : Int) + 1 := by omega
          have a2 : ((p : Int) + 1).toNat = p + 1 := by omega
          have a3 : (0 : Int) ≤ (p : Int) := by omega
          have a4 : (p : Int) < X.length := by omega
          have a5 : IntKind.i64.wrap ((p : Int) + 1 - 1) = p := by rw [show (p : Int) + 1 - 1 = p by omega]; exact IntWalk.i64_in _ (by omega)
          have a6 : IntKind.i64.wrap (p : Int) = p := IntWalk.i64_in _ (by omega)
          have KEY := Lib.hid key
          have RDR := Lib.hid (HR2.out.grow (Grow.refl wr).drew)
          clear hgx hgy etx esx ety esy hP hPl cP hg0 key
          by_cases hk : K y < K x
          · have hcm : cmpN (K y) (K x) = -1 := cmpN_lt hk
            have HK := Lib.hid hk
            have cP := CP.out wr.drew HGW0.out.drew
            rw [hcm] at cP
            clear hcm hk
            go_upto_region 4 with (fail)
            go_region_held3 (fun W => W.cell? ⟨b, (p + 1) * 5, none⟩ = some (.int .i64 x.n.id) ∧ W.cell? ⟨b, (p + 1) * 5 + 1, none⟩ = some (.int .i64 x.n.book) ∧ W.cell? ⟨b, (p + 1) * 5 + 2, none⟩ = some (.string x.n.name) ∧ W.cell? ⟨b, (p + 1) * 5 + 3, none⟩ = some (.slice ta tn tc) ∧ W.cell? ⟨b, (p + 1) * 5 + 4, none⟩ = some (.slice sa sn sc) ∧ W.cell? ⟨b, p * 5, none⟩ = some (.int .i64 y.n.id) ∧ W.cell? ⟨b, p * 5 + 1, none⟩ = some (.int .i64 y.n.book) ∧ W.cell? ⟨b, p * 5 + 2, none⟩ = some (.string y.n.name) ∧ W.cell? ⟨b, p * 5 + 3, none⟩ = some (.slice ta' tn' tc') ∧ W.cell? ⟨b, p * 5 + 4, none⟩ = some (.slice sa' sn' sc')) (first | with_reducible exact s1 | with_reducible exact s0 | go_keep)
              (first
                | (refine cP.mono ?_; rintro e w3 ⟨rfl, g3⟩; have s1 := KEY.out _ (RDR.out.grow g3); have RD3 := Lib.hid (RDR.out.grow g3); have HG3 := Lib.hid ((Grow.refl wr).drew.trans g3); clear g3))
            have HC3 := Lib.hid (HC.out w3 RD3.out)
            obtain ⟨x0, x1, x2, x3, x4, y0, y1, y2, y3, y4⟩ := s1
            have fx0 : w3.frozen? ⟨b, (p + 1) * 5, none⟩ = false := (HC3.out.1 0 _ rfl).2
            have fy0 : w3.frozen? ⟨b, p * 5, none⟩ = false := (HC3.out.2 0 _ rfl).2
            have fx1 : w3.frozen? ⟨b, (p + 1) * 5 + 1, none⟩ = false := (HC3.out.1 1 _ rfl).2
            have fy1 : w3.frozen? ⟨b, p * 5 + 1, none⟩ = false := (HC3.out.2 1 _ rfl).2
            have fx2 : w3.frozen? ⟨b, (p + 1) * 5 + 2, none⟩ = false := (HC3.out.1 2 _ rfl).2
            have fy2 : w3.frozen? ⟨b, p * 5 + 2, none⟩ = false := (HC3.out.2 2 _ rfl).2
            have fx3 : w3.frozen? ⟨b, (p + 1) * 5 + 3, none⟩ = false := (HC3.out.1 3 _ rfl).2
            have fy3 : w3.frozen? ⟨b, p * 5 + 3, none⟩ = false := (HC3.out.2 3 _ rfl).2
            have fx4 : w3.frozen? ⟨b, (p + 1) * 5 + 4, none⟩ = false := (HC3.out.1 4 _ rfl).2
            have fy4 : w3.frozen? ⟨b, p * 5 + 4, none⟩ = false := (HC3.out.2 4 _ rfl).2
            have hbz3 : b < w3.heap.size := Nat.lt_of_lt_of_le hbz HG3.out.size
            have hr3 := RD3.out
            have q1 := put_row noteC (fun _ => rfl) (by decide) hr3 HL2.out (show p + 1 < X.length by omega) y
            have q2 := put_row noteC (fun _ => rfl) (by decide) q1.1 (by rw [List.length_set]; exact HL2.out) (show p < X.length by omega) x
            have he : ((P ++ x :: (S ++ R)).set (p + 1) y).set p x = P' ++ x :: ((y :: S) ++ R) := by
              rw [HPE.out, ← hpl]; simp
            rw [he] at q2
            have HQ := Lib.hid (And.intro (q2.1.grow (Grow.refl _).drew) (HT2.out.trans ((Turned.of_grow HG3.out).trans ((q1.2.trans q2.2).trans (Turned.of_grow (Grow.refl _).drew)))))
            have HN := Lib.hid (show P'.length + (y :: S).length = i ∧ (P' ++ x :: ((y :: S) ++ R)).length = X.length ∧ (∀ m, ((P' ++ x :: ((y :: S) ++ R)).filter fun y => K y == m) = X.filter fun y => K y == m) ∧ ((P' ++ (y :: S)).Pairwise fun a b => K b ≤ K a) ∧ (∀ s ∈ y :: S, K s < K x) ∧ (∀ z ∈ P' ++ x :: ((y :: S) ++ R), z ∈ X) from by
              have e1 := HPS.out
              have e2 := HL2.out
              have e3 := HF2.out
              have e4 := HS2.out
              have e6 := HM2.out
              rw [HPE.out] at e1 e2 e3 e4 e6
              refine ⟨by simp at e1 ⊢; omega, by simp at e2 ⊢; omega, fun m => ?_, by simpa using e4, fun s hs => ?_, fun z hz => e6 z ?_⟩
              · rw [← e3 m, List.cons_append, fil_swap HK.out m]; simp
              · rcases List.mem_cons.1 hs with rfl | hs
                · exact HK.out
                · exact HSX.out s hs
              · simp at hz ⊢
                rcases hz with h | h | h | h | h <;> simp [h])
            clear hr3 q1 q2 he
            go_wp2_with fail
            go_region_with (fail)
            all_goals
              go_wp2_with fail
              go_roundw
              case rel =>
                have hq := HQ.out
                unfold noteC at hq
                rw [HEX.out.1, HEX.out.2, HEY.out.1, HEY.out.2] at hq
                exact ⟨p, P', y :: S, R, x, by go_num, hpl, HN.out.1, HN.out.2.1, HN.out.2.2.1, HN.out.2.2.2.1, HN.out.2.2.2.2.1, HN.out.2.2.2.2.2, hq.1, hq.2⟩
              case measure => first | (simp [Go.RowKit.intOf]; done) | (simp [Go.RowKit.intOf]; omega)
          · obtain ⟨c, hcm⟩ : ∃ c, cmpN (K y) (K x) = c := ⟨_, rfl⟩
            have hc0 : ¬ c < 0 := by rw [← hcm]; exact cmpN_ge hk
            have HD := Lib.hid (show (P ++ x :: S).Pairwise fun a b => K b ≤ K a from ins_done HS2.out HSX.out fun P'' z e => by
              rw [HPE.out] at e
              obtain ⟨-, e⟩ := List.append_inj' e rfl
              injection e with e
              subst e
              omega)
            have cP := CP.out wr.drew HGW0.out.drew
            rw [hcm] at cP
            clear hcm hk
            go_upto_region 4 with (fail)
            go_region_held3 (fun W => W.cell? ⟨b, (p + 1) * 5, none⟩ = some (.int .i64 x.n.id) ∧ W.cell? ⟨b, (p + 1) * 5 + 1, none⟩ = some (.int .i64 x.n.book) ∧ W.cell? ⟨b, (p + 1) * 5 + 2, none⟩ = some (.string x.n.name) ∧ W.cell? ⟨b, (p + 1) * 5 + 3, none⟩ = some (.slice ta tn tc) ∧ W.cell? ⟨b, (p + 1) * 5 + 4, none⟩ = some (.slice sa sn sc) ∧ W.cell? ⟨b, p * 5, none⟩ = some (.int .i64 y.n.id) ∧ W.cell? ⟨b, p * 5 + 1, none⟩ = some (.int .i64 y.n.book) ∧ W.cell? ⟨b, p * 5 + 2, none⟩ = some (.string y.n.name) ∧ W.cell? ⟨b, p * 5 + 3, none⟩ = some (.slice ta' tn' tc') ∧ W.cell? ⟨b, p * 5 + 4, none⟩ = some (.slice sa' sn' sc')) (first | with_reducible exact s1 | with_reducible exact s0 | go_keep)
              (first
                | (refine cP.mono ?_; rintro e w3 ⟨rfl, g3⟩; have s1 := KEY.out _ (RDR.out.grow g3); have RD3 := Lib.hid (RDR.out.grow g3); have HG3 := Lib.hid ((Grow.refl wr).drew.trans g3); clear g3))
            go_wp2_with fail
            go_roundw
            case rel => exact ⟨i + 1, P ++ x :: (S ++ R), by go_num, by omega, by omega, HL2.out, HF2.out, by rw [take_mid (by have := HPS.out; omega)]; exact HD.out, HM2.out, RD3.out, HT2.out.trans (Turned.of_grow HG3.out)⟩
            case measure => simp [Go.RowKit.intOf]; omega
    · have hlt' : ¬ (i : Int) < X.length := by omega
      have HD := Lib.hid (show SortK K X Y from ⟨hF, by have := hS; rw [List.take_of_length_le (by omega)] at this; exact this, hYl⟩)
      have HM := Lib.hid hM
      have HR := Lib.hid hr
      have HT := Lib.hid ht
      have HYL := Lib.hid hYl
      clear hF hS hM hr ht hYl
      go_wp2_with fail
      go_end0
      exact ⟨rfl, Y, HD.out, HM.out, by rw [HYL.out]; exact HR.out, grown_turned HT.out⟩
set_option maxRecDepth 100000 in
theorem stable1_any (w0 : World) (v : Value) (X : List NV) (g : Nat) (lb : Array Value) (K : NV → Int) (w : World) (h : RowO w0.heap.size 54 5 v X.length (X.flatMap noteC) w) (hz : X.length ≤ 19) (g0 : Grow w0 w) (eg : ∀ args w, (callFunc g args).run Tryz.prog w = .ok (.enter g args) w)
    (hsl : ∀ x ∈ X, ∃ ta tn tc sa sn sc, x.tv = .slice ta tn tc ∧ x.sv = .slice sa sn sc)
    (hp : ∀ W x y, Grow w0 W → x ∈ X → y ∈ X → Calls Tryz.prog g (#[.agg #[.int .i64 x.n.id, .int .i64 x.n.book, .string x.n.name, x.tv, x.sv], .agg #[.int .i64 y.n.id, .int .i64 y.n.book, .string y.n.name, y.tv, y.sv]] ++ lb) W fun e w' => e = .returned (.int .i64 (cmpN (K y) (K x))) ∧ Grow W w') :
    Calls Tryz.prog 90 #[v, .int .i64 X.length, .func (.func g) #[] lb] w fun e w' => e = .returned (.tuple #[]) ∧ ∃ Y, SortK K X Y ∧ (∀ y ∈ Y, y ∈ X) ∧ RowO w0.heap.size 54 5 v Y.length (Y.flatMap noteC) w' ∧ w.grownBy w' (blkOf v) := by
  have c := insNotes_any w0 v X g lb K w h (by omega) g0 eg hsl hp
  obtain ⟨a, k, rfl, -⟩ := h.slice
  have C := Lib.hid c
  clear c h hsl hp g0
  have hz' : ¬ (20 : Int) ≤ X.length := by omega
  have hz2 : ¬ (20 : Int) < X.length := by omega
  go_enter Tryz.func90, Tryz.ntmps90
  go_wp2_with fail
  go_loopw [7, 8] (fun v7 v8 wx => v7 = .int .i64 0 ∧ v8 = .int .i64 20 ∧ wx = w) (fun _ _ _ => 0)
  case atStart => exact ⟨rfl, rfl, rfl⟩
  case round =>
    obtain ⟨rfl, rfl, rfl⟩ := hrel
    go_wp2_with fail
    refine C.out.mono ?_
    rintro e w1 ⟨rfl, Y, hs, hm, hr, g1⟩
    have HS := Lib.hid (And.intro hs (And.intro hm (And.intro hr g1)))
    clear C hs hm hr g1
    go_wp2_with fail
    go_loopw [6, 7, 8, 9] (fun v6 v7 v8 v9 wx => v6 = .int .i64 20 ∧ wx = w1) (fun _ _ _ _ _ => 0)
    case atStart => exact ⟨rfl, rfl⟩
    case round =>
      obtain ⟨rfl, rfl⟩ := hrel
      go_wp2_with fail
      go_end0
      exact ⟨rfl, Y, HS.out⟩
set_option maxRecDepth 100000 in
theorem stable_any (w0 : World) (v : Value) (X : List NV) (g : Nat) (lb : Array Value) (K : NV → Int) (w : World) (h : RowO w0.heap.size 54 5 v X.length (X.flatMap noteC) w) (hz : X.length ≤ 19) (g0 : Grow w0 w) (eg : ∀ args w, (callFunc g args).run Tryz.prog w = .ok (.enter g args) w)
    (hsl : ∀ x ∈ X, ∃ ta tn tc sa sn sc, x.tv = .slice ta tn tc ∧ x.sv = .slice sa sn sc)
    (hp : ∀ W x y, Grow w0 W → x ∈ X → y ∈ X → Calls Tryz.prog g (#[.agg #[.int .i64 x.n.id, .int .i64 x.n.book, .string x.n.name, x.tv, x.sv], .agg #[.int .i64 y.n.id, .int .i64 y.n.book, .string y.n.name, y.tv, y.sv]] ++ lb) W fun e w' => e = .returned (.int .i64 (cmpN (K y) (K x))) ∧ Grow W w') :
    Calls Tryz.prog 52 #[v, .func (.func g) #[] lb] w fun e w' => e = .returned (.tuple #[]) ∧ ∃ Y, SortK K X Y ∧ (∀ y ∈ Y, y ∈ X) ∧ RowO w0.heap.size 54 5 v Y.length (Y.flatMap noteC) w' ∧ w.grownBy w' (blkOf v) := by
  have c := stable1_any w0 v X g lb K w h hz g0 eg hsl hp
  obtain ⟨a, k, rfl, -⟩ := h.slice
  clear h hsl hp g0
  go_enter Tryz.func52, Tryz.ntmps52
  go_wp2_with fail
  refine c.mono ?_
  rintro e w1 ⟨rfl, Y, hs⟩
  have HS := Lib.hid hs
  clear c hs
  go_wp2_with fail
  go_end0
  exact ⟨rfl, Y, HS.out⟩
end Go.Proofs.YtgpjcgcecahddaaGreatDoor
set_option linter.unusedVariables false
set_option linter.unusedSimpArgs false
namespace Go.Proofs.YtgpjcgcecahddaaGreatDoor
open Go.RowKit Go.Lib
set_option maxRecDepth 100000 in
set_option maxHeartbeats 4000000 in
theorem find_any (s : Shelf) (bv nv : Value) (id : Int) (w : World) (h : ShelfR w s bv nv) (hz : TameS s) (hT : Tabs w) :
    Calls Tryz.prog 47 #[shelfV s bv nv, .int .i64 id] w (RetFind s id w) := by
  have cM := fun W (g : Grow w W) => mayS_any s bv nv W (h.grow g) hz (hT.below g)
  have cN := fun W (g : Grow w W) => note_any s bv nv id W (h.grow g) (by have := hz.1.2.1; omega)
  have cO := fun W (g : Grow w W) => own_any s bv nv W (h.grow g) hz.1
  have hnl := hz.1.2.1
  obtain ⟨a1, c1, rfl⟩ := h.1.mk
  obtain ⟨a2, c2, rfl⟩ := h.2.mk
  have HXX := Lib.hid (two_boxes2 w (shB s (.slice a1 s.books.length c1) (.slice a2 s.notes.length c2)) noO)
  have hbd := idx_bd (fun x : Note => x.id == id) s.notes
  have HGI := Lib.hid (show 0 ≤ noteIx s id → ∃ x, s.notes[(noteIx s id).toNat]? = some x ∧ (x.id == id) = true from fun h0 => idx_get (p := fun x : Note => x.id == id) (l := s.notes) rfl h0)
  have HRF := Lib.hid (show noteIx s id = idx (fun x : Note => x.id == id) s.notes from rfl)
  rw [← HRF.out] at hbd
  rw [← HRF.out] at cN
  clear h hz hT
  unfold shelfV at cM cN cO ⊢
  go_enter Tryz.func47, Tryz.ntmps47
  go_upto_region 1 with (fail)
  generalize hV : (w.alloc (.cells #[.int .i64 s.nb, .int .i64 s.nn, .int .i64 s.ns, .slice a1 s.books.length c1, .slice a2 s.notes.length c2] 25)).alloc (.cells #[.int .i64 0, .int .i64 0, .string ⟨#[]⟩, .slice none 0 0, .slice none 0 0] 54) = V
  have gV : Grow w V := by rw [← hV]; exact ((Grow.refl w).alloc _).alloc _
  have HBX : Hid (V.heap[w.heap.size]? = some (shB s (.slice a1 s.books.length c1) (.slice a2 s.notes.length c2))) := by rw [← hV]; exact Lib.hid HXX.out.1
  have HRX : Hid (V.heap[w.heap.size + 1]? = some noO) := by rw [← hV]; exact Lib.hid HXX.out.2
  obtain ⟨⟨p0, p1, p2, p3, p4⟩, hpz⟩ := n5 HBX.out
  have cM1 := cM V gV
  clear hV
  have fin : ∀ W, Grow V W → (mayS s = false ∨ noteIx s id = -1) → RetFind s id w (.returned (.tuple #[noteV ⟨0, 0, ⟨#[]⟩, [], []⟩ (.slice none 0 0) (.slice none 0 0), .bool false])) W := fun W g hh => ⟨gV.trans g, .inr ⟨hh, rfl⟩⟩
  have HFIN := Lib.hid fin
  clear fin
  cases hm : mayS s with
  | false =>
    have HM := Lib.hid hm
    rw [hm] at cM1
    clear hm
    go_wp2_with fail
    refine cM1.mono ?_
    rintro e w1 ⟨rfl, g1⟩
    have HG1 := Lib.hid g1
    obtain ⟨⟨e0, e1, e2, e3, e4⟩, hez⟩ := n5 (g1.blk HRX.out)
    have f0 := frozen_of_row w1 (w.heap.size + 1) 0 _ _ (g1.blk HRX.out)
    have f1 := frozen_of_row w1 (w.heap.size + 1) 1 _ _ (g1.blk HRX.out)
    have f2 := frozen_of_row w1 (w.heap.size + 1) 2 _ _ (g1.blk HRX.out)
    have f3 := frozen_of_row w1 (w.heap.size + 1) 3 _ _ (g1.blk HRX.out)
    have f4 := frozen_of_row w1 (w.heap.size + 1) 4 _ _ (g1.blk HRX.out)
    clear cM1 g1 p0 p1 p2 p3 p4
    go_wp2_with fail
    refine bodyPost_ret (v := .tuple #[noteV ⟨0, 0, ⟨#[]⟩, [], []⟩ (.slice none 0 0) (.slice none 0 0), .bool false]) ?_ rfl ?_
    · rw [results_cell_tmp rfl]
      unfold noteV
      go_simp
    · refine ⟨?_, .inr ⟨.inl HM.out, rfl⟩⟩
      repeat' (first | exact gV.trans HG1.out | refine Grow.set ?_ (by simp) _)
  | true =>
    have HM := Lib.hid hm
    rw [hm] at cM1
    clear hm
    go_wp2_with fail
    refine cM1.mono ?_
    rintro e w1 ⟨rfl, g1⟩
    have cN1 := cN w1 (gV.trans g1)
    obtain ⟨⟨p0, p1, p2, p3, p4⟩, hpz⟩ := n5 (g1.blk HBX.out)
    have HG1 := Lib.hid g1
    clear cM1 g1
    go_wp2_with fail
    refine cN1.mono ?_
    rintro e w2 ⟨rfl, g2⟩
    have HG2 := Lib.hid (HG1.out.trans g2)
    clear cN1 g2
    by_cases hi : noteIx s id < 0
    · have HI := Lib.hid (show noteIx s id = -1 by omega)
      obtain ⟨⟨e0, e1, e2, e3, e4⟩, hez⟩ := n5 (HG2.out.blk HRX.out)
      have f0 := frozen_of_row w2 (w.heap.size + 1) 0 _ _ (HG2.out.blk HRX.out)
      have f1 := frozen_of_row w2 (w.heap.size + 1) 1 _ _ (HG2.out.blk HRX.out)
      have f2 := frozen_of_row w2 (w.heap.size + 1) 2 _ _ (HG2.out.blk HRX.out)
      have f3 := frozen_of_row w2 (w.heap.size + 1) 3 _ _ (HG2.out.blk HRX.out)
      have f4 := frozen_of_row w2 (w.heap.size + 1) 4 _ _ (HG2.out.blk HRX.out)
      go_wp2_with fail
      refine bodyPost_ret (v := .tuple #[noteV ⟨0, 0, ⟨#[]⟩, [], []⟩ (.slice none 0 0) (.slice none 0 0), .bool false]) ?_ rfl ?_
      · rw [results_cell_tmp rfl]
        unfold noteV
        go_simp
      · refine ⟨?_, .inr ⟨.inr HI.out, rfl⟩⟩
        repeat' (first | exact gV.trans HG2.out | refine Grow.set ?_ (by simp) _)
    · have hi0 : 0 ≤ noteIx s id := by omega
      obtain ⟨x, hx, -⟩ := HGI.out hi0
      obtain ⟨i, hii⟩ : ∃ i : Nat, noteIx s id = i := ⟨(noteIx s id).toNat, by omega⟩
      have HX := Lib.hid hx
      have HII := Lib.hid hii
      have HH0 := Lib.hid hi0
      obtain ⟨⟨p0, p1, p2, p3, p4⟩, hpz⟩ := n5 (HG2.out.blk HBX.out)
      have cO1 := cO w2 (gV.trans HG2.out)
      rw [hii]
      rw [hii] at hi0 hi hbd
      have hil : (i : Int) < s.notes.length := by omega
      clear hx hii hi hbd
      go_wp2_with fail
      refine cO1.mono ?_
      rintro e w3 ⟨bv', nv', Y, rfl, ho, hmap, g3⟩
      have hYl : Y.length = s.notes.length := by rw [← hmap, List.length_map]
      have hxi : s.notes[i]? = some x := by have := HX.out; rw [HII.out] at this; exact this
      obtain ⟨y, hy, -⟩ := lt_get (l := Y) (i := i) (by omega)
      have hyn : y.n = x := by
        have : (Y.map NV.n)[i]? = some y.n := by rw [List.getElem?_map, hy]; rfl
        rw [hmap, hxi] at this; exact (Option.some.inj this).symm
      obtain ⟨nb, nc, env, hnb, hnc, hblk, hcl⟩ := ho.note hy
      obtain ⟨ba, bc, ebv, -⟩ := ho.books.slice
      obtain ⟨ta, tc, etv, -⟩ := (ho.tags y (List.mem_of_getElem? hy)).slice
      obtain ⟨sa, sc, esv, -⟩ := (ho.sheets y (List.mem_of_getElem? hy)).slice
      have q0 : w3.cell? ⟨nb, i * 5, none⟩ = some (.int .i64 y.n.id) := (hcl 0 _ rfl).1
      have q1 := (hcl 1 _ rfl).1
      have q2 := (hcl 2 _ rfl).1
      have q3 : w3.cell? ⟨nb, i * 5 + 3, none⟩ = some y.tv := (hcl 3 _ rfl).1
      have q4 : w3.cell? ⟨nb, i * 5 + 4, none⟩ = some y.sv := (hcl 4 _ rfl).1
      rw [hYl] at env
      have HO := Lib.hid ho
      have HMAP := Lib.hid hmap
      have HY := Lib.hid hy
      have HYN := Lib.hid hyn
      have HBK := Lib.hid hblk
      have hg3 := HG2.out.trans g3
      have HG3 := Lib.hid hg3
      obtain ⟨⟨e0, e1, e2, e3, e4⟩, hez⟩ := n5 (hg3.blk HRX.out)
      have f0 := frozen_of_row w3 (w.heap.size + 1) 0 _ _ (hg3.blk HRX.out)
      have f1 := frozen_of_row w3 (w.heap.size + 1) 1 _ _ (hg3.blk HRX.out)
      have f2 := frozen_of_row w3 (w.heap.size + 1) 2 _ _ (hg3.blk HRX.out)
      have f3 := frozen_of_row w3 (w.heap.size + 1) 3 _ _ (hg3.blk HRX.out)
      have f4 := frozen_of_row w3 (w.heap.size + 1) 4 _ _ (hg3.blk HRX.out)
      rw [etv] at q3
      rw [esv] at q4
      have HTV := Lib.hid etv
      have HSV := Lib.hid esv
      have hnbb : nb ≠ w.heap.size + 1 := by
        have h1 := (ho.notes.blk hblk).1
        have h2 : w.heap.size + 1 < w2.heap.size := (Array.getElem?_eq_some_iff.1 (HG2.out.blk HRX.out)).1
        omega
      have HNB := Lib.hid hnbb
      have HOD := Lib.hid (show OwnN w2.heap.size bv' nv' s.books Y w (w.heap.size + 1) w3 from ⟨gV.trans hg3, ho, by rw [hblk]; exact fun e => hnbb (Option.some.inj e), _, hg3.blk HRX.out⟩)
      clear cO1 ho hmap hy hyn hblk hg3 g3 hcl etv esv hnc hxi hYl p0 p1 p2 p3 p4
      subst env ebv
      have hfld : ∀ W : World, (Instr.field 25 (.agg #[.int .i64 s.nb, .int .i64 s.nn, .int .i64 s.ns, .slice ba s.books.length bc, .slice (some ⟨nb, 0, none⟩) s.notes.length nc]) 4).run Tryz.prog W = .ok (.slice (some ⟨nb, 0, none⟩) s.notes.length nc) W := fun _ => by kernel_rfl
      unfold shelfV
      go_wp2_with fail
      refine bodyPost_ret (v := .tuple #[.agg #[.int .i64 y.n.id, .int .i64 y.n.book, .string y.n.name, .slice ta y.n.tags.length tc, .slice sa y.n.sheets.length sc], .bool true]) ?_ rfl ?_
      · rw [results_cell_tmp rfl]
        go_simp
      · have hfin : ∀ W', OwnN w2.heap.size (.slice ba s.books.length bc) (.slice (some ⟨nb, 0, none⟩) s.notes.length nc) s.books Y w (w.heap.size + 1) W' → RetFind s id w (.returned (.tuple #[.agg #[.int .i64 y.n.id, .int .i64 y.n.book, .string y.n.name, .slice ta y.n.tags.length tc, .slice sa y.n.sheets.length sc], .bool true])) W' := fun W' hW => by
          refine ⟨hW.1, .inl ⟨x, _, _, Y, y, HM.out, HH0.out, HX.out, ?_, hW.2.1.base_mono (gV.trans HG2.out).size, HMAP.out, by rw [HII.out]; exact HY.out, HYN.out⟩⟩
          rw [← HYN.out, HTV.out, HSV.out]; rfl
        refine hfin _ ?_
        repeat' (first | exact HOD.out | refine OwnN.set ?_ (by omega) _ _)
end Go.Proofs.YtgpjcgcecahddaaGreatDoor
set_option linter.unusedVariables false
set_option linter.unusedSimpArgs false
namespace Go.Proofs.YtgpjcgcecahddaaGreatDoor
open Go.RowKit Go.Lib
theorem split_top {α : Type} {K : α → Int} {m : Int} : ∀ {Y : List α}, (Y.Pairwise fun a b => K b ≤ K a) → (∀ y ∈ Y, K y ≤ m) → Y = (Y.filter fun y => K y == m) ++ Y.filter fun y => decide (K y < m)
  | [], _, _ => rfl
  | y :: Y, h, hm => by
    obtain ⟨h1, h2⟩ := List.pairwise_cons.1 h
    have ih := split_top h2 fun z hz => hm z (List.mem_cons_of_mem _ hz)
    have hy := hm y (by simp)
    by_cases e : K y = m
    · have a1 : (K y == m) = true := by rw [beq_iff_eq]; exact e
      have a2 : decide (K y < m) = false := decide_eq_false (by omega)
      rw [List.filter_cons, List.filter_cons]
      simp only [a1, a2, if_true]
      conv => lhs; rw [ih]
      simp
    · have a3 : (Y.filter fun z => K z == m) = [] := List.filter_eq_nil_iff.2 fun z hz => by have := h1 z hz; simp; omega
      have a1 : (K y == m) = false := by rw [beq_eq_false_iff_ne]; exact e
      have a2 : decide (K y < m) = true := decide_eq_true (by omega)
      rw [a3] at ih
      rw [List.filter_cons, List.filter_cons]
      simp only [a1, a2, if_true, a3]
      conv => lhs; rw [ih]
      simp
theorem sortk_four {α : Type} {K : α → Int} {X Y : List α} (h : SortK K X Y) (hX : ∀ y ∈ Y, 1 ≤ K y ∧ K y ≤ 4) : Y = (X.filter fun y => K y == 4) ++ ((X.filter fun y => K y == 3) ++ ((X.filter fun y => K y == 2) ++ (X.filter fun y => K y == 1))) := by
  have step : ∀ (m : Int) (Z : List α), (Z.Pairwise fun a b => K b ≤ K a) → (∀ y ∈ Z, K y ≤ m) → Z = (Z.filter fun y => K y == m) ++ Z.filter fun y => decide (K y < m) := fun m Z h1 h2 => split_top h1 h2
  have sub : ∀ (m : Int) (Z : List α), (Z.Pairwise fun a b => K b ≤ K a) → ((Z.filter fun y => decide (K y < m)).Pairwise fun a b => K b ≤ K a) := fun m Z h => h.sublist List.filter_sublist
  have e4 := step 4 Y h.inc fun y hy => (hX y hy).2
  have e3 := step 3 _ (sub 4 Y h.inc) fun y hy => by have := (List.mem_filter.1 hy).2; simp at this; omega
  have e2 := step 2 _ (sub 3 _ (sub 4 Y h.inc)) fun y hy => by have := (List.mem_filter.1 hy).2; simp at this; omega
  have e1 := step 1 _ (sub 2 _ (sub 3 _ (sub 4 Y h.inc))) fun y hy => by have := (List.mem_filter.1 hy).2; simp at this; omega
  have ff : ∀ (m k : Int) (Z : List α), m < k → ((Z.filter fun y => decide (K y < k)).filter fun y => K y == m) = Z.filter fun y => K y == m := fun m k Z hmk => by
    rw [List.filter_filter]
    refine List.filter_congr fun y _ => ?_
    by_cases e : K y = m
    · have : decide (K y < k) = true := decide_eq_true (by omega)
      rw [this, Bool.and_true]
    · have : (K y == m) = false := by rw [beq_eq_false_iff_ne]; exact e
      rw [this, Bool.false_and]
  have e0 : ((((Y.filter fun y => decide (K y < 4)).filter fun y => decide (K y < 3)).filter fun y => decide (K y < 2)).filter fun y => decide (K y < 1)) = [] := List.filter_eq_nil_iff.2 fun y hy => by
    have h1 := (List.mem_filter.1 hy).1
    have h2 := (List.mem_filter.1 h1).1
    have h3 := (List.mem_filter.1 h2).1
    have := hX y h3
    simp; omega
  rw [e0, List.append_nil, ff 1 2 _ (by decide), ff 1 3 _ (by decide), ff 1 4 _ (by decide), h.fil] at e1
  rw [ff 2 3 _ (by decide), ff 2 4 _ (by decide), h.fil, e1] at e2
  rw [ff 3 4 _ (by decide), h.fil, e2] at e3
  rw [h.fil, e3] at e4
  exact e4
def kinP (one : Note) (id : Int) (y : NV) : Bool := (y.n.id == id) || ((commonN one y.n : Nat) : Int) == 0
theorem kin_of {s : Shelf} (p : MayP s) {id : Int} (h0 : noteE s id = 0) {Y0 Y : List NV} (hm : Y0.map NV.n = s.notes) (h : SortK (fun y : NV => ((commonN (noteOf s id) y.n : Nat) : Int)) (Y0.filter fun y => !kinP (noteOf s id) id y) Y) (hY : ∀ y ∈ Y, y ∈ Y0.filter fun y => !kinP (noteOf s id) id y) : Y.map (fun y => itemOf y.n) = kinI s id := by
  have hid := (noteOf_get (noteE_zero.1 h0).2).2
  have hone := noteOf_mem (noteE_zero.1 h0).2
  have hin : ∀ y ∈ Y0, y.n ∈ s.notes := fun y hy => by rw [← hm]; exact List.mem_map_of_mem hy
  have hx4 : ∀ y ∈ Y, 1 ≤ ((commonN (noteOf s id) y.n : Nat) : Int) ∧ ((commonN (noteOf s id) y.n : Nat) : Int) ≤ 4 := fun y hy => by
    obtain ⟨h1, h2⟩ := List.mem_filter.1 (hY y hy)
    have := common_le p hone (m := y.n)
    unfold kinP at h2
    simp at h2
    omega
  have part : ∀ m : Nat, 1 ≤ m → (((Y0.filter fun y => !kinP (noteOf s id) id y).filter fun y => ((commonN (noteOf s id) y.n : Nat) : Int) == (m : Int)).map NV.n) = kinL s (noteOf s id) m := fun m hm1 => by
    unfold kinL
    rw [← hm, List.filter_filter, List.filter_map]
    congr 1
    refine List.filter_congr fun y hy => ?_
    have hc := common_symm (tags_nodup p (hin y hy)) (tags_nodup p hone)
    show (((commonN (noteOf s id) y.n : Nat) : Int) == (m : Int) && !kinP (noteOf s id) id y) = (!(y.n.id == (noteOf s id).id) && commonN y.n (noteOf s id) == m)
    rw [hid, hc]
    unfold kinP
    cases e1 : (y.n.id == id)
    · by_cases e2 : commonN (noteOf s id) y.n = m
      · have : ¬ m = 0 := by omega
        simp [e2, this]
      · have a1 : (((commonN (noteOf s id) y.n : Nat) : Int) == (m : Int)) = false := by rw [beq_eq_false_iff_ne]; omega
        have a2 : (commonN (noteOf s id) y.n == m) = false := by rw [beq_eq_false_iff_ne]; exact e2
        rw [a1, a2]; simp
    · simp
  have e := sortk_four h hx4
  unfold kinI
  rw [if_pos h0]
  have e5 : Y.map NV.n = [4, 3, 2, 1].flatMap (kinL s (noteOf s id)) := by
    rw [e, List.map_append, List.map_append, List.map_append, List.flatMap_cons, List.flatMap_cons, List.flatMap_cons, List.flatMap_cons, List.flatMap_nil, List.append_nil, ← part 4 (by decide), ← part 3 (by decide), ← part 2 (by decide), ← part 1 (by decide)]
    rfl
  rw [← e5, List.map_map]; rfl
set_option maxRecDepth 100000 in
set_option maxHeartbeats 1000000 in
theorem kin1_any (one x : Note) (ov osv tv sv : Value) (id : Int) (BI BO : Nat) (w : World) (h1 : Texts w ov one.tags) (h2 : Texts w tv x.tags) (s1 : ∃ x n c, osv = .slice x n c) (s2 : ∃ x n c, sv = .slice x n c) (z1 : one.tags.length ≤ 1000000) (z2 : x.tags.length ≤ 1000000)
    (hi : w.heap[BI]? = some (.cells #[.int .i64 id] 3 (0, 0))) (ho : w.heap[BO]? = some (.cells #[.int .i64 one.id, .int .i64 one.book, .string one.name, ov, osv] 54 (0, 0))) :
    Calls Tryz.prog 50 #[noteV x tv sv, .pointer (some ⟨BI, 0, none⟩), .pointer (some ⟨BO, 0, none⟩)] w fun e w' => e = .returned (.bool ((x.id == id) || ((commonN one x : Nat) : Int) == 0)) ∧ Grow w w' := by
  obtain ⟨a1, c1, rfl⟩ := h1.mk
  obtain ⟨a3, c3, rfl⟩ := h2.mk
  obtain ⟨a2, n2, c2, rfl⟩ := s1
  obtain ⟨a4, n4, c4, rfl⟩ := s2
  have g0 : Grow w (w.alloc (.cells #[.int .i64 x.id, .int .i64 x.book, .string x.name, .slice a3 x.tags.length c3, .slice a4 n4 c4] 54)) := (Grow.refl w).alloc _
  have c := common_any one x _ _ _ _ _ (h1.grow g0) (h2.grow g0) ⟨a2, n2, c2, rfl⟩ ⟨a4, n4, c4, rfl⟩ z1 z2
  have i0 : w.cell? ⟨BI, 0, none⟩ = some (.int .i64 id) := (cell_of_row w _ 0 _ _ _ hi).trans rfl
  have iz : BI < w.heap.size := (Array.getElem?_eq_some_iff.1 hi).1
  obtain ⟨⟨p0, p1, p2, p3, p4⟩, pz⟩ := n5 ho
  unfold noteV at c ⊢
  clear h1 h2 hi ho
  cases hx : (x.id == id) with
  | true =>
    clear c
    go_enter Tryz.func50, Tryz.ntmps50
    go_wp2_with fail
    go_ret
    exact ⟨rfl, g0⟩
  | false =>
    generalize commonN one x = k at *
    go_enter Tryz.func50, Tryz.ntmps50
    go_wp2_with fail
    refine c.mono ?_
    rintro e w1 ⟨rfl, g1⟩
    clear c
    go_wp2_with fail
    go_ret
    exact ⟨ret_bool (by first | rfl | simp), g0.trans g1⟩
set_option maxRecDepth 100000 in
set_option maxHeartbeats 2000000 in
theorem kin2_any (one x y : Note) (ov osv tv sv tv' sv' : Value) (BO : Nat) (w : World) (h1 : Texts w ov one.tags) (h2 : Texts w tv x.tags) (h3 : Texts w tv' y.tags) (s1 : ∃ x n c, osv = .slice x n c) (s2 : ∃ x n c, sv = .slice x n c) (s3 : ∃ x n c, sv' = .slice x n c) (z1 : one.tags.length ≤ 1000000) (z2 : x.tags.length ≤ 1000000) (z3 : y.tags.length ≤ 1000000)
    (ho : w.heap[BO]? = some (.cells #[.int .i64 one.id, .int .i64 one.book, .string one.name, ov, osv] 54 (0, 0))) :
    Calls Tryz.prog 53 #[noteV x tv sv, noteV y tv' sv', .pointer (some ⟨BO, 0, none⟩)] w fun e w' => e = .returned (.int .i64 (cmpN ((commonN one y : Nat) : Int) ((commonN one x : Nat) : Int))) ∧ Grow w w' := by
  obtain ⟨a1, c1, rfl⟩ := h1.mk
  obtain ⟨a3, c3, rfl⟩ := h2.mk
  obtain ⟨a5, c5, rfl⟩ := h3.mk
  obtain ⟨a2, n2, c2, rfl⟩ := s1
  obtain ⟨a4, n4, c4, rfl⟩ := s2
  obtain ⟨a6, n6, c6, rfl⟩ := s3
  have HX := Lib.hid (two_boxes2 w (.cells #[.int .i64 x.id, .int .i64 x.book, .string x.name, .slice a3 x.tags.length c3, .slice a4 n4 c4] 54) (.cells #[.int .i64 y.id, .int .i64 y.book, .string y.name, .slice a5 y.tags.length c5, .slice a6 n6 c6] 54))
  have HO := Lib.hid ho
  have K1 := Lib.hid h1
  have K2 := Lib.hid h2
  have K3 := Lib.hid h3
  clear h1 h2 h3 ho
  unfold noteV
  go_enter Tryz.func53, Tryz.ntmps53
  go_upto_region 1 with (fail)
  generalize hV : (w.alloc (.cells #[.int .i64 x.id, .int .i64 x.book, .string x.name, .slice a3 x.tags.length c3, .slice a4 n4 c4] 54)).alloc (.cells #[.int .i64 y.id, .int .i64 y.book, .string y.name, .slice a5 y.tags.length c5, .slice a6 n6 c6] 54) = V
  have gV : Grow w V := by rw [← hV]; exact ((Grow.refl w).alloc _).alloc _
  have H1 : Hid (V.heap[w.heap.size]? = some (.cells #[.int .i64 x.id, .int .i64 x.book, .string x.name, .slice a3 x.tags.length c3, .slice a4 n4 c4] 54 (0, 0))) := by rw [← hV]; exact Lib.hid HX.out.1
  have H2 : Hid (V.heap[w.heap.size + 1]? = some (.cells #[.int .i64 y.id, .int .i64 y.book, .string y.name, .slice a5 y.tags.length c5, .slice a6 n6 c6] 54 (0, 0))) := by rw [← hV]; exact Lib.hid HX.out.2
  have kA := fun z : Gr V => common_any one y _ _ _ _ z.W (K1.out.grow (gV.trans z.g)) (K3.out.grow (gV.trans z.g)) ⟨a2, n2, c2, rfl⟩ ⟨a6, n6, c6, rfl⟩ z1 z3
  have kB := fun z : Gr V => common_any one x _ _ _ _ z.W (K1.out.grow (gV.trans z.g)) (K2.out.grow (gV.trans z.g)) ⟨a2, n2, c2, rfl⟩ ⟨a4, n4, c4, rfl⟩ z1 z2
  have kC := fun z : Gr V => cmpN_any ((commonN one y : Nat) : Int) ((commonN one x : Nat) : Int) z.W
  unfold noteV at kA kB
  obtain ⟨⟨p0, p1, p2, p3, p4⟩, pz⟩ := n5 H1.out
  obtain ⟨⟨q0, q1, q2, q3, q4⟩, qz⟩ := n5 H2.out
  obtain ⟨⟨r0, r1, r2, r3, r4⟩, rz⟩ := n5 (gV.blk HO.out)
  have GV := Lib.hid gV
  clear hV HX gV
  refine wp_region_gr (by kernel_rfl) (by kernel_rfl) ?_
  repeat (go_big_quiet_step (first | (go_at_call 51; first | with_reducible exact Calls.gr (kA _) | with_reducible exact Calls.gr (kB _)) | (go_at_call 43; exact Calls.gr_same (kC _))))
  refine wpQuiet_nil ?_
  rintro _ ⟨yy, rfl⟩
  have gy := yy.g
  generalize yy.W = wy at *
  go_wp2_with fail
  go_ret
  exact ⟨rfl, GV.out.trans gy⟩
end Go.Proofs.YtgpjcgcecahddaaGreatDoor
set_option linter.unusedVariables false
set_option linter.unusedSimpArgs false
namespace Go.Proofs.YtgpjcgcecahddaaGreatDoor
open Go.RowKit Go.Lib
set_option maxRecDepth 100000 in
theorem indexNotesT (v : Value) (l : List Note) (g : Nat) (lb : Array Value) (p : Note → Bool) (w : World) (h : Notes w v l) (hz : l.length ≤ 1000000000) (eg : ∀ args w, (callFunc g args).run Tryz.prog w = .ok (.enter g args) w)
    (hp : ∀ W x at' ct as' cs', Grow w W → x ∈ l → Texts W (.slice at' x.tags.length ct) x.tags → Calls Tryz.prog g (#[noteV x (.slice at' x.tags.length ct) (.slice as' x.sheets.length cs')] ++ lb) W fun e w' => e = .returned (.bool (p x)) ∧ Grow W w') :
    Calls Tryz.prog 89 #[v, .func (.func g) #[] lb] w fun e w' => e = .returned (.int .i64 (idx p l)) ∧ Grow w w' := by
  obtain ⟨a, c, rfl⟩ := h.mk
  unfold noteV at hp
  have HP := Lib.hid hp
  clear hp
  go_enter Tryz.func89, Tryz.ntmps89
  go_wp2
  go_loopw [5, 8] (fun v5 v8 wx => Grow w wx ∧ ∃ i : Nat, v8 = .int .i64 i ∧ i ≤ l.length ∧ ∀ (j : Nat) x, j < i → l[j]? = some x → p x = false) (fun _ v8 _ => l.length - (Go.RowKit.intOf v8).toNat)
  case atStart => exact ⟨Grow.refl _, 0, rfl, by omega, fun j _ h => absurd h (by omega)⟩
  case round =>
    obtain ⟨hg, i, rfl, hi, hall⟩ := hrel
    have HA := Lib.hid hall
    clear hall
    by_cases hlt : i < l.length
    · have hlt' : (i : Int) < l.length := by omega
      obtain ⟨x, hx, -⟩ := lt_get hlt
      obtain ⟨b, off, tv, sv, rfl, -, hc, hd, he, hf, hi2, ht, hs⟩ := (Notes.grow h hg).at hx
      obtain ⟨ta, tc, etv⟩ := ht.mk
      obtain ⟨sa, sc, esv⟩ := hs.mk
      subst etv esv
      have cP := HP.out wr x ta tc sa sc hg (List.mem_of_getElem? hx) ht
      have HX := Lib.hid hx
      clear hx h HP ht hs
      cases hpx : p x
      · rw [hpx] at cP
        have HPX := Lib.hid hpx
        clear hpx
        go_wp2_with fail
        refine cP.mono ?_
        rintro e w1 ⟨rfl, g1⟩
        go_wp2_with fail
        go_roundw
        case rel => exact ⟨hg.trans g1, i + 1, by go_num, by omega, fun j y hj h1 => by
          rcases (by omega : j < i ∨ j = i) with h3 | rfl
          · exact HA.out j y h3 h1
          · rw [HX.out] at h1; injection h1 with h1; rw [← h1]; exact HPX.out⟩
        case measure => simp [Go.RowKit.intOf]; omega
      · rw [hpx] at cP
        have HR := Lib.hid (idx_some HX.out hpx HA.out)
        clear hpx
        go_wp2_with fail
        refine cP.mono ?_
        rintro e w1 ⟨rfl, g1⟩
        go_wp2_with fail
        go_ret
        exact ⟨ret_int HR.out.symm, hg.trans g1⟩
    · have HR := Lib.hid (idx_none (p := p) (l := l) (fun j x hx => HA.out j x (by have := (List.getElem?_eq_some_iff.1 hx).1; omega) hx))
      have hlt' : ¬ (i : Int) < l.length := by omega
      clear h HP
      go_wp2_with fail
      go_ret
      exact ⟨ret_int HR.out.symm, hg⟩
theorem map_idx {α β : Type} (f : α → β) (p : β → Bool) : ∀ l : List α, idx p (l.map f) = idx (fun x => p (f x)) l
  | [] => rfl
  | x :: l => by
    rw [List.map_cons]
    unfold idx
    rw [map_idx f p l]
theorem nv_reads {base : Nat} {v : Value} {Y : List NV} {w : World} (h : RowO base 54 5 v Y.length (Y.flatMap noteC) w) (ht : ∀ y ∈ Y, Texts w y.tv y.n.tags ∧ Ints w y.sv y.n.sheets) : Notes w v (Y.map NV.n) := by
  have h' : RowO base 54 5 v (Y.map NV.n).length (Y.flatMap noteC) w := by rw [List.length_map]; exact h
  refine h'.reads fun i x hx => ?_
  rw [List.getElem?_map] at hx
  cases hy : Y[i]? with
  | none => rw [hy] at hx; cases hx
  | some y =>
    rw [hy] at hx
    obtain rfl : y.n = x := Option.some.inj hx
    obtain ⟨h1, h2⟩ := ht y (List.mem_of_getElem? hy)
    rw [flat_part noteC (fun _ => rfl) hy]
    exact ⟨y.tv, y.sv, rfl, h1, h2⟩
set_option maxRecDepth 100000 in
set_option maxHeartbeats 8000000 in
theorem seekKin_any (s : Shelf) (bv nv : Value) (id : Int) (w : World) (h : ShelfR w s bv nv) (hz : TameS s) (hT : Tabs w) :
    Calls Tryz.prog 14 #[shelfV s bv nv, .int .i64 id] w fun e w' => ∃ v, e = .returned (.tuple #[v, .int .i64 (noteE s id)]) ∧ RetI (kinI s id) w v w' := by
  obtain ⟨i0, hi0, hz0, hz1, hz2⟩ := info_parts info_item
  obtain ⟨a1, c1, rfl⟩ := h.1.mk
  obtain ⟨a2, c2, rfl⟩ := h.2.mk
  have HH := Lib.hid h
  have HTB := Lib.hid hT
  have HZ := Lib.hid hz
  have HX := Lib.hid (two_boxes2 w (.cells #[.int .i64 s.nb, .int .i64 s.nn, .int .i64 s.ns, .slice a1 s.books.length c1, .slice a2 s.notes.length c2] 25) (.cells #[.int .i64 id] 3))
  have hnl := hz.1.2.1
  clear h hT hz
  unfold shelfV
  go_enter Tryz.func14, Tryz.ntmps14
  go_upto_region 1 with (fail)
  generalize hV : (w.alloc (.cells #[.int .i64 s.nb, .int .i64 s.nn, .int .i64 s.ns, .slice a1 s.books.length c1, .slice a2 s.notes.length c2] 25)).alloc (.cells #[.int .i64 id] 3) = V
  have gV : Grow w V := by rw [← hV]; exact ((Grow.refl w).alloc _).alloc _
  have HB : Hid (V.heap[w.heap.size]? = some (.cells #[.int .i64 s.nb, .int .i64 s.nn, .int .i64 s.ns, .slice a1 s.books.length c1, .slice a2 s.notes.length c2] 25 (0, 0))) := by rw [← hV]; exact Lib.hid HX.out.1
  have HI : Hid (V.heap[w.heap.size + 1]? = some (.cells #[.int .i64 id] 3 (0, 0))) := by rw [← hV]; exact Lib.hid HX.out.2
  have HGV := Lib.hid gV
  clear hV HX gV
  have cM := mayS_any s _ _ V (HH.out.grow HGV.out) HZ.out (HTB.out.below HGV.out)
  unfold shelfV at cM
  obtain ⟨⟨p0, p1, p2, p3, p4⟩, pz⟩ := n5 HB.out
  cases hmy : mayS s with
  | false =>
    have HE := Lib.hid (show noteE s id = 2 by unfold noteE; rw [if_pos hmy])
    rw [hmy] at cM
    clear hmy
    go_wp2_with fail
    refine cM.mono ?_
    rintro e w2 ⟨rfl, g2⟩
    have HG2 := Lib.hid (HGV.out.trans g2)
    clear cM p0 p1 p2 p3 p4 g2
    go_wp2_with fail
    go_ret2
    refine ⟨_, by rw [HE.out]; rfl, HG2.out, ?_⟩
    rw [kinI, if_neg (by rw [HE.out]; decide)]
    exact RowO.nil
  | true =>
    have HP := Lib.hid (mayS_iff.1 hmy)
    have HMY := Lib.hid hmy
    rw [hmy] at cM
    clear hmy
    go_wp2_with fail
    refine cM.mono ?_
    rintro e w1 ⟨rfl, g1⟩
    have HG1 := Lib.hid (HGV.out.trans g1)
    have HB1 := Lib.hid (g1.blk HB.out)
    have HI1 := Lib.hid (g1.blk HI.out)
    clear cM p0 p1 p2 p3 p4 g1 pz HB HI
    obtain ⟨⟨p0, p1, p2, p3, p4⟩, pz⟩ := n5 HB1.out
    have r0 : w1.cell? ⟨w.heap.size + 1, 0, none⟩ = some (.int .i64 id) := (cell_of_row w1 _ 0 _ _ _ HI1.out).trans rfl
    have rz : w.heap.size + 1 < w1.heap.size := (Array.getElem?_eq_some_iff.1 HI1.out).1
    obtain ⟨N, hN⟩ : ∃ N, foundN s id = N := ⟨_, rfl⟩
    obtain ⟨B, hBB⟩ : ∃ B, foundB s id = B := ⟨_, rfl⟩
    have cF := (find_any s _ _ id w1 (HH.out.grow HG1.out) HZ.out (HTB.out.below HG1.out)).mono fun _ _ => RetFind.out hN hBB
    unfold shelfV at cF
    have HNE := Lib.hid hN
    have HBE := Lib.hid hBB
    clear hN hBB
    go_wp2_with fail
    refine cF.mono ?_
    rintro e w2 ⟨ta, tc, sa, sc, g2, rfl, ht, hs⟩
    have HG2 := Lib.hid (HG1.out.trans g2)
    have HB2 := Lib.hid (g2.blk HB1.out)
    have HI2 := Lib.hid (g2.blk HI1.out)
    clear cF p0 p1 p2 p3 p4 g2 pz HB1 HI1 r0 rz
    cases B with
    | false =>
      have HE := Lib.hid (show noteE s id = 4 by
        have h9 := HBE.out
        unfold foundB at h9
        simp only [decide_eq_false_iff_not] at h9
        unfold noteE at h9 ⊢
        rw [if_neg (by rw [HMY.out]; simp)] at h9 ⊢
        by_cases h8 : noteIx s id < 0
        · rw [if_pos h8]
        · rw [if_neg h8] at h9; exact absurd rfl h9)
      go_wp2_with fail
      go_ret2
      refine ⟨_, by rw [HE.out]; rfl, HG2.out.alloc _, ?_⟩
      rw [kinI, if_neg (by rw [HE.out]; decide)]
      exact RowO.nil
    | true =>
      have HE := Lib.hid (show noteE s id = 0 by have h9 := HBE.out; unfold foundB at h9; simpa using h9)
      have HON := Lib.hid (show N = noteOf s id by have h9 := HNE.out; unfold foundN at h9; rw [if_pos HE.out] at h9; exact h9.symm)
      have HNM := Lib.hid (show N ∈ s.notes by rw [HON.out]; exact noteOf_mem (noteE_zero.1 HE.out).2)
      have hNt : N.tags.length ≤ 4 := HP.out.tl N HNM.out
      have HTN := Lib.hid ht
      clear ht hs HNE HBE
      go_upto_region 6 with (fail)
      generalize hV : w2.alloc (.cells #[.int .i64 N.id, .int .i64 N.book, .string N.name, .slice ta N.tags.length tc, .slice sa N.sheets.length sc] 54) = U
      have gV : Grow w2 U := by rw [← hV]; exact (Grow.refl w2).alloc _
      have HO := Lib.hid (show U.heap[w2.heap.size]? = some (.cells #[.int .i64 N.id, .int .i64 N.book, .string N.name, .slice ta N.tags.length tc, .slice sa N.sheets.length sc] 54 (0, 0)) by rw [← hV]; exact heap_alloc_new w2 _)
      have HGU := Lib.hid (HG2.out.trans gV)
      have HBU := Lib.hid (gV.blk HB2.out)
      have HIU := Lib.hid (gV.blk HI2.out)
      have HTU := Lib.hid (HTN.out.grow gV)
      clear hV gV HB2 HI2 HTN
      have cC := clone_notes U (.slice a2 s.notes.length c2) s.notes U (Reads.hold (HH.out.grow HGU.out).2 (Grow.refl U)) hnl
      obtain ⟨⟨p0, p1, p2, p3, p4⟩, pz⟩ := n5 HBU.out
      go_wp2_with fail
      refine cC.mono ?_
      rintro e w3 ⟨v3, xs, rfl, hr3, g3, hxl, hxs⟩
      obtain ⟨Y0, hm0, hxs0, hty⟩ := notes_cells (w := U) s.notes xs hxl hxs
      subst hxs0
      have hYl : Y0.length = s.notes.length := by rw [← hm0, List.length_map]
      rw [← hYl] at hr3
      have HM0 := Lib.hid hm0
      have HTY := Lib.hid hty
      have HR3 := Lib.hid hr3
      have HG3 := Lib.hid g3
      have HSL := Lib.hid (show ∀ y ∈ Y0, ∃ ta tn tc sa sn sc, y.tv = .slice ta tn tc ∧ y.sv = .slice sa sn sc from fun y hy => by
        obtain ⟨x1, x2⟩ := HTY.out y hy
        obtain ⟨b1, b2, e1⟩ := x1.mk
        obtain ⟨b3, b4, e2⟩ := x2.mk
        exact ⟨b1, _, b2, b3, _, b4, e1, e2⟩)
      have HIN := Lib.hid (show ∀ y ∈ Y0, y.n ∈ s.notes from fun y hy => by rw [← HM0.out]; exact List.mem_map_of_mem hy)
      have hp1 : ∀ W (y : NV), Grow U W → y ∈ Y0 → Calls Tryz.prog 50 (#[.agg #[.int .i64 y.n.id, .int .i64 y.n.book, .string y.n.name, y.tv, y.sv]] ++ #[.pointer (some ⟨w.heap.size + 1, 0, none⟩), .pointer (some ⟨w2.heap.size, 0, none⟩)]) W fun e w' => e = .returned (.bool (kinP N id y)) ∧ Grow W w' := fun W y g hy => by
        obtain ⟨b1, b2, b3, b4, b5, b6, e1, e2⟩ := HSL.out y hy
        exact kin1_any N y.n _ _ y.tv y.sv id (w.heap.size + 1) w2.heap.size W (HTU.out.grow g) ((HTY.out y hy).1.grow g) ⟨_, _, _, rfl⟩ ⟨_, _, _, e2⟩ (by omega) (by have := HP.out.tl _ (HIN.out y hy); omega) (g.blk HIU.out) (g.blk HO.out)
      have hix := indexNotesT v3 (Y0.map NV.n) 50 #[.pointer (some ⟨w.heap.size + 1, 0, none⟩), .pointer (some ⟨w2.heap.size, 0, none⟩)] (fun n => (n.id == id) || ((commonN N n : Nat) : Int) == 0) w3 (nv_reads HR3.out fun y hy => ⟨(HTY.out y hy).1.grow HG3.out, (HTY.out y hy).2.grow HG3.out⟩) (by rw [List.length_map]; omega) (fun _ _ => rfl) (fun W n at' ct as' cs' g hn htx => by
        have hn2 : n ∈ s.notes := by rw [← HM0.out]; exact hn
        have gg := HG3.out.trans g
        exact kin1_any N n _ _ _ _ id (w.heap.size + 1) w2.heap.size W (HTU.out.grow gg) htx ⟨_, _, _, rfl⟩ ⟨_, _, _, rfl⟩ (by omega) (by have := HP.out.tl _ hn2; omega) (gg.blk HIU.out) (gg.blk HO.out))
      rw [map_idx] at hix
      have cD := delNotesG U v3 Y0 50 #[.pointer (some ⟨w.heap.size + 1, 0, none⟩), .pointer (some ⟨w2.heap.size, 0, none⟩)] (kinP N id) w3 HR3.out (by omega) HG3.out (fun _ _ => rfl) HSL.out hp1 hix
      obtain ⟨v3a, v3c, e3, -⟩ := HR3.out.slice
      subst e3
      have HUW := Lib.hid HGU.out
      have HYL := Lib.hid hYl
      clear cC p0 p1 p2 p3 p4 pz hr3 g3 hxl hxs hm0 hty hp1 hix hYl
      go_wp2_with fail
      refine cD.mono ?_
      rintro e w4 ⟨v4, rfl, hr4, g4, -⟩
      have HG4 := Lib.hid (grown_grow HG3.out HR3.out g4)
      have hXm : ∀ y ∈ Y0.filter (fun y => !kinP N id y), y ∈ Y0 := fun y hy => (List.mem_filter.1 hy).1
      have hXl : (Y0.filter fun y => !kinP N id y).length ≤ 12 := by
        have h1 := List.length_filter_le (fun y => !kinP N id y) Y0
        have h2 := HP.out.nl
        have h3 := HYL.out
        omega
      have hp2 : ∀ W (x y : NV), Grow U W → x ∈ Y0.filter (fun y => !kinP N id y) → y ∈ Y0.filter (fun y => !kinP N id y) → Calls Tryz.prog 53 (#[.agg #[.int .i64 x.n.id, .int .i64 x.n.book, .string x.n.name, x.tv, x.sv], .agg #[.int .i64 y.n.id, .int .i64 y.n.book, .string y.n.name, y.tv, y.sv]] ++ #[.pointer (some ⟨w2.heap.size, 0, none⟩)]) W fun e w' => e = .returned (.int .i64 (cmpN ((commonN N y.n : Nat) : Int) ((commonN N x.n : Nat) : Int))) ∧ Grow W w' := fun W x y g hx hy => by
        obtain ⟨b1, b2, b3, b4, b5, b6, e1, e2⟩ := HSL.out x (hXm x hx)
        obtain ⟨b1', b2', b3', b4', b5', b6', e1', e2'⟩ := HSL.out y (hXm y hy)
        exact kin2_any N x.n y.n _ _ x.tv x.sv y.tv y.sv w2.heap.size W (HTU.out.grow g) ((HTY.out x (hXm x hx)).1.grow g) ((HTY.out y (hXm y hy)).1.grow g) ⟨_, _, _, rfl⟩ ⟨_, _, _, e2⟩ ⟨_, _, _, e2'⟩ (by omega) (by have := HP.out.tl _ (HIN.out x (hXm x hx)); omega) (by have := HP.out.tl _ (HIN.out y (hXm y hy)); omega) (g.blk HO.out)
      have cS := stable_any U v4 (Y0.filter fun y => !kinP N id y) 53 #[.pointer (some ⟨w2.heap.size, 0, none⟩)] (fun y => ((commonN N y.n : Nat) : Int)) w4 hr4 (by omega) HG4.out (fun _ _ => rfl) (fun x hx => HSL.out x (hXm x hx)) hp2
      obtain ⟨v4a, v4c, e4, -⟩ := hr4.slice
      subst e4
      have HR4 := Lib.hid hr4
      clear cD hr4 g4 hp2 hXm
      go_wp2_with fail
      refine cS.mono ?_
      rintro e w5 ⟨rfl, Y, hsk, hYm, hr5, g5⟩
      have HG5 := Lib.hid (grown_grow HG4.out HR4.out g5)
      have HKI := Lib.hid (show Y.map (fun y => itemOf y.n) = kinI s id from kin_of HP.out HE.out HM0.out (by rw [← HON.out]; exact hsk) (by rw [← HON.out]; exact hYm))
      have HYM := Lib.hid (show ∀ y ∈ Y, y ∈ Y0 from fun y hy => (List.mem_filter.1 (hYm y hy)).1)
      have hYl2 : Y.length = (Y0.filter fun y => !kinP N id y).length := hsk.len
      rw [← hYl2] at hXl
      have hr5' := hr5
      rw [← hYl2] at hr5'
      rw [← hYl2]
      have HR5 := Lib.hid hr5'
      clear cS hsk hYm hr5 g5 hr5' hYl2
      go_wp2_with fail
      go_loopw [9, 11, 34] (fun v9 v11 v34 wx => ∃ (i : Nat) (o : Option Addr) (k : Nat), v9 = .slice o i k ∧ v34 = .int .i64 i ∧ i ≤ Y.length ∧ RowO w5.heap.size 50 2 (.slice o i k) i (((Y.take i).map fun y => itemOf y.n).flatMap itemC) wx ∧ Grow w5 wx) (fun _ _ v34 _ => Y.length - (Go.RowKit.intOf v34).toNat)
      case atStart => exact ⟨0, none, 0, rfl, rfl, by omega, RowO.nil, Grow.refl _⟩
      case round =>
        obtain ⟨i, o, k, rfl, rfl, hi, hr, hg⟩ := hrel
        have HR := Lib.hid hr
        have HG := Lib.hid hg
        clear hr hg
        by_cases hlt : i < Y.length
        · have hlt' : (i : Int) < Y.length := by omega
          obtain ⟨y, hy, -⟩ := lt_get hlt
          obtain ⟨b1, b2, b3, b4, b5, b6, e1, e2⟩ := HSL.out y (HYM.out y (List.mem_of_getElem? hy))
          have hrw := HR5.out.grow HG.out
          obtain ⟨nb, nc, env, -⟩ := hrw.cell (j := i * 5 + 0) (u := .int .i64 y.n.id) (by rw [flat_get noteC (fun _ => rfl) Y i 0 y hy (by decide)]; rfl)
          injection env with env _ _
          subst env
          have q0 : wr.cell? ⟨nb, i * 5, none⟩ = some (.int .i64 y.n.id) := by
            have h9 := (row_cells noteC (fun _ => rfl) hrw hy 0 _ rfl).1
            exact h9
          have q1 : wr.cell? ⟨nb, i * 5 + 1, none⟩ = some (.int .i64 y.n.book) := (row_cells noteC (fun _ => rfl) hrw hy 1 _ rfl).1
          have q2 : wr.cell? ⟨nb, i * 5 + 2, none⟩ = some (.string y.n.name) := (row_cells noteC (fun _ => rfl) hrw hy 2 _ rfl).1
          have q3 : wr.cell? ⟨nb, i * 5 + 3, none⟩ = some (.slice b1 b2 b3) := e1 ▸ (row_cells noteC (fun _ => rfl) hrw hy 3 _ rfl).1
          have q4 : wr.cell? ⟨nb, i * 5 + 4, none⟩ = some (.slice b4 b5 b6) := e2 ▸ (row_cells noteC (fun _ => rfl) hrw hy 4 _ rfl).1
          have qz := (row_cells noteC (fun _ => rfl) hrw hy 0 _ rfl).2.2
          have HY := Lib.hid hy
          have gsz := HG.out.size
          clear hrw hy e1 e2
          go_wp2_with (at_builtin; refine app_R (base := w5.heap.size) (by rfl) _ _ 29 (by rfl) 50 i0 _ 2 24 Tryz.underlying29 hi0 hz0 hz1 hz2 (by rfl) (by decide) (.slice o i k) i (((Y.take i).map fun y => itemOf y.n).flatMap itemC) (by rfl) _ (HR.out.grow ((Grow.refl wr).alloc _)) ?_ (itemC ⟨y.n.id, y.n.name⟩) rfl (itemC_one _) ?_ ?_ (by decide) ?_; (simp; omega); (first | rfl | (simp; done) | (simp; rfl)); omega; intro v' w6 ra; obtain ⟨va, vc, e3, -⟩ := ra.1.slice; subst e3; have HRA := Lib.hid ra; clear ra)
          have HGR := Lib.hid (grown_grow (HG.out.alloc _) (HR.out.grow ((Grow.refl wr).alloc _)) HRA.out.2.1)
          have HADD := Lib.hid (show RowO w5.heap.size 50 2 (.slice va (i + 1) vc) (i + 1) (((Y.take (i + 1)).map fun y => itemOf y.n).flatMap itemC) w6 by
            have h9 := HRA.out.1
            rw [List.take_add_one, HY.out, List.map_append, List.flatMap_append]
            simpa [itemOf] using h9)
          clear q0 q1 q2 q3 q4 HRA
          go_wp2_with fail
          go_roundw
          case rel => exact ⟨.slice va (i + 1) vc, _, .int .i64 ((i + 1 : Nat) : Int), ⟨i + 1, va, vc, rfl, rfl, by omega, (by first | exact HADD.out | (rw [← List.map_take]; exact HADD.out)), HGR.out⟩, rfl, rfl, by go_num⟩
          case measure => simp [Go.RowKit.intOf]; omega
        · have hlt' : ¬ (i : Int) < Y.length := by omega
          have hiY : i = Y.length := by omega
          have HF := Lib.hid (show RowO w5.heap.size 50 2 (.slice o i k) (kinI s id).length ((kinI s id).flatMap itemC) wr by
            have h9 := HR.out
            rw [← HKI.out, List.length_map, ← hiY]
            rw [List.take_of_length_le (by omega)] at h9
            exact h9)
          clear hiY
          go_wp2_with fail
          go_ret2
          exact ⟨_, by rw [HE.out]; rfl, (HUW.out.trans HG5.out).trans HG.out, HF.out.base_mono (HUW.out.trans HG5.out).size⟩
end Go.Proofs.YtgpjcgcecahddaaGreatDoor
set_option linter.unusedVariables false
set_option linter.unusedSimpArgs false
namespace Go.Proofs.YtgpjcgcecahddaaGreatDoor
open Go.RowKit Go.Lib
set_option maxRecDepth 100000 in
set_option maxHeartbeats 4000000 in
theorem awake26_any (w : World) (hT : Tabs w) (hm : MaxL w) : Calls Tryz.prog 10 #[] w fun e w' => e = .returned (.bool true) ∧ Grow w w' := by
  have GW := Lib.hid (Grow.refl w)
  have HTB := Lib.hid hT
  have HMX := Lib.hid hm
  clear hT hm
  go_enter Tryz.func10, Tryz.ntmps10
  have c := two_any w
  go_wp2_with fail
  refine c.mono ?_
  clear c
  rintro e U1 ⟨xa, xc, ya, yc, g, rfl, hr⟩
  replace GW := Lib.hid (GW.out.trans g)
  have HR := Lib.hid hr
  clear hr g
  have c := seekFind_any tw _ _ qA U1 HR.out tame_tw (HTB.out.below GW.out) (HMX.out.grow GW.out) (by decide)
  rw [findE_A, findI_A] at c
  unfold shelfV at c
  go_wp2_with fail
  refine c.mono ?_
  clear c
  rintro e U2 ⟨v, rfl, g, hr⟩
  replace GW := Lib.hid (GW.out.trans g)
  obtain ⟨fa, fc, ev, -⟩ := hr.slice
  subst ev
  have HA := Lib.hid (row_items hr)
  clear hr g
  clear HR
  have c := two_any U2
  go_wp2_with fail
  refine c.mono ?_
  clear c
  rintro e U3 ⟨xa, xc, ya, yc, g, rfl, hr⟩
  replace GW := Lib.hid (GW.out.trans g)
  replace HA := Lib.hid (Items.grow HA.out g)
  have HR := Lib.hid hr
  clear hr g
  have c := seekFind_any tw _ _ qB U3 HR.out tame_tw (HTB.out.below GW.out) (HMX.out.grow GW.out) (by decide)
  rw [findE_B] at c
  unfold shelfV at c
  go_wp2_with fail
  refine c.mono ?_
  clear c
  rintro e U4 ⟨v, rfl, g, hr⟩
  replace GW := Lib.hid (GW.out.trans g)
  replace HA := Lib.hid (Items.grow HA.out g)
  clear hr g HR
  have c := two_any U4
  go_wp2_with fail
  refine c.mono ?_
  clear c
  rintro e U5 ⟨xa, xc, ya, yc, g, rfl, hr⟩
  replace GW := Lib.hid (GW.out.trans g)
  replace HA := Lib.hid (Items.grow HA.out g)
  have HR := Lib.hid hr
  clear hr g
  have c := seekKin_any tw _ _ 1 U5 HR.out tame_tw (HTB.out.below GW.out)
  rw [noteE_1, kinI_1] at c
  unfold shelfV at c
  go_wp2_with fail
  refine c.mono ?_
  clear c
  rintro e U6 ⟨v, rfl, g, hr⟩
  replace GW := Lib.hid (GW.out.trans g)
  replace HA := Lib.hid (Items.grow HA.out g)
  obtain ⟨ka, kc, ev, -⟩ := hr.slice
  subst ev
  have HK := Lib.hid (row_items hr)
  clear hr g
  clear HR
  have c := words_any qW U6 (HMX.out.grow GW.out) (by decide)
  rw [words_W] at c
  go_wp2_with fail
  refine c.mono ?_
  clear c
  rintro e U7 ⟨v, rfl, hr, g⟩
  replace GW := Lib.hid (GW.out.trans g)
  replace HA := Lib.hid (Items.grow HA.out g)
  replace HK := Lib.hid (Items.grow HK.out g)
  obtain ⟨wa, wc, ev, -⟩ := hr.slice
  subst ev
  have HW := Lib.hid (row_texts hr)
  clear hr g
  have c := sameTexts_any _ _ litW litW _ (Texts.grow HW.out ((Grow.refl _).alloc _)) (lit_reads (fun t => [Value.string t]) (fun _ => rfl) U7 litW 9 (fun x => rfl)) (by decide)
  rw [same_yes rfl] at c
  go_wp2_with fail
  refine c.mono ?_
  clear c
  rintro e U8 ⟨rfl, g⟩
  replace g := ((Grow.refl U7).alloc _).trans g
  replace GW := Lib.hid (GW.out.trans g)
  replace HA := Lib.hid (Items.grow HA.out g)
  replace HK := Lib.hid (Items.grow HK.out g)
  clear g
  have c := sameItems_any _ _ litA litA _ (Items.grow HA.out ((Grow.refl _).alloc _)) (lit_reads itemC (fun _ => rfl) U8 litA 50 (fun x => rfl)) (by decide)
  rw [same_yes rfl] at c
  go_wp2_with fail
  refine c.mono ?_
  clear c
  rintro e U9 ⟨rfl, g⟩
  replace g := ((Grow.refl U8).alloc _).trans g
  replace GW := Lib.hid (GW.out.trans g)
  replace HA := Lib.hid (Items.grow HA.out g)
  replace HK := Lib.hid (Items.grow HK.out g)
  clear g
  clear HA HW
  have c := two_any U9
  go_wp2_with fail
  refine c.mono ?_
  clear c
  rintro e U10 ⟨xa, xc, ya, yc, g, rfl, hr⟩
  replace GW := Lib.hid (GW.out.trans g)
  replace HK := Lib.hid (Items.grow HK.out g)
  have HR := Lib.hid hr
  clear hr g
  have c := seekTags_any tw _ _ U10 HR.out tame_tw (HTB.out.below GW.out)
  rw [tagsI_1] at c
  unfold shelfV at c
  go_wp2_with fail
  refine c.mono ?_
  clear c
  rintro e U11 ⟨v, rfl, g, hr⟩
  replace GW := Lib.hid (GW.out.trans g)
  replace HK := Lib.hid (Items.grow HK.out g)
  obtain ⟨ta, tc, ev, -⟩ := hr.slice
  subst ev
  have HT := Lib.hid (row_items hr)
  clear hr g
  clear HR
  have c := sameItems_any _ _ litT litT _ (Items.grow HT.out ((Grow.refl _).alloc _)) (lit_reads itemC (fun _ => rfl) U11 litT 50 (fun x => rfl)) (by decide)
  rw [same_yes rfl] at c
  go_wp2_with fail
  refine c.mono ?_
  clear c
  rintro e U12 ⟨rfl, g⟩
  replace g := ((Grow.refl U11).alloc _).trans g
  replace GW := Lib.hid (GW.out.trans g)
  replace HK := Lib.hid (Items.grow HK.out g)
  clear g
  clear HT
  have c := sameItems_any _ _ litA litA _ (Items.grow HK.out ((Grow.refl _).alloc _)) (lit_reads itemC (fun _ => rfl) U12 litA 50 (fun x => rfl)) (by decide)
  rw [same_yes rfl] at c
  go_wp2_with fail
  refine c.mono ?_
  clear c
  rintro e U13 ⟨rfl, g⟩
  replace g := ((Grow.refl U12).alloc _).trans g
  replace GW := Lib.hid (GW.out.trans g)
  replace HK := Lib.hid (Items.grow HK.out g)
  clear g
  have c := mayQ_any qM U13 (by decide)
  rw [terms_M] at c
  go_wp2_with fail
  refine c.mono ?_
  clear c
  rintro e U14 ⟨rfl, g⟩
  replace GW := Lib.hid (GW.out.trans g)
  go_wp2_with fail
  go_ret
  exact ⟨rfl, GW.out⟩
end Go.Proofs.YtgpjcgcecahddaaGreatDoor
set_option linter.unusedVariables false
set_option linter.unusedSimpArgs false
namespace Go.Proofs.YtgpjcgcecahddaaGreatDoor
open Go.RowKit Go.Lib
theorem has_next {t x : ByteArray} {l : List ByteArray} {i : Nat} (h : l[i]? = some x) : hasT t (l.take (i + 1)) = (hasT t (l.take i) || (x.toList == t.toList)) := by
  unfold hasT
  rw [List.take_add_one, h, List.any_append]; simp
theorem has_hit {t x : ByteArray} {l : List ByteArray} {i : Nat} (h : l[i]? = some x) (e : (x.toList == t.toList) = true) : hasT t l = true := List.any_eq_true.2 ⟨x, List.mem_of_getElem? h, e⟩
theorem has_iff {t : ByteArray} {l : List ByteArray} : hasT t l = true ↔ t ∈ l := by
  unfold hasT
  rw [List.any_eq_true]
  constructor
  · rintro ⟨x, hx, e⟩
    rw [← list_eq.1 e]; exact hx
  · intro h; exact ⟨t, h, list_eq.2 rfl⟩
set_option maxRecDepth 100000 in
theorem among_any (v : Value) (l : List ByteArray) (t : ByteArray) (w : World) (h : Texts w v l) (hz : l.length ≤ 1000000000) :
    Calls Tryz.prog 32 #[v, .string t] w fun e w' => e = .returned (.bool (hasT t l)) ∧ Grow w w' := by
  obtain ⟨a, c, rfl⟩ := h.mk
  have HH := Lib.hid h
  clear h
  go_enter Tryz.func32, Tryz.ntmps32
  go_wp2_with fail
  go_loopw [5] (fun v5 wx => ∃ i : Nat, v5 = .int .i64 i ∧ i ≤ l.length ∧ hasT t (l.take i) = false ∧ Grow w wx) (fun v5 _ => l.length - (Go.RowKit.intOf v5).toNat)
  case atStart => exact ⟨0, rfl, by omega, rfl, Grow.refl _⟩
  case round =>
    obtain ⟨i, rfl, hi, hno, hg⟩ := hrel
    have HN := Lib.hid hno
    have HG := Lib.hid hg
    clear hno
    by_cases hlt : i < l.length
    · have hlt' : (i : Int) < l.length := by omega
      obtain ⟨x, hx, -⟩ := lt_get hlt
      obtain ⟨b, off, rfl, hb, q0⟩ := (HH.out.grow hg).at hx
      have HX := Lib.hid hx
      clear hx hg
      cases hp : (x.toList == t.toList)
      · have HP := Lib.hid hp
        go_wp2_with fail
        go_roundw
        case rel => exact ⟨i + 1, by go_num, by omega, by rw [has_next HX.out, HN.out, HP.out]; rfl, HG.out⟩
        case measure => simp [Go.RowKit.intOf]; omega
      · have HP := Lib.hid (has_hit HX.out hp)
        go_wp2_with fail
        go_ret
        exact ⟨ret_bool HP.out.symm, HG.out⟩
    · have hlt' : ¬ (i : Int) < l.length := by omega
      have HP := Lib.hid (show hasT t l = false by have := HN.out; rw [List.take_of_length_le (by omega)] at this; exact this)
      clear hg
      go_wp2_with fail
      go_ret
      exact ⟨ret_bool HP.out.symm, HG.out⟩
end Go.Proofs.YtgpjcgcecahddaaGreatDoor
set_option linter.unusedVariables false
set_option linter.unusedSimpArgs false
namespace Go.Proofs.YtgpjcgcecahddaaGreatDoor
open Go.RowKit Go.Lib
structure Joins (X Y Z : List ByteArray) : Prop where
  back : ∀ t ∈ Z, (hasT t X || hasT t Y) = true
  left : ∀ t ∈ X, hasT t Z = true
  right : ∀ t ∈ Y, hasT t Z = true
  one : ∀ t ∈ Z, words t = [t] ∧ t.size ≤ 500000
  inc : Inc Z
  few : X.length ≤ 1000000 ∧ Y.length ≤ 1000000 ∧ Z.length ≤ 1000000
theorem word_le {a t : ByteArray} (h : t ∈ words a) : t.size ≤ a.size := by
  have h1 := part_le _ _ (parts_mem.1 (words_mem.1 h).1)
  rw [sizeL_list, sizeL_list]; exact h1
theorem joins_of {a b : ByteArray} (ha : a.size ≤ 200) (hb : b.size ≤ 200) : Joins (words a) (words b) (words ((a ++ ⟨#[32]⟩) ++ b)) := by
  have hc : ((a ++ ⟨#[32]⟩) ++ b).data.toList = a.data.toList ++ 32 :: b.data.toList := by simp
  have hs : ((a ++ ⟨#[32]⟩) ++ b).size = a.size + 1 + b.size := by rw [ByteArray.size_append, ByteArray.size_append]; rfl
  have j := fun x => words_join (x := x) hc
  refine ⟨fun t ht => ?_, fun t ht => has_iff.2 ((j t).2 (.inl ht)), fun t ht => has_iff.2 ((j t).2 (.inr ht)), fun t ht => ⟨words_one ht, by have := word_le ht; omega⟩, words_inc _, ?_⟩
  · rw [Bool.or_eq_true, has_iff, has_iff]; exact (j t).1 ht
  · have h1 := words_few a (by omega)
    have h2 := words_few b (by omega)
    have h3 := words_few ((a ++ ⟨#[32]⟩) ++ b) (by omega)
    omega
theorem pad_of (a : ByteArray) : words ((⟨#[32]⟩ ++ a) ++ ⟨#[32, 32]⟩) = words a := words_pad (by simp)
theorem ret_and {b : Bool} (h : b = true) : Ending.returned (Value.bool b) = .returned (.bool true) := by rw [h]
set_option maxRecDepth 100000 in
set_option maxHeartbeats 4000000 in
theorem joins_walk (a b : ByteArray) (w : World) (hT : Tabs w) (hm : MaxL w) (za : a.size ≤ 140737488351232) (zb : b.size ≤ 140737488351232) :
    Calls Tryz.prog 8 #[.string a, .string b] w fun e w' => e = .returned (.bool true) ∧ Grow w w' := by
  by_cases h1 : (200 : Int) < a.size
  · go_enter Tryz.func8, Tryz.ntmps8
    go_wp2_with fail
    refine (awake26_any w hT hm).mono ?_
    rintro e w1 ⟨rfl, g1⟩
    go_wp2_with fail
    go_ret
    exact ⟨rfl, g1⟩
  by_cases h2 : (200 : Int) < b.size
  · go_enter Tryz.func8, Tryz.ntmps8
    go_wp2_with fail
    refine (awake26_any w hT hm).mono ?_
    rintro e w1 ⟨rfl, g1⟩
    go_wp2_with fail
    go_ret
    exact ⟨rfl, g1⟩
  have HTB := Lib.hid hT
  have HMX := Lib.hid hm
  have HJ := Lib.hid (joins_of (a := a) (b := b) (by omega) (by omega))
  have HPD := Lib.hid (pad_of a)
  have hsz : ((a ++ ⟨#[32]⟩) ++ b).size ≤ 500000 := by rw [ByteArray.size_append, ByteArray.size_append, show (⟨#[32]⟩ : ByteArray).size = 1 from rfl]; omega
  have hsp : ((⟨#[32]⟩ ++ a) ++ ⟨#[32, 32]⟩ : ByteArray).size ≤ 500000 := by rw [ByteArray.size_append, ByteArray.size_append, show (⟨#[32]⟩ : ByteArray).size = 1 from rfl, show (⟨#[32, 32]⟩ : ByteArray).size = 2 from rfl]; omega
  have HSZ := Lib.hid hsz
  have HSP := Lib.hid hsp
  clear hT hm hsz hsp
  go_enter Tryz.func8, Tryz.ntmps8
  have c := words_any a w HMX.out (by omega)
  go_wp2_with fail
  refine c.mono ?_
  clear c
  rintro e w1 ⟨v, rfl, hr, g1⟩
  have HX := Lib.hid (row_texts hr)
  have HG1 := Lib.hid g1
  clear hr g1
  have c := words_any b w1 (HMX.out.grow HG1.out) (by omega)
  go_wp2_with fail
  refine c.mono ?_
  clear c
  rintro e w2 ⟨v2, rfl, hr, g2⟩
  have HY := Lib.hid (row_texts hr)
  have HG2 := Lib.hid (HG1.out.trans g2)
  have HX2 := Lib.hid (Texts.grow HX.out g2)
  clear hr g2 HX HG1
  have c := words_any ((a ++ ⟨#[32]⟩) ++ b) w2 (HMX.out.grow HG2.out) HSZ.out
  go_wp2_with fail
  refine c.mono ?_
  clear c
  rintro e w3 ⟨v3, rfl, hr, g3⟩
  have HZ3 := Lib.hid (row_texts hr)
  have HG3 := Lib.hid (HG2.out.trans g3)
  have HX3 := Lib.hid (Texts.grow HX2.out g3)
  have HY3 := Lib.hid (Texts.grow HY.out g3)
  clear hr g3 HX2 HY HG2
  generalize hX : words a = X at *
  generalize hY : words b = Y at *
  generalize hZ : words ((a ++ ⟨#[32]⟩) ++ b) = Z at *
  obtain ⟨xa, xc, ex⟩ := HX3.out.mk
  obtain ⟨ya, yc, ey⟩ := HY3.out.mk
  obtain ⟨za', zc, ez⟩ := HZ3.out.mk
  subst ex ey ez
  obtain ⟨n1, n2, n3⟩ := HJ.out.few
  clear hX hY hZ
  go_wp2_with fail
  go_loopw [8] (fun v8 wx => ∃ i : Nat, v8 = .int .i64 i ∧ i ≤ Z.length ∧ Grow w3 wx) (fun v8 _ => Z.length - (Go.RowKit.intOf v8).toNat)
  case atStart => exact ⟨0, rfl, by omega, Grow.refl _⟩
  case round =>
    obtain ⟨i, rfl, hi, hg⟩ := hrel
    have HG := Lib.hid hg
    clear hg
    by_cases hlt : i < Z.length
    · have hlt' : (i : Int) < Z.length := by omega
      obtain ⟨t, ht, -⟩ := lt_get hlt
      have htm := List.mem_of_getElem? ht
      obtain ⟨zb0, off, rfl, hb, q0⟩ := (Texts.grow HZ3.out HG.out).at ht
      have HTT := Lib.hid ht
      have HTM := Lib.hid htm
      have hor := HJ.out.back t htm
      obtain ⟨p, hp⟩ : ∃ p, hasT t X = p := ⟨_, rfl⟩
      obtain ⟨q, hq⟩ : ∃ q, hasT t Y = q := ⟨_, rfl⟩
      have kA := fun y : Gr wr => among_any _ X t y.W (Texts.grow (Texts.grow HX3.out HG.out) y.g) (by omega)
      have kB := fun y : Gr wr => among_any _ Y t y.W (Texts.grow (Texts.grow HY3.out HG.out) y.g) (by omega)
      rw [hp] at hor kA
      rw [hq] at hor kB
      have HOR := Lib.hid hor
      clear hor hp hq ht htm
      go_upto_region 7 with (fail)
      refine wp_region_gr (by kernel_rfl) (by kernel_rfl) ?_
      repeat (go_big_quiet_step (first | (go_at_call 32; first | with_reducible exact Calls.gr (kA _) | with_reducible exact Calls.gr (kB _))))
      refine wpQuiet_nil ?_
      rintro _ ⟨yy, rfl⟩
      have HG4 := Lib.hid (HG.out.trans yy.g)
      generalize yy.W = w4 at *
      clear kA kB yy q0 hb
      obtain ⟨zb0', off', eZ, hb, q0⟩ := (Texts.grow HZ3.out HG4.out).at HTT.out
      injection eZ with eZ
      injection eZ with e1 e2
      subst e1 e2
      have c := words_any t w4 (HMX.out.grow (HG3.out.trans HG4.out)) (HJ.out.one t HTM.out).2
      rw [(HJ.out.one t HTM.out).1] at c
      go_wp2_with fail
      refine c.mono ?_
      clear c q0 hb
      rintro e w5 ⟨v5, rfl, hr, g5⟩
      have HG5 := Lib.hid (HG4.out.trans g5)
      have h11 := row_texts hr
      obtain ⟨oa, oc, eo⟩ := h11.mk
      subst eo
      obtain ⟨ob, ooff, rfl, hob, o0⟩ := Texts.at (i := 0) (x := t) h11 rfl
      obtain ⟨zb0', off', eZ, hb, q0⟩ := (Texts.grow HZ3.out HG5.out).at HTT.out
      injection eZ with eZ
      injection eZ with e1 e2
      subst e1 e2
      have o1 : w5.cell? ⟨ob, ooff, none⟩ = some (.string t) := o0
      clear hr g5 h11
      have hor := HOR.out
      rcases Nat.eq_zero_or_pos i with h0 | h0
      · have hd : decide (0 < i) = false := decide_eq_false (by omega)
        have hd' : decide ((0 : Int) < i) = false := decide_eq_false (by omega)
        clear h0
        cases p <;> cases q <;> first | (exfalso; revert hor; decide) | skip
        all_goals
          go_upto_region 9 with (fail)
          refine wp_region_gr (by kernel_rfl) (by kernel_rfl) ?_
          repeat (go_big_quiet_step (fail))
          refine wpQuiet_nil ?_
          rintro _ ⟨yy, rfl⟩
          have HG6 := Lib.hid (HG5.out.trans yy.g)
          generalize yy.W = w6 at *
          go_wp2_with fail
          go_roundw
          case rel => exact ⟨i + 1, by go_num, by omega, HG6.out⟩
          case measure => simp [Go.RowKit.intOf]; omega
      · obtain ⟨u, hu, -⟩ := lt_get (l := Z) (i := i - 1) (by omega)
        obtain ⟨zb0', off', eZ, -, k0⟩ := (Texts.grow HZ3.out HG5.out).at hu
        injection eZ with eZ
        injection eZ with e1 e2
        subst e1 e2
        have hlt2 : Op.bytesLess u.toList t.toList = true := by
          have h9 := List.pairwise_iff_getElem.1 HJ.out.inc (i - 1) i (by omega) hlt (by omega)
          rw [(List.getElem?_eq_some_iff.1 hu).2, (List.getElem?_eq_some_iff.1 HTT.out).2] at h9
          exact h9
        have hlt3 : Op.bytesLess t.toList u.toList = false := by
          cases e : ltS t u
          · exact e
          · have h9 := ltS_trans e hlt2
            rw [ltS_irrefl] at h9; cases h9
        have heq : (t.toList == u.toList) = false := by
          cases e : (t.toList == u.toList)
          · rfl
          · rw [list_eq.1 e] at hlt2
            have h9 : ltS u u = true := hlt2
            rw [ltS_irrefl] at h9; cases h9
        clear hlt2
        have hd : decide (0 < i) = true := decide_eq_true (by omega)
        have hd' : decide ((0 : Int) < i) = true := decide_eq_true (by omega)
        have hi0 : IntKind.i64.wrap ((i : Int) - 1) = (i : Int) - 1 := IntWalk.i64_in _ (by omega)
        have hi1 : (0 : Int) ≤ (i : Int) - 1 := by omega
        have hi2 : (i : Int) - 1 < Z.length := by omega
        have hi3 : ((i : Int) - 1).toNat = i - 1 := by omega
        clear hu
        cases p <;> cases q <;> first | (exfalso; revert hor; decide) | skip
        all_goals
          go_upto_region 9 with (fail)
          refine wp_region_gr (by kernel_rfl) (by kernel_rfl) ?_
          repeat (first | go_big_quiet_step (fail) | rw [hlt3, heq])
          refine wpQuiet_nil ?_
          rintro _ ⟨yy, rfl⟩
          have HG6 := Lib.hid (HG5.out.trans yy.g)
          generalize yy.W = w6 at *
          go_wp2_with fail
          go_roundw
          case rel => exact ⟨i + 1, by go_num, by omega, HG6.out⟩
          case measure => simp [Go.RowKit.intOf]; omega
    · have hlt' : ¬ (i : Int) < Z.length := by omega
      go_wp2_with fail
      go_loopw [12] (fun vk wx => ∃ i : Nat, vk = .int .i64 i ∧ i ≤ X.length ∧ Grow w3 wx) (fun vk _ => X.length - (Go.RowKit.intOf vk).toNat)
      case atStart => exact ⟨0, rfl, by omega, HG.out⟩
      case round =>
        clear hlt hlt' hi
        replace HG : Hid True := Lib.hid trivial
        obtain ⟨i, rfl, hi, hg⟩ := hrel
        have HG := Lib.hid hg
        clear hg
        by_cases hlt : i < X.length
        · have hlt' : (i : Int) < X.length := by omega
          obtain ⟨t, ht, -⟩ := lt_get hlt
          obtain ⟨xb0, off, rfl, hb, q0⟩ := (Texts.grow HX3.out HG.out).at ht
          have kA := among_any _ Z t wr (Texts.grow HZ3.out HG.out) (by omega)
          rw [HJ.out.left t (List.mem_of_getElem? ht)] at kA
          clear ht
          go_wp2_with fail
          refine kA.mono ?_
          rintro e w4 ⟨rfl, g4⟩
          have HG4 := Lib.hid (HG.out.trans g4)
          clear kA q0 hb g4
          go_wp2_with fail
          go_roundw
          case rel => exact ⟨i + 1, by go_num, by omega, HG4.out⟩
          case measure => simp [Go.RowKit.intOf]; omega
        · have hlt' : ¬ (i : Int) < X.length := by omega
          go_wp2_with fail
          go_loopw [13] (fun vk wx => ∃ i : Nat, vk = .int .i64 i ∧ i ≤ Y.length ∧ Grow w3 wx) (fun vk _ => Y.length - (Go.RowKit.intOf vk).toNat)
          case atStart => exact ⟨0, rfl, by omega, HG.out⟩
          case round =>
            clear hlt hlt' hi
            replace HG : Hid True := Lib.hid trivial
            obtain ⟨i, rfl, hi, hg⟩ := hrel
            have HG := Lib.hid hg
            clear hg
            by_cases hlt : i < Y.length
            · have hlt' : (i : Int) < Y.length := by omega
              obtain ⟨t, ht, -⟩ := lt_get hlt
              obtain ⟨xb0, off, rfl, hb, q0⟩ := (Texts.grow HY3.out HG.out).at ht
              have kA := among_any _ Z t wr (Texts.grow HZ3.out HG.out) (by omega)
              rw [HJ.out.right t (List.mem_of_getElem? ht)] at kA
              clear ht
              go_wp2_with fail
              refine kA.mono ?_
              rintro e w4 ⟨rfl, g4⟩
              have HG4 := Lib.hid (HG.out.trans g4)
              clear kA q0 hb g4
              go_wp2_with fail
              go_roundw
              case rel => exact ⟨i + 1, by go_num, by omega, HG4.out⟩
              case measure => simp [Go.RowKit.intOf]; omega
            · have hlt' : ¬ (i : Int) < Y.length := by omega
              go_wp2_with fail
              have c := words_any ((⟨#[32]⟩ ++ a) ++ ⟨#[32, 32]⟩) wr (HMX.out.grow (HG3.out.trans HG.out)) HSP.out
              rw [HPD.out] at c
              refine c.mono ?_
              clear c
              rintro e w5 ⟨v5, rfl, hr, g5⟩
              have HG5 := Lib.hid (HG.out.trans g5)
              have h11 := row_texts hr
              obtain ⟨oa, oc, eo⟩ := h11.mk
              subst eo
              have c := sameTexts_any _ _ X X w5 h11 (Texts.grow HX3.out HG5.out) (by omega)
              rw [same_yes rfl] at c
              clear hr g5 h11
              go_wp2_with fail
              refine c.mono ?_
              clear c
              rintro e w6 ⟨rfl, g6⟩
              have HG6 := Lib.hid (HG3.out.trans (HG5.out.trans g6))
              clear g6
              have c := awake26_any w6 (HTB.out.below HG6.out) (HMX.out.grow HG6.out)
              go_wp2_with fail
              refine c.mono ?_
              clear c
              rintro e w7 ⟨rfl, g7⟩
              have HG7 := Lib.hid (HG6.out.trans g7)
              go_wp2_with fail
              go_ret
              exact ⟨rfl, HG7.out⟩
theorem joins_law (a b : ByteArray) (w : World) (za : a.size ≤ 140737488351232) (zb : b.size ≤ 140737488351232) (hT : Tabs w) (hm : MaxL w) : Calls Tryz.prog 8 #[.string a, .string b] w fun e w' => e = .returned (.bool true) ∧ Below w.heap.size w w' := joins_walk a b w hT hm za zb
end Go.Proofs.YtgpjcgcecahddaaGreatDoor
set_option linter.unusedVariables false
set_option linter.unusedSimpArgs false
namespace Go.Proofs.YtgpjcgcecahddaaGreatDoor
open Go.RowKit Go.Lib
theorem inb_next {x y : Item} {l : List Item} {i : Nat} (h : l[i]? = some y) : inB (l.take (i + 1)) x = (inB (l.take i) x || (y.id == x.id && y.name.toList == x.name.toList)) := by
  unfold inB
  rw [List.take_add_one, h, List.any_append]; simp
theorem inb_hit {x y : Item} {l : List Item} {i : Nat} (h : l[i]? = some y) (e : (y.id == x.id && y.name.toList == x.name.toList) = true) : inB l x = true := List.any_eq_true.2 ⟨y, List.mem_of_getElem? h, e⟩
set_option maxRecDepth 100000 in
set_option maxHeartbeats 2000000 in
theorem inI_any (v : Value) (l : List Item) (x : Item) (w : World) (h : Items w v l) (hz : l.length ≤ 1000000000) :
    Calls Tryz.prog 30 #[v, .agg #[.int .i64 x.id, .string x.name]] w fun e w' => e = .returned (.bool (inB l x)) ∧ Grow w w' := by
  obtain ⟨a, c, rfl⟩ := h.mk
  have HH := Lib.hid h
  have HX := Lib.hid (heap_alloc_new w (.cells #[.int .i64 x.id, .string x.name] 50))
  clear h
  go_enter Tryz.func30, Tryz.ntmps30
  go_upto_region 1 with (fail)
  generalize hV : w.alloc (.cells #[.int .i64 x.id, .string x.name] 50) = V
  have gV : Grow w V := by rw [← hV]; exact (Grow.refl w).alloc _
  have HB : Hid (V.heap[w.heap.size]? = some (.cells #[.int .i64 x.id, .string x.name] 50 (0, 0))) := by rw [← hV]; exact HX
  have HGV := Lib.hid gV
  clear hV HX gV
  go_wp2_with fail
  go_loopw [5] (fun v5 wx => ∃ i : Nat, v5 = .int .i64 i ∧ i ≤ l.length ∧ inB (l.take i) x = false ∧ Grow V wx) (fun v5 _ => l.length - (Go.RowKit.intOf v5).toNat)
  case atStart => exact ⟨0, rfl, by omega, rfl, Grow.refl _⟩
  case round =>
    obtain ⟨i, rfl, hi, hno, hg⟩ := hrel
    have HN := Lib.hid hno
    have HG := Lib.hid hg
    have hb1 := hg.blk HB.out
    have r0 : wr.cell? ⟨w.heap.size, 0, none⟩ = some (.int .i64 x.id) := (cell_of_row wr _ 0 _ _ _ hb1).trans rfl
    have r1 : wr.cell? ⟨w.heap.size, 1, none⟩ = some (.string x.name) := (cell_of_row wr _ 1 _ _ _ hb1).trans rfl
    have rz : w.heap.size < wr.heap.size := (Array.getElem?_eq_some_iff.1 hb1).1
    clear hno hb1
    by_cases hlt : i < l.length
    · have hlt' : (i : Int) < l.length := by omega
      obtain ⟨y, hy, -⟩ := lt_get hlt
      obtain ⟨b, off, rfl, hb, q0, q1⟩ := (Items.grow HH.out (HGV.out.trans hg)).at hy
      have HY := Lib.hid hy
      clear hy hg
      cases hp : (y.id == x.id && y.name.toList == x.name.toList)
      · have hq := eqlItem y x false hp
        have HP := Lib.hid hp
        clear hp
        go_wp2
        go_quiet (fail)
        go_wp2
        go_roundw
        case rel => exact ⟨i + 1, by go_num, by omega, by rw [inb_next HY.out, HN.out, HP.out]; rfl, HG.out.drewN _⟩
        case measure => simp [Go.RowKit.intOf]; omega
      · have hq := eqlItem y x true hp
        have HP := Lib.hid (inb_hit HY.out hp)
        clear hp
        go_wp2
        go_quiet (fail)
        go_wp2
        go_ret
        exact ⟨ret_bool HP.out.symm, (HGV.out.trans HG.out).drewN _⟩
    · have hlt' : ¬ (i : Int) < l.length := by omega
      have HP := Lib.hid (show inB l x = false by have := HN.out; rw [List.take_of_length_le (by omega)] at this; exact this)
      clear hg
      go_wp2_with fail
      go_ret
      exact ⟨ret_bool HP.out.symm, HGV.out.trans HG.out⟩
end Go.Proofs.YtgpjcgcecahddaaGreatDoor
set_option linter.unusedVariables false
set_option linter.unusedSimpArgs false
namespace Go.Proofs.YtgpjcgcecahddaaGreatDoor
open Go.RowKit Go.Lib
instance : Inhabited ByteArray := ⟨⟨#[]⟩⟩
section
variable {H : Type} {enc : TypeId × Value → H} {P : Program} {w : World} {spare : Nat → Bool} {held : Bool}
theorem cells_get {a : Addr} {n : Nat} {cs : List Value} (h : w.cells? 0 a n = some cs) : cs.length = n ∧ ∀ (j : Nat) v, cs[j]? = some v → w.cell? (a.add j) = some v := by
  unfold World.cells? at h
  rw [if_pos (Nat.zero_le _)] at h
  have hl : cs.length = n := by simpa using mapM_some_length h
  refine ⟨hl, fun j v hv => ?_⟩
  obtain ⟨hj, _⟩ := List.getElem?_eq_some_iff.1 hv
  have := mapM_some_get h j j (by rw [List.getElem?_range (by omega)])
  rw [this, hv]
theorem slice_reads {α : Type} [Inhabited α] {R : World → α → List Value → Prop} {t e : TypeId} {k : Nat} (ht : P.underlying t = some (.slice e)) (hk : P.cellsOf e = k) (hk0 : 0 < k)
    (hE : ∀ n cs y, DataW.trod enc P w 0 spare held n e cs = some y → ∃ x : α, R w x cs) {fuel : Nat} {cs : List Value} {x : DataW H × List MemPlace} (h : DataW.trod enc P w 0 spare held fuel t cs = some x) :
    ∃ v l, cs = [v] ∧ Reads R k w v l ∧ l.length ≤ maxLen ∧ ∀ x ∈ l, ∃ cs', R w x cs' := by
  rcases DataW.trod_slice ht h with ⟨rfl, _⟩ | ⟨a, len, cap, elems, rest, n, _, rfl, -, -, hl, hm, hlen, hel, -⟩
  · exact ⟨_, [], rfl, Reads.nil, Nat.zero_le _, fun x hx => by cases hx⟩
  have hx : ∀ i, ∃ x : α, i < len → ∃ cs', w.cells? 0 (a.add (i * k)) k = some cs' ∧ R w x cs' := fun i => by
    by_cases hi : i < len
    · have h1 := hel i hi
      rw [hk, List.getElem?_eq_getElem (by omega)] at h1
      obtain ⟨cs', h2, h3⟩ := Option.bind_eq_some_iff.1 h1
      obtain ⟨x, hr⟩ := hE n cs' _ h3
      exact ⟨x, fun _ => ⟨cs', h2, hr⟩⟩
    · exact ⟨default, fun h => absurd h hi⟩
  obtain ⟨X, hX⟩ := Classical.axiomOfChoice hx
  refine ⟨_, (List.range len).map X, rfl, ⟨some a, cap, by simp, by simpa using hl, fun hp => ?_⟩, by simp; omega, fun x hx => ?_⟩
  rotate_left
  · obtain ⟨i, hi, rfl⟩ := List.mem_map.1 hx
    obtain ⟨cs', -, h2⟩ := hX i (List.mem_range.1 hi)
    exact ⟨cs', h2⟩
  have hp' : 0 < len := by simpa using hp
  obtain ⟨cs0, h0, -⟩ := hX 0 hp'
  obtain ⟨hl0, hc0⟩ := cells_get h0
  obtain ⟨v0, hv0⟩ : ∃ v, cs0[0]? = some v := ⟨_, List.getElem?_eq_getElem (by omega)⟩
  have g0 := hc0 0 v0 hv0
  have e0 : (a.add (0 * k)).add 0 = a := by simp [Addr.add]
  rw [e0] at g0
  have hsp := World.cell?_spot g0
  obtain ⟨b, off, spot⟩ := a
  simp only at hsp
  subst hsp
  refine ⟨b, off, rfl, World.block_lt_of_cell? w _ g0, fun i hi => ?_⟩
  have hi' : i < len := by simpa using hi
  obtain ⟨cs', h1, h2⟩ := hX i hi'
  obtain ⟨h3, h4⟩ := cells_get h1
  refine ⟨cs', h3, fun x hx => ?_, fun j v hj => ?_⟩
  · rw [List.getElem?_map, List.getElem?_range hi'] at hx
    injection hx with hx
    rw [← hx]; exact h2
  · have := h4 j v hj
    have e : ((⟨b, off, none⟩ : Addr).add (i * k)).add j = ⟨b, off + i * k + j, none⟩ := by
      unfold Addr.add; split <;> split <;> simp_all
    rwa [e] at this
theorem Reads.imp {α : Type} {R R' : World → α → List Value → Prop} {k : Nat} {v : Value} {l : List α} (hR : ∀ x cs, R w x cs → R' w x cs) (h : Reads R k w v l) : Reads R' k w v l := by
  obtain ⟨a, c, e, hc, h⟩ := h
  exact ⟨a, c, e, hc, h.imp fun i hi cs hr x hx => hR x cs (hr x hx)⟩
end
set_option maxRecDepth 100000 in
theorem wf_inv {n : Int} (h : (Lit.int .i64 n).wf = true) : Wf n := by
  unfold Lit.wf at h
  have e1 : IntKind.i64.min = -9223372036854775808 := rfl
  simp at h
  rw [e1] at h
  exact h
/-- A slice that is an argument. -/
theorem slice_arg {α : Type} [Inhabited α] {H : Type} {enc : TypeId × Value → H} {P : Program} {w : World} {spare : Nat → Bool} {held : Bool} {R : World → α → List Value → Prop} {t e : TypeId} {k : Nat} (ht : P.underlying t = some (.slice e)) (hk : P.cellsOf e = k) (hk0 : 0 < k)
    (hE : ∀ n cs y, DataW.trod enc P w 0 spare held n e cs = some y → ∃ x : α, R w x cs) {v : Value} {d : DataW H} {ps : List MemPlace} {r : Reach} {b0 : Nat} (hv : Value.okWide P w r b0 t v) (h : DataW.Trod enc P w 0 spare held t v d ps) :
    ∃ l, Reads R k w v l ∧ l.length ≤ maxLen ∧ ∀ x ∈ l, ∃ cs', R w x cs' := by
  obtain ⟨a, len, cap, rfl⟩ := Go.WideShapes.okWide_slice ht hv
  obtain ⟨fuel, hf⟩ := h
  obtain ⟨v, l, e, h1, h2, h3⟩ := slice_reads ht hk hk0 hE hf
  have e' : [Value.slice a len cap] = [v] := e
  injection e' with e'
  subst e'
  exact ⟨l, h1, h2, h3⟩
end Go.Proofs.YtgpjcgcecahddaaGreatDoor
set_option linter.unusedVariables false
set_option linter.unusedSimpArgs false
namespace Go.Proofs.YtgpjcgcecahddaaGreatDoor
open Go.RowKit Go.Lib
section
variable {H : Type} {enc : TypeId × Value → H} {w : World} {spare : Nat → Bool} {held : Bool}
theorem cI : Tryz.prog.cellsOf 3 = 1 := by kernel_rfl
theorem cS : Tryz.prog.cellsOf 9 = 1 := by kernel_rfl
theorem cBs : Tryz.prog.cellsOf 22 = 1 := by kernel_rfl
theorem cNs : Tryz.prog.cellsOf 23 = 1 := by kernel_rfl
theorem cTs : Tryz.prog.cellsOf 38 = 1 := by kernel_rfl
theorem cIs : Tryz.prog.cellsOf 52 = 1 := by kernel_rfl
theorem cB : Tryz.prog.cellsOf 60 = 2 := by kernel_rfl
theorem cN : Tryz.prog.cellsOf 54 = 5 := by kernel_rfl
theorem cH : Tryz.prog.cellsOf 25 = 5 := by kernel_rfl
set_option maxRecDepth 100000 in
theorem texts_read {fuel : Nat} {cs : List Value} {x : DataW H × List MemPlace} (h : DataW.trod enc Tryz.prog w 0 spare held fuel 38 cs = some x) : ∃ v l, cs = [v] ∧ Texts w v l ∧ l.length ≤ maxLen := by
  obtain ⟨v, l, h1, h2, h3, -⟩ := slice_reads (R := TextR) Tryz.underlying38 cS (by decide) (fun n cs y hy => by
    obtain ⟨s, rfl, -, -⟩ := DataW.trod_string Tryz.underlying9 hy
    exact ⟨s, rfl⟩) h
  exact ⟨v, l, h1, h2, h3⟩
set_option maxRecDepth 100000 in
theorem ints_read {fuel : Nat} {cs : List Value} {x : DataW H × List MemPlace} (h : DataW.trod enc Tryz.prog w 0 spare held fuel 52 cs = some x) : ∃ v l, cs = [v] ∧ Ints w v l ∧ l.length ≤ maxLen ∧ ∀ y ∈ l, Wf y := by
  obtain ⟨v, l, h1, h2, h3, h4⟩ := slice_reads (R := fun w x cs => IntR w x cs ∧ Wf x) Tryz.underlying52 cI (by decide) (fun n cs y hy => by
    obtain ⟨s, rfl, -, hw⟩ := DataW.trod_int Tryz.underlying3 hy
    exact ⟨s, rfl, wf_inv hw⟩) h
  exact ⟨v, l, h1, h2.imp (fun x cs h => h.1), h3, fun y hy => by obtain ⟨_, _, h⟩ := h4 y hy; exact h⟩
set_option maxRecDepth 100000 in
theorem book_read {fuel : Nat} {cs : List Value} {x : DataW H × List MemPlace} (h : DataW.trod enc Tryz.prog w 0 spare held fuel 60 cs = some x) : ∃ b : Book, BookR w b cs := by
  obtain ⟨xs, m, -, -, hl, hlen, hf⟩ := DataW.trod_struct Tryz.underlying60 h
  rw [cB] at hl
  match cs, hl with
  | [u0, u1], _ =>
    have h0 := hf 0 _ rfl
    have h1 := hf 1 _ rfl
    change DataW.trod enc Tryz.prog w 0 spare held m 3 (([u0, u1].drop 0).take (Tryz.prog.cellsOf 3)) = _ at h0
    change DataW.trod enc Tryz.prog w 0 spare held m 9 (([u0, u1].drop 1).take (Tryz.prog.cellsOf 9)) = _ at h1
    rw [cI, List.getElem?_eq_getElem (by rw [hlen]; decide)] at h0
    rw [cS, List.getElem?_eq_getElem (by rw [hlen]; decide)] at h1
    obtain ⟨n, e0, -, -⟩ := DataW.trod_int Tryz.underlying3 h0
    obtain ⟨s, e1, -, -⟩ := DataW.trod_string Tryz.underlying9 h1
    refine ⟨⟨n, s⟩, ?_⟩
    have e0' : [u0] = [Value.int .i64 n] := e0
    have e1' : [u1] = [Value.string s] := e1
    unfold BookR
    injection e0' with e0'
    injection e1' with e1'
    rw [e0', e1']
def NoteG (w : World) (x : Note) (cs : List Value) : Prop := NoteR w x cs ∧ x.tags.length ≤ maxLen ∧ ∀ y ∈ x.sheets, Wf y
set_option maxRecDepth 100000 in
theorem note_read {fuel : Nat} {cs : List Value} {x : DataW H × List MemPlace} (h : DataW.trod enc Tryz.prog w 0 spare held fuel 54 cs = some x) : ∃ b : Note, NoteG w b cs := by
  obtain ⟨xs, m, -, -, hl, hlen, hf⟩ := DataW.trod_struct Tryz.underlying54 h
  rw [cN] at hl
  match cs, hl with
  | [u0, u1, u2, u3, u4], _ =>
    have h0 := hf 0 _ rfl
    have h1 := hf 1 _ rfl
    have h2 := hf 2 _ rfl
    have h3 := hf 3 _ rfl
    have h4 := hf 4 _ rfl
    change DataW.trod enc Tryz.prog w 0 spare held m 3 (([u0, u1, u2, u3, u4].drop 0).take (Tryz.prog.cellsOf 3)) = _ at h0
    change DataW.trod enc Tryz.prog w 0 spare held m 3 (([u0, u1, u2, u3, u4].drop 1).take (Tryz.prog.cellsOf 3)) = _ at h1
    change DataW.trod enc Tryz.prog w 0 spare held m 9 (([u0, u1, u2, u3, u4].drop 2).take (Tryz.prog.cellsOf 9)) = _ at h2
    change DataW.trod enc Tryz.prog w 0 spare held m 38 (([u0, u1, u2, u3, u4].drop 3).take (Tryz.prog.cellsOf 38)) = _ at h3
    change DataW.trod enc Tryz.prog w 0 spare held m 52 (([u0, u1, u2, u3, u4].drop 4).take (Tryz.prog.cellsOf 52)) = _ at h4
    rw [cI, List.getElem?_eq_getElem (by rw [hlen]; decide)] at h0 h1
    rw [cS, List.getElem?_eq_getElem (by rw [hlen]; decide)] at h2
    rw [cTs, List.getElem?_eq_getElem (by rw [hlen]; decide)] at h3
    rw [cIs, List.getElem?_eq_getElem (by rw [hlen]; decide)] at h4
    obtain ⟨n, e0, -, -⟩ := DataW.trod_int Tryz.underlying3 h0
    obtain ⟨k, e1, -, -⟩ := DataW.trod_int Tryz.underlying3 h1
    obtain ⟨s, e2, -, -⟩ := DataW.trod_string Tryz.underlying9 h2
    obtain ⟨tv, tl, e3, ht, htl⟩ := texts_read h3
    obtain ⟨sv, sl, e4, hs, hsl, hw⟩ := ints_read h4
    have e0' : [u0] = [Value.int .i64 n] := e0
    have e1' : [u1] = [Value.int .i64 k] := e1
    have e2' : [u2] = [Value.string s] := e2
    have e3' : [u3] = [tv] := e3
    have e4' : [u4] = [sv] := e4
    injection e0' with e0'
    injection e1' with e1'
    injection e2' with e2'
    injection e3' with e3'
    injection e4' with e4'
    subst e0' e1' e2' e3' e4'
    exact ⟨⟨n, k, s, tl, sl⟩, ⟨_, _, rfl, ht, hs⟩, htl, hw⟩
set_option maxRecDepth 100000 in
/-- What an argument that is a shelf gives. -/
theorem shelf_read {fuel : Nat} {v : Value} {x : DataW H × List MemPlace} (hv : ∃ cs, v = .agg cs) (h : DataW.trod enc Tryz.prog w 0 spare held fuel 25 v.cells.toList = some x) :
    ∃ (s : Shelf) (bv nv : Value), v = shelfV s bv nv ∧ ShelfR w s bv nv ∧ s.books.length ≤ maxLen ∧ s.notes.length ≤ maxLen ∧ (∀ n ∈ s.notes, n.tags.length ≤ maxLen) ∧ (∀ n ∈ s.notes, ∀ y ∈ n.sheets, Wf y) ∧ Wf s.nb ∧ Wf s.nn ∧ Wf s.ns := by
  obtain ⟨cs, rfl⟩ := hv
  obtain ⟨xs, m, -, -, hl, hlen, hf⟩ := DataW.trod_struct Tryz.underlying25 h
  rw [cH] at hl
  have hcs : (Value.agg cs).cells.toList = cs.toList := rfl
  rw [hcs] at hl hf
  obtain ⟨cs⟩ := cs
  match cs, hl with
  | [u0, u1, u2, u3, u4], _ =>
    have h0 := hf 0 _ rfl
    have h1 := hf 1 _ rfl
    have h2 := hf 2 _ rfl
    have h3 := hf 3 _ rfl
    have h4 := hf 4 _ rfl
    change DataW.trod enc Tryz.prog w 0 spare held m 3 (([u0, u1, u2, u3, u4].drop 0).take (Tryz.prog.cellsOf 3)) = _ at h0
    change DataW.trod enc Tryz.prog w 0 spare held m 3 (([u0, u1, u2, u3, u4].drop 1).take (Tryz.prog.cellsOf 3)) = _ at h1
    change DataW.trod enc Tryz.prog w 0 spare held m 3 (([u0, u1, u2, u3, u4].drop 2).take (Tryz.prog.cellsOf 3)) = _ at h2
    change DataW.trod enc Tryz.prog w 0 spare held m 22 (([u0, u1, u2, u3, u4].drop 3).take (Tryz.prog.cellsOf 22)) = _ at h3
    change DataW.trod enc Tryz.prog w 0 spare held m 23 (([u0, u1, u2, u3, u4].drop 4).take (Tryz.prog.cellsOf 23)) = _ at h4
    rw [cI, List.getElem?_eq_getElem (by rw [hlen]; decide)] at h0 h1 h2
    rw [cBs, List.getElem?_eq_getElem (by rw [hlen]; decide)] at h3
    rw [cNs, List.getElem?_eq_getElem (by rw [hlen]; decide)] at h4
    obtain ⟨n, e0, -, w0⟩ := DataW.trod_int Tryz.underlying3 h0
    obtain ⟨k, e1, -, w1⟩ := DataW.trod_int Tryz.underlying3 h1
    obtain ⟨q, e2, -, w2⟩ := DataW.trod_int Tryz.underlying3 h2
    obtain ⟨bv, bl, e3, hb, hbl, -⟩ := slice_reads (R := BookR) Tryz.underlying22 cB (by decide) (fun _ _ _ hy => book_read hy) h3
    obtain ⟨nv, nl, e4, hn, hnl, hng⟩ := slice_reads (R := NoteG) Tryz.underlying23 cN (by decide) (fun _ _ _ hy => note_read hy) h4
    have e0' : [u0] = [Value.int .i64 n] := e0
    have e1' : [u1] = [Value.int .i64 k] := e1
    have e2' : [u2] = [Value.int .i64 q] := e2
    have e3' : [u3] = [bv] := e3
    have e4' : [u4] = [nv] := e4
    injection e0' with e0'
    injection e1' with e1'
    injection e2' with e2'
    injection e3' with e3'
    injection e4' with e4'
    subst e0' e1' e2' e3' e4'
    exact ⟨⟨n, k, q, bl, nl⟩, _, _, rfl, ⟨hb, hn.imp (fun x cs h => h.1)⟩, hbl, hnl, fun x hx => by obtain ⟨_, _, h, _⟩ := hng x hx; exact h, fun x hx => by obtain ⟨_, _, _, h⟩ := hng x hx; exact h, wf_inv w0, wf_inv w1, wf_inv w2⟩
/-- A shelf that is an argument. -/
structure ShelfArg (w : World) (s : Shelf) (bv nv : Value) : Prop where
  rows : ShelfR w s bv nv
  ints : ∀ n ∈ s.notes, ∀ y ∈ n.sheets, Wf y
  tags : ∀ n ∈ s.notes, n.tags.length ≤ 9223372036854775807
  nums : Wf s.nb ∧ Wf s.nn ∧ Wf s.ns
set_option maxRecDepth 100000 in
theorem shelf_arg {v : Value} {d : DataW H} {ps : List MemPlace} {r : Reach} {b0 : Nat} (hv : Value.okWide Tryz.prog w r b0 25 v) (h : DataW.Trod enc Tryz.prog w 0 spare held 25 v d ps) :
    ∃ (s : Shelf) (bv nv : Value), v = shelfV s bv nv ∧ ShelfArg w s bv nv := by
  obtain ⟨cs, e, -⟩ := Go.WideShapes.okWide_struct Tryz.underlying25 hv
  obtain ⟨fuel, hf⟩ := h
  obtain ⟨s, bv, nv, h1, h2, -, -, h5, h6, h7, h8, h9⟩ := shelf_read ⟨cs, e⟩ hf
  exact ⟨s, bv, nv, h1, h2, h6, fun n hn => Nat.le_trans (h5 n hn) (by decide), h7, h8, h9⟩
end
end Go.Proofs.YtgpjcgcecahddaaGreatDoor
