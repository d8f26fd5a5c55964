/- slices.DeleteFunc, at books, notes and texts: rows of the call's own, turned where they stand. -/
import Derived.Test.YtnajccljdjllgaaDoorDelG
set_option linter.unusedVariables false
set_option linter.unusedSimpArgs false
namespace Go.Proofs.YtnajccljdjllgaaDoor
open Go.RowKit Go.Lib
set_option maxRecDepth 100000 in
set_option maxHeartbeats 4000000 in
theorem delBooks (base : Nat) (v : Value) (X : List Book) (g : Nat) (lb : Array Value) (p : Book → Bool) (w : World) (h : RowO base 37 2 v X.length (X.flatMap bookC) w) (hz : X.length ≤ 1000000) (hb0 : base ≤ w.heap.size) (eg : ∀ args w, (callFunc g args).run Tryd.prog w = .ok (.enter g args) w)
    (hp : ∀ W x, Kept 37 w W → w.heap.size ≤ W.heap.size → x ∈ X → Calls Tryd.prog g (#[.agg #[.int .i64 x.id, .string x.name]] ++ lb) W fun e w' => e = .returned (.bool (p x)) ∧ Grow W w')
    (hix : Calls Tryd.prog 81 #[v, .func (.func g) #[] lb] w fun e w' => e = .returned (.int .i64 (idx p X)) ∧ Grow w w') :
    Calls Tryd.prog 69 #[v, .func (.func g) #[] lb] w fun e w' => ∃ v', e = .returned v' ∧ RowO base 37 2 v' (X.filter fun x => !p x).length ((X.filter fun x => !p x).flatMap bookC) w' ∧ w.grownBy w' (blkOf v) ∧ blkOf v' = blkOf v := by
  obtain ⟨a, c, rfl, hc⟩ := h.slice
  have HH := Lib.hid h
  have HP := Lib.hid hp
  have hbd := idx_bd p X
  clear hp
  by_cases hneg : idx p X < 0
  · have HF := Lib.hid (filter_all hneg)
    have e1 : idx p X = -1 := by omega
    rw [e1] at hix
    clear h hneg e1 hbd
    go_enter Tryd.func69, Tryd.ntmps69
    go_wp2_with fail
    refine hix.mono ?_
    rintro e w1 ⟨rfl, g1⟩
    go_wp2_with fail
    go_ret
    exact ⟨_, rfl, by rw [HF.out]; exact HH.out.grow g1, ⟨g1.os, g1.tape, g1.output, g1.size, fun k hk _ => g1.block k hk⟩, rfl⟩
  · obtain ⟨i0, hi0⟩ : ∃ i0 : Nat, idx p X = i0 := ⟨(idx p X).toNat, by omega⟩
    have HM0 := Lib.hid (Mid.start hi0)
    obtain ⟨x0, hx0, -⟩ := idx_get hi0 (by omega)
    have hi0l : i0 < X.length := by have := (List.getElem?_eq_some_iff.1 hx0).1; simpa using this
    obtain ⟨b, cc, hbc⟩ : ∃ b cc, (Value.slice a X.length c) = .slice (some ⟨b, 0, none⟩) X.length (cc + 1) := by
      obtain ⟨x, hx, -⟩ := lt_get hi0l
      obtain ⟨u, hu⟩ : ∃ u, (X.flatMap bookC)[i0 * 2 + 0]? = some u := ⟨_, (flat_get bookC (fun _ => rfl) X i0 0 x hx (by decide)).trans rfl⟩
      obtain ⟨b, c', e, -⟩ := h.cell hu
      injection e with e1 e2 e3
      cases c with
      | zero => omega
      | succ c => exact ⟨b, c, by rw [e1]⟩
    injection hbc with e1 e2 e3
    subst e1 e3
    rw [hi0] at hix
    clear h hneg hbd hi0 hx0
    have HB := Lib.hid (HH.out.blk (g := b) rfl)
    have hi00 : ((i0 : Int) == -1) = false := by rw [beq_eq_false_iff_ne]; omega
    go_enter Tryd.func69, Tryd.ntmps69
    go_wp2_with fail
    refine hix.mono ?_
    rintro e w1 ⟨rfl, g1⟩
    have HG1 := Lib.hid g1
    clear hix g1
    go_wp2_with fail
    go_loopw [5, 6] (fun v5 v6 wx => ∃ (i j : Nat) (l' : List Book), v5 = .int .i64 i ∧ v6 = .int .i64 j ∧ Mid (fun x => !p x) X l' i j ∧ i < j ∧ RowO base 37 2 (.slice (some ⟨b, 0, none⟩) X.length (cc + 1)) X.length (l'.flatMap bookC) wx ∧ Turned b w wx) (fun _ v6 _ => X.length - (Go.RowKit.intOf v6).toNat)
    case atStart => exact ⟨i0, i0 + 1, X, rfl, by go_num, HM0.out, by omega, HH.out.grow HG1.out, Turned.of_grow HG1.out⟩
    case round =>
      obtain ⟨i, j, l', rfl, rfl, hm, hij, hr, ht⟩ := hrel
      have HM := Lib.hid hm
      have HR := Lib.hid hr
      have HT := Lib.hid ht
      have hjl := hm.jl
      have hll := hm.len
      by_cases hlt : j < X.length
      · have hlt' : (j : Int) < X.length := by omega
        obtain ⟨x, hx, -⟩ := lt_get hlt
        have hx' := hm.get hx
        have q0 : wr.cell? ⟨b, j * 2, none⟩ = some (.int .i64 x.id) := (row_cells bookC (fun _ => rfl) hr hx' 0 _ rfl).1
        have q1 : wr.cell? ⟨b, j * 2 + 1, none⟩ = some (.string x.name) := (row_cells bookC (fun _ => rfl) hr hx' 1 _ rfl).1
        have hbw := (row_cells bookC (fun _ => rfl) hr hx' 0 _ rfl).2.2
        have hkp : Kept 37 w wr := by
          obtain ⟨cur, hcur⟩ := HB.out.2
          exact kept_of_turned hcur ht
        have cP := HP.out (wr.alloc (.cells #[.int .i64 x.id, .string x.name] 37)) x (hkp.alloc _) (by simp; have := ht.size; omega) (List.mem_of_getElem? hx)
        have HX := Lib.hid hx
        obtain ⟨y, hy, -⟩ := lt_get (l := l') (i := i) (by omega)
        have HY := Lib.hid hy
        clear hm hr ht hx hx' hkp hy
        cases hpx : p x
        · rw [hpx] at cP
          have HPX := Lib.hid (show (fun x => !p x) x = true by simp [hpx])
          clear hpx
          go_wp2_with fail
          refine cP.mono ?_
          rintro e w2 ⟨rfl, g2⟩
          have hbx := g2.blk (heap_alloc_new wr (.cells #[.int .i64 x.id, .string x.name] 37))
          replace g2 := ((Grow.refl wr).alloc _).trans g2
          have x0 : w2.cell? ⟨wr.heap.size, 0, none⟩ = some (.int .i64 x.id) := cell_of_row w2 _ 0 _ _ _ hbx
          have x1 : w2.cell? ⟨wr.heap.size, 1, none⟩ = some (.string x.name) := cell_of_row w2 _ 1 _ _ _ hbx
          have hbz : wr.heap.size < w2.heap.size := (Array.getElem?_eq_some_iff.1 hbx).1
          clear hbx
          have HR2 := Lib.hid (HR.out.grow g2)
          have hbw2 : b < w2.heap.size := Nat.lt_of_lt_of_le hbw g2.size
          have s0 : w2.cell? ⟨b, i * 2, none⟩ = some (.int .i64 y.id) := (row_cells bookC (fun _ => rfl) HR2.out HY.out 0 _ rfl).1
          have f0 : w2.frozen? ⟨b, i * 2, none⟩ = false := (row_cells bookC (fun _ => rfl) HR2.out HY.out 0 _ rfl).2.1
          have s1 : w2.cell? ⟨b, i * 2 + 1, none⟩ = some (.string y.name) := (row_cells bookC (fun _ => rfl) HR2.out HY.out 1 _ rfl).1
          have f1 : w2.frozen? ⟨b, i * 2 + 1, none⟩ = false := (row_cells bookC (fun _ => rfl) HR2.out HY.out 1 _ rfl).2.1
          have HPT := Lib.hid (put_row bookC (fun _ => rfl) (by decide) HR2.out (by omega) (show i < X.length by omega) x)
          have HT2 := Lib.hid (HT.out.trans (Turned.of_grow g2))
          clear cP g2
          go_wp2_with fail
          go_roundw
          case rel => exact ⟨i + 1, j + 1, l'.set i x, by go_num, by go_num, HM.out.keep HX.out HPX.out, by omega, HPT.out.1, HT2.out.trans HPT.out.2⟩
          case measure => simp [Go.RowKit.intOf]; omega
        · rw [hpx] at cP
          have HPX := Lib.hid (show (fun x => !p x) x = false by simp [hpx])
          clear hpx
          go_wp2_with fail
          refine cP.mono ?_
          rintro e w2 ⟨rfl, g2⟩
          replace g2 := ((Grow.refl wr).alloc _).trans g2
          have HR2 := Lib.hid (HR.out.grow g2)
          have HT2 := Lib.hid (HT.out.trans (Turned.of_grow g2))
          clear cP g2
          go_wp2_with fail
          go_roundw
          case rel => exact ⟨i, j + 1, l', rfl, by go_num, HM.out.skip HX.out HPX.out, by omega, HR2.out, HT2.out⟩
          case measure => simp [Go.RowKit.intOf]; omega
      · have hlt' : ¬ (j : Int) < X.length := by omega
        obtain rfl : j = X.length := by omega
        obtain ⟨-, cur, hcur⟩ := hr.blk (g := b) rfl
        have hsz : cur.size = (cc + 1) * 2 ∧ X.length ≤ cc + 1 := by
          rcases hr with ⟨-, ⟨h2, -⟩ | ⟨g, cap, cur2, e2, h3, h4, h5, h6, h7, h8⟩⟩ | ⟨-, -, a, e2⟩
          · cases h2
          · injection e2 with e2 e3 e4
            injection e2 with e2
            injection e2 with e2
            subst e2 e4
            rw [hcur] at h4
            injection h4 with h4
            injection h4 with h4
            subst h4
            exact ⟨h7, h5⟩
          · injection e2 with _ _ e2
            omega
        obtain ⟨wz, cs', hcl, hbz, hsz', hkz, htz⟩ := run_clear (P := Tryd.prog) (t := 25) (k := 2) Tryd.underlying25 (z := .agg #[.int .i64 0, .string ⟨#[]⟩]) (fun _ => by kernel_rfl) rfl (by decide) (by decide) wr (b := b) (o := i * 2) (n := X.length - i) (cc + 1 - i) (by omega) hcur (by rw [hsz.1, ← Nat.add_mul]; exact Nat.mul_le_mul_right _ (by omega))
        have HRZ := Lib.hid (hr.cut hcur hbz hsz' (by omega) hkz)
        have HDN := Lib.hid hm.done
        have HTZ := Lib.hid (ht.trans htz)
        have hi1 : (i : Int) ≤ X.length := by omega
        have hi2 : (i : Int) ≤ ((cc : Int) + 1) := by omega
        have hsz2 := hsz.2
        clear hr ht hm hcur hsz hbz hsz' hkz htz
        go_wp2_with fail
        go_ret
        refine ⟨_, rfl, ?_, ⟨HTZ.out.os, HTZ.out.tape, HTZ.out.output, HTZ.out.size, fun k hk hne => HTZ.out.block k hk fun e => hne (by rw [e]; rfl)⟩, rfl⟩
        have := HRZ.out
        rw [flat_take bookC (fun _ => rfl), HDN.out] at this
        have hl2 : (X.filter fun x => !p x).length = i := by rw [← HDN.out, List.length_take]; omega
        rw [hl2]
        exact this
set_option maxRecDepth 100000 in
set_option maxHeartbeats 4000000 in
theorem delNotes (base : Nat) (v : Value) (X : List NV) (g : Nat) (lb : Array Value) (p : NV → Bool) (w : World) (h : RowO base 41 5 v X.length (X.flatMap noteC) w) (hz : X.length ≤ 1000000) (hb0 : base ≤ w.heap.size) (eg : ∀ args w, (callFunc g args).run Tryd.prog w = .ok (.enter g args) w)
    (hsl : ∀ x ∈ X, ∃ ta tn tc sa sn sc, x.tv = .slice ta tn tc ∧ x.sv = .slice sa sn sc)
    (hp : ∀ W x, Kept 41 w W → w.heap.size ≤ W.heap.size → x ∈ X → Calls Tryd.prog g (#[.agg #[.int .i64 x.n.id, .int .i64 x.n.book, .string x.n.name, x.tv, x.sv]] ++ lb) W fun e w' => e = .returned (.bool (p x)) ∧ Grow W w')
    (hix : Calls Tryd.prog 104 #[v, .func (.func g) #[] lb] w fun e w' => e = .returned (.int .i64 (idx p X)) ∧ Grow w w') :
    Calls Tryd.prog 71 #[v, .func (.func g) #[] lb] w fun e w' => ∃ v', e = .returned v' ∧ RowO base 41 5 v' (X.filter fun x => !p x).length ((X.filter fun x => !p x).flatMap noteC) w' ∧ w.grownBy w' (blkOf v) ∧ blkOf v' = blkOf v := by
  obtain ⟨a, c, rfl, hc⟩ := h.slice
  have HH := Lib.hid h
  have HP := Lib.hid hp
  have hbd := idx_bd p X
  clear hp
  by_cases hneg : idx p X < 0
  · have HF := Lib.hid (filter_all hneg)
    have e1 : idx p X = -1 := by omega
    rw [e1] at hix
    clear h hneg e1 hbd
    go_enter Tryd.func71, Tryd.ntmps71
    go_wp2_with fail
    refine hix.mono ?_
    rintro e w1 ⟨rfl, g1⟩
    go_wp2_with fail
    go_ret
    exact ⟨_, rfl, by rw [HF.out]; exact HH.out.grow g1, ⟨g1.os, g1.tape, g1.output, g1.size, fun k hk _ => g1.block k hk⟩, rfl⟩
  · obtain ⟨i0, hi0⟩ : ∃ i0 : Nat, idx p X = i0 := ⟨(idx p X).toNat, by omega⟩
    have HM0 := Lib.hid (Mid.start hi0)
    obtain ⟨x0, hx0, -⟩ := idx_get hi0 (by omega)
    have hi0l : i0 < X.length := by have := (List.getElem?_eq_some_iff.1 hx0).1; simpa using this
    obtain ⟨b, cc, hbc⟩ : ∃ b cc, (Value.slice a X.length c) = .slice (some ⟨b, 0, none⟩) X.length (cc + 1) := by
      obtain ⟨x, hx, -⟩ := lt_get hi0l
      obtain ⟨u, hu⟩ : ∃ u, (X.flatMap noteC)[i0 * 5 + 0]? = some u := ⟨_, (flat_get noteC (fun _ => rfl) X i0 0 x hx (by decide)).trans rfl⟩
      obtain ⟨b, c', e, -⟩ := h.cell hu
      injection e with e1 e2 e3
      cases c with
      | zero => omega
      | succ c => exact ⟨b, c, by rw [e1]⟩
    injection hbc with e1 e2 e3
    subst e1 e3
    rw [hi0] at hix
    clear h hneg hbd hi0 hx0
    have HB := Lib.hid (HH.out.blk (g := b) rfl)
    have hi00 : ((i0 : Int) == -1) = false := by rw [beq_eq_false_iff_ne]; omega
    go_enter Tryd.func71, Tryd.ntmps71
    go_wp2_with fail
    refine hix.mono ?_
    rintro e w1 ⟨rfl, g1⟩
    have HG1 := Lib.hid g1
    clear hix g1
    go_wp2_with fail
    go_loopw [5, 6] (fun v5 v6 wx => ∃ (i j : Nat) (l' : List NV), v5 = .int .i64 i ∧ v6 = .int .i64 j ∧ Mid (fun x => !p x) X l' i j ∧ i < j ∧ RowO base 41 5 (.slice (some ⟨b, 0, none⟩) X.length (cc + 1)) X.length (l'.flatMap noteC) wx ∧ Turned b w wx) (fun _ v6 _ => X.length - (Go.RowKit.intOf v6).toNat)
    case atStart => exact ⟨i0, i0 + 1, X, rfl, by go_num, HM0.out, by omega, HH.out.grow HG1.out, Turned.of_grow HG1.out⟩
    case round =>
      obtain ⟨i, j, l', rfl, rfl, hm, hij, hr, ht⟩ := hrel
      have HM := Lib.hid hm
      have HR := Lib.hid hr
      have HT := Lib.hid ht
      have hjl := hm.jl
      have hll := hm.len
      by_cases hlt : j < X.length
      · have hlt' : (j : Int) < X.length := by omega
        obtain ⟨x, hx, -⟩ := lt_get hlt
        have hx' := hm.get hx
        obtain ⟨ta, tn, tc, sa, sn, sc, etv, esv⟩ := hsl x (List.mem_of_getElem? hx)
        have q0 : wr.cell? ⟨b, j * 5, none⟩ = some (.int .i64 x.n.id) := (row_cells noteC (fun _ => rfl) hr hx' 0 _ rfl).1
        have q1 : wr.cell? ⟨b, j * 5 + 1, none⟩ = some (.int .i64 x.n.book) := (row_cells noteC (fun _ => rfl) hr hx' 1 _ rfl).1
        have q2 : wr.cell? ⟨b, j * 5 + 2, none⟩ = some (.string x.n.name) := (row_cells noteC (fun _ => rfl) hr hx' 2 _ rfl).1
        have q3 : wr.cell? ⟨b, j * 5 + 3, none⟩ = some (.slice ta tn tc) := etv ▸ (row_cells noteC (fun _ => rfl) hr hx' 3 _ rfl).1
        have q4 : wr.cell? ⟨b, j * 5 + 4, none⟩ = some (.slice sa sn sc) := esv ▸ (row_cells noteC (fun _ => rfl) hr hx' 4 _ rfl).1
        have hbw := (row_cells noteC (fun _ => rfl) hr hx' 0 _ rfl).2.2
        have hkp : Kept 41 w wr := by
          obtain ⟨cur, hcur⟩ := HB.out.2
          exact kept_of_turned hcur ht
        have cP := HP.out (wr.alloc (.cells #[.int .i64 x.n.id, .int .i64 x.n.book, .string x.n.name, .slice ta tn tc, .slice sa sn sc] 41)) x (hkp.alloc _) (by simp; have := ht.size; omega) (List.mem_of_getElem? hx)
        have HX := Lib.hid hx
        obtain ⟨y, hy, -⟩ := lt_get (l := l') (i := i) (by omega)
        have HY := Lib.hid hy
        rw [etv, esv] at cP
        clear hm hr ht hx hx' hkp hy
        cases hpx : p x
        · rw [hpx] at cP
          have HPX := Lib.hid (show (fun x => !p x) x = true by simp [hpx])
          clear hpx
          go_wp2_with fail
          refine cP.mono ?_
          rintro e w2 ⟨rfl, g2⟩
          have hbx := g2.blk (heap_alloc_new wr (.cells #[.int .i64 x.n.id, .int .i64 x.n.book, .string x.n.name, .slice ta tn tc, .slice sa sn sc] 41))
          replace g2 := ((Grow.refl wr).alloc _).trans g2
          have x0 : w2.cell? ⟨wr.heap.size, 0, none⟩ = some (.int .i64 x.n.id) := cell_of_row w2 _ 0 _ _ _ hbx
          have x1 : w2.cell? ⟨wr.heap.size, 1, none⟩ = some (.int .i64 x.n.book) := cell_of_row w2 _ 1 _ _ _ hbx
          have x2 : w2.cell? ⟨wr.heap.size, 2, none⟩ = some (.string x.n.name) := cell_of_row w2 _ 2 _ _ _ hbx
          have x3 : w2.cell? ⟨wr.heap.size, 3, none⟩ = some (.slice ta tn tc) := cell_of_row w2 _ 3 _ _ _ hbx
          have x4 : w2.cell? ⟨wr.heap.size, 4, none⟩ = some (.slice sa sn sc) := cell_of_row w2 _ 4 _ _ _ hbx
          have hbz : wr.heap.size < w2.heap.size := (Array.getElem?_eq_some_iff.1 hbx).1
          clear hbx
          have HR2 := Lib.hid (HR.out.grow g2)
          have hbw2 : b < w2.heap.size := Nat.lt_of_lt_of_le hbw g2.size
          have s0 : w2.cell? ⟨b, i * 5, none⟩ = some (.int .i64 y.n.id) := (row_cells noteC (fun _ => rfl) HR2.out HY.out 0 _ rfl).1
          have f0 : w2.frozen? ⟨b, i * 5, none⟩ = false := (row_cells noteC (fun _ => rfl) HR2.out HY.out 0 _ rfl).2.1
          have s1 : w2.cell? ⟨b, i * 5 + 1, none⟩ = some (.int .i64 y.n.book) := (row_cells noteC (fun _ => rfl) HR2.out HY.out 1 _ rfl).1
          have f1 : w2.frozen? ⟨b, i * 5 + 1, none⟩ = false := (row_cells noteC (fun _ => rfl) HR2.out HY.out 1 _ rfl).2.1
          have s2 : w2.cell? ⟨b, i * 5 + 2, none⟩ = some (.string y.n.name) := (row_cells noteC (fun _ => rfl) HR2.out HY.out 2 _ rfl).1
          have f2 : w2.frozen? ⟨b, i * 5 + 2, none⟩ = false := (row_cells noteC (fun _ => rfl) HR2.out HY.out 2 _ rfl).2.1
          have s3 : w2.cell? ⟨b, i * 5 + 3, none⟩ = some (y.tv) := (row_cells noteC (fun _ => rfl) HR2.out HY.out 3 _ rfl).1
          have f3 : w2.frozen? ⟨b, i * 5 + 3, none⟩ = false := (row_cells noteC (fun _ => rfl) HR2.out HY.out 3 _ rfl).2.1
          have s4 : w2.cell? ⟨b, i * 5 + 4, none⟩ = some (y.sv) := (row_cells noteC (fun _ => rfl) HR2.out HY.out 4 _ rfl).1
          have f4 : w2.frozen? ⟨b, i * 5 + 4, none⟩ = false := (row_cells noteC (fun _ => rfl) HR2.out HY.out 4 _ rfl).2.1
          have HPT := Lib.hid (put_row noteC (fun _ => rfl) (by decide) HR2.out (by omega) (show i < X.length by omega) x)
          have HT2 := Lib.hid (HT.out.trans (Turned.of_grow g2))
          clear cP g2
          go_wp2_with fail
          go_roundw
          case rel => exact ⟨i + 1, j + 1, l'.set i x, by go_num, by go_num, HM.out.keep HX.out HPX.out, by omega, by have := HPT.out.1; unfold noteC at this; rw [etv, esv] at this; exact this, by have := HT2.out.trans HPT.out.2; unfold noteC at this; rw [etv, esv] at this; exact this⟩
          case measure => simp [Go.RowKit.intOf]; omega
        · rw [hpx] at cP
          have HPX := Lib.hid (show (fun x => !p x) x = false by simp [hpx])
          clear hpx
          go_wp2_with fail
          refine cP.mono ?_
          rintro e w2 ⟨rfl, g2⟩
          replace g2 := ((Grow.refl wr).alloc _).trans g2
          have HR2 := Lib.hid (HR.out.grow g2)
          have HT2 := Lib.hid (HT.out.trans (Turned.of_grow g2))
          clear cP g2
          go_wp2_with fail
          go_roundw
          case rel => exact ⟨i, j + 1, l', rfl, by go_num, HM.out.skip HX.out HPX.out, by omega, HR2.out, HT2.out⟩
          case measure => simp [Go.RowKit.intOf]; omega
      · have hlt' : ¬ (j : Int) < X.length := by omega
        obtain rfl : j = X.length := by omega
        obtain ⟨-, cur, hcur⟩ := hr.blk (g := b) rfl
        have hsz : cur.size = (cc + 1) * 5 ∧ X.length ≤ cc + 1 := by
          rcases hr with ⟨-, ⟨h2, -⟩ | ⟨g, cap, cur2, e2, h3, h4, h5, h6, h7, h8⟩⟩ | ⟨-, -, a, e2⟩
          · cases h2
          · injection e2 with e2 e3 e4
            injection e2 with e2
            injection e2 with e2
            subst e2 e4
            rw [hcur] at h4
            injection h4 with h4
            injection h4 with h4
            subst h4
            exact ⟨h7, h5⟩
          · injection e2 with _ _ e2
            omega
        obtain ⟨wz, cs', hcl, hbz, hsz', hkz, htz⟩ := run_clear (P := Tryd.prog) (t := 26) (k := 5) Tryd.underlying26 (z := .agg #[.int .i64 0, .int .i64 0, .string ⟨#[]⟩, .slice none 0 0, .slice none 0 0]) (fun _ => by kernel_rfl) rfl (by decide) (by decide) wr (b := b) (o := i * 5) (n := X.length - i) (cc + 1 - i) (by omega) hcur (by rw [hsz.1, ← Nat.add_mul]; exact Nat.mul_le_mul_right _ (by omega))
        have HRZ := Lib.hid (hr.cut hcur hbz hsz' (by omega) hkz)
        have HDN := Lib.hid hm.done
        have HTZ := Lib.hid (ht.trans htz)
        have hi1 : (i : Int) ≤ X.length := by omega
        have hi2 : (i : Int) ≤ ((cc : Int) + 1) := by omega
        have hsz2 := hsz.2
        clear hr ht hm hcur hsz hbz hsz' hkz htz
        go_wp2_with fail
        go_ret
        refine ⟨_, rfl, ?_, ⟨HTZ.out.os, HTZ.out.tape, HTZ.out.output, HTZ.out.size, fun k hk hne => HTZ.out.block k hk fun e => hne (by rw [e]; rfl)⟩, rfl⟩
        have := HRZ.out
        rw [flat_take noteC (fun _ => rfl), HDN.out] at this
        have hl2 : (X.filter fun x => !p x).length = i := by rw [← HDN.out, List.length_take]; omega
        rw [hl2]
        exact this
set_option maxRecDepth 100000 in
set_option maxHeartbeats 4000000 in
theorem delTexts (base : Nat) (v : Value) (X : List ByteArray) (g : Nat) (lb : Array Value) (p : ByteArray → Bool) (w : World) (h : RowO base 9 1 v X.length (X.flatMap (fun t : ByteArray => [Value.string t])) w) (hz : X.length ≤ 1000000) (hb0 : base ≤ w.heap.size) (eg : ∀ args w, (callFunc g args).run Tryd.prog w = .ok (.enter g args) w)
    (hp : ∀ W x, (∀ k, k < w.heap.size → some k ≠ blkOf v → W.heap[k]? = w.heap[k]?) → w.heap.size ≤ W.heap.size → x ∈ X → Calls Tryd.prog g (#[.string x] ++ lb) W fun e w' => e = .returned (.bool (p x)) ∧ Grow W w')
    (hix : Calls Tryd.prog 114 #[v, .func (.func g) #[] lb] w fun e w' => e = .returned (.int .i64 (idx p X)) ∧ Grow w w') :
    Calls Tryd.prog 91 #[v, .func (.func g) #[] lb] w fun e w' => ∃ v', e = .returned v' ∧ RowO base 9 1 v' (X.filter fun x => !p x).length ((X.filter fun x => !p x).flatMap (fun t : ByteArray => [Value.string t])) w' ∧ w.grownBy w' (blkOf v) ∧ blkOf v' = blkOf v := by
  obtain ⟨a, c, rfl, hc⟩ := h.slice
  have HH := Lib.hid h
  have HP := Lib.hid hp
  have hbd := idx_bd p X
  clear hp
  by_cases hneg : idx p X < 0
  · have HF := Lib.hid (filter_all hneg)
    have e1 : idx p X = -1 := by omega
    rw [e1] at hix
    clear h hneg e1 hbd
    go_enter Tryd.func91, Tryd.ntmps91
    go_wp2_with fail
    refine hix.mono ?_
    rintro e w1 ⟨rfl, g1⟩
    go_wp2_with fail
    go_ret
    exact ⟨_, rfl, by rw [HF.out]; exact HH.out.grow g1, ⟨g1.os, g1.tape, g1.output, g1.size, fun k hk _ => g1.block k hk⟩, rfl⟩
  · obtain ⟨i0, hi0⟩ : ∃ i0 : Nat, idx p X = i0 := ⟨(idx p X).toNat, by omega⟩
    have HM0 := Lib.hid (Mid.start hi0)
    obtain ⟨x0, hx0, -⟩ := idx_get hi0 (by omega)
    have hi0l : i0 < X.length := by have := (List.getElem?_eq_some_iff.1 hx0).1; simpa using this
    obtain ⟨b, cc, hbc⟩ : ∃ b cc, (Value.slice a X.length c) = .slice (some ⟨b, 0, none⟩) X.length (cc + 1) := by
      obtain ⟨x, hx, -⟩ := lt_get hi0l
      obtain ⟨u, hu⟩ : ∃ u, (X.flatMap (fun t : ByteArray => [Value.string t]))[i0 * 1 + 0]? = some u := ⟨_, (flat_get (fun t : ByteArray => [Value.string t]) (fun _ => rfl) X i0 0 x hx (by decide)).trans rfl⟩
      obtain ⟨b, c', e, -⟩ := h.cell hu
      injection e with e1 e2 e3
      cases c with
      | zero => omega
      | succ c => exact ⟨b, c, by rw [e1]⟩
    injection hbc with e1 e2 e3
    subst e1 e3
    rw [hi0] at hix
    clear h hneg hbd hi0 hx0
    have HB := Lib.hid (HH.out.blk (g := b) rfl)
    have hi00 : ((i0 : Int) == -1) = false := by rw [beq_eq_false_iff_ne]; omega
    go_enter Tryd.func91, Tryd.ntmps91
    go_wp2_with fail
    refine hix.mono ?_
    rintro e w1 ⟨rfl, g1⟩
    have HG1 := Lib.hid g1
    clear hix g1
    go_wp2_with fail
    go_loopw [5, 6] (fun v5 v6 wx => ∃ (i j : Nat) (l' : List ByteArray), v5 = .int .i64 i ∧ v6 = .int .i64 j ∧ Mid (fun x => !p x) X l' i j ∧ i < j ∧ RowO base 9 1 (.slice (some ⟨b, 0, none⟩) X.length (cc + 1)) X.length (l'.flatMap (fun t : ByteArray => [Value.string t])) wx ∧ Turned b w wx) (fun _ v6 _ => X.length - (Go.RowKit.intOf v6).toNat)
    case atStart => exact ⟨i0, i0 + 1, X, rfl, by go_num, HM0.out, by omega, HH.out.grow HG1.out, Turned.of_grow HG1.out⟩
    case round =>
      obtain ⟨i, j, l', rfl, rfl, hm, hij, hr, ht⟩ := hrel
      have HM := Lib.hid hm
      have HR := Lib.hid hr
      have HT := Lib.hid ht
      have hjl := hm.jl
      have hll := hm.len
      by_cases hlt : j < X.length
      · have hlt' : (j : Int) < X.length := by omega
        obtain ⟨x, hx, -⟩ := lt_get hlt
        have hx' := hm.get hx
        have q0 : wr.cell? ⟨b, j, none⟩ = some (.string x) := by have := (row_cells (fun t : ByteArray => [Value.string t]) (fun _ => rfl) hr hx' 0 _ rfl).1; simpa using this
        have hbw := (row_cells (fun t : ByteArray => [Value.string t]) (fun _ => rfl) hr hx' 0 _ rfl).2.2
        have hkp : ∀ k, k < w.heap.size → some k ≠ blkOf (.slice (some ⟨b, 0, none⟩) X.length (cc + 1)) → wr.heap[k]? = w.heap[k]? := fun k hk hne => ht.block k hk fun e => hne (by rw [e]; rfl)
        have cP := HP.out wr x hkp ht.size (List.mem_of_getElem? hx)
        have HX := Lib.hid hx
        obtain ⟨y, hy, -⟩ := lt_get (l := l') (i := i) (by omega)
        have HY := Lib.hid hy
        clear hm hr ht hx hx' hkp hy
        cases hpx : p x
        · rw [hpx] at cP
          have HPX := Lib.hid (show (fun x => !p x) x = true by simp [hpx])
          clear hpx
          go_wp2_with fail
          refine cP.mono ?_
          rintro e w2 ⟨rfl, g2⟩
          have HR2 := Lib.hid (HR.out.grow g2)
          have hbw2 : b < w2.heap.size := Nat.lt_of_lt_of_le hbw g2.size
          have s0 : w2.cell? ⟨b, i, none⟩ = some (.string y) := by have := (row_cells (fun t : ByteArray => [Value.string t]) (fun _ => rfl) HR2.out HY.out 0 _ rfl).1; simpa using this
          have f0 : w2.frozen? ⟨b, i, none⟩ = false := by have := (row_cells (fun t : ByteArray => [Value.string t]) (fun _ => rfl) HR2.out HY.out 0 _ rfl).2.1; simpa using this
          have HPT := Lib.hid (put_row (fun t : ByteArray => [Value.string t]) (fun _ => rfl) (by decide) HR2.out (by omega) (show i < X.length by omega) x)
          have HT2 := Lib.hid (HT.out.trans (Turned.of_grow g2))
          clear cP g2
          go_wp2_with fail
          go_roundw
          case rel => exact ⟨i + 1, j + 1, l'.set i x, by go_num, by go_num, HM.out.keep HX.out HPX.out, by omega, by have := HPT.out.1; rw [Nat.mul_one] at this; exact this, by have := HT2.out.trans HPT.out.2; rw [Nat.mul_one] at this; exact this⟩
          case measure => simp [Go.RowKit.intOf]; omega
        · rw [hpx] at cP
          have HPX := Lib.hid (show (fun x => !p x) x = false by simp [hpx])
          clear hpx
          go_wp2_with fail
          refine cP.mono ?_
          rintro e w2 ⟨rfl, g2⟩
          have HR2 := Lib.hid (HR.out.grow g2)
          have HT2 := Lib.hid (HT.out.trans (Turned.of_grow g2))
          clear cP g2
          go_wp2_with fail
          go_roundw
          case rel => exact ⟨i, j + 1, l', rfl, by go_num, HM.out.skip HX.out HPX.out, by omega, HR2.out, HT2.out⟩
          case measure => simp [Go.RowKit.intOf]; omega
      · have hlt' : ¬ (j : Int) < X.length := by omega
        obtain rfl : j = X.length := by omega
        obtain ⟨-, cur, hcur⟩ := hr.blk (g := b) rfl
        have hsz : cur.size = (cc + 1) * 1 ∧ X.length ≤ cc + 1 := by
          rcases hr with ⟨-, ⟨h2, -⟩ | ⟨g, cap, cur2, e2, h3, h4, h5, h6, h7, h8⟩⟩ | ⟨-, -, a, e2⟩
          · cases h2
          · injection e2 with e2 e3 e4
            injection e2 with e2
            injection e2 with e2
            subst e2 e4
            rw [hcur] at h4
            injection h4 with h4
            injection h4 with h4
            subst h4
            exact ⟨h7, h5⟩
          · injection e2 with _ _ e2
            omega
        obtain ⟨wz, cs', hcl, hbz, hsz', hkz, htz⟩ := run_clear (P := Tryd.prog) (t := 38) (k := 1) Tryd.underlying38 (z := .string ⟨#[]⟩) (fun _ => by kernel_rfl) rfl (by decide) (by decide) wr (b := b) (o := i * 1) (n := X.length - i) (cc + 1 - i) (by omega) hcur (by rw [hsz.1, ← Nat.add_mul]; exact Nat.mul_le_mul_right _ (by omega))
        simp only [Nat.mul_one] at hcl
        have HRZ := Lib.hid (hr.cut hcur hbz hsz' (by omega) hkz)
        have HDN := Lib.hid hm.done
        have HTZ := Lib.hid (ht.trans htz)
        have hi1 : (i : Int) ≤ X.length := by omega
        have hi2 : (i : Int) ≤ ((cc : Int) + 1) := by omega
        have hsz2 := hsz.2
        clear hr ht hm hcur hsz hbz hsz' hkz htz
        go_wp2_with fail
        go_ret
        refine ⟨_, rfl, ?_, ⟨HTZ.out.os, HTZ.out.tape, HTZ.out.output, HTZ.out.size, fun k hk hne => HTZ.out.block k hk fun e => hne (by rw [e]; rfl)⟩, rfl⟩
        have := HRZ.out
        rw [flat_take (fun t : ByteArray => [Value.string t]) (fun _ => rfl), HDN.out] at this
        have hl2 : (X.filter fun x => !p x).length = i := by rw [← HDN.out, List.length_take]; omega
        rw [hl2]
        exact this
end Go.Proofs.YtnajccljdjllgaaDoor
