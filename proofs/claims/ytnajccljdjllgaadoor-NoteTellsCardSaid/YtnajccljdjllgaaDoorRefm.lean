/- The walks of jotterref17.Sheets, sheets and May: it is mayS. -/
import Derived.Test.YtnajccljdjllgaaDoorRefn
import Derived.Test.YtnajccljdjllgaaDoorApp
import Derived.Test.YtnajccljdjllgaaDoorKeptC
set_option linter.unusedVariables false
set_option linter.unusedSimpArgs false
namespace Go.Proofs.YtnajccljdjllgaaDoor
open Go.RowKit Go.Lib
def allSheets (s : Shelf) : List Int := s.notes.flatMap (·.sheets)
def FewSheets (s : Shelf) : Prop := s.notes.length ≤ 1000 ∧ ∀ n ∈ s.notes, n.sheets.length ≤ 1000
theorem FewSheets.le {s : Shelf} (h : FewSheets s) (j : Nat) : ((s.notes.take j).flatMap (·.sheets)).length ≤ 1000000 := by
  have := flat_le (fun n : Note => n.sheets) 1000 (s.notes.take j) (fun x hx => h.2 x (List.mem_of_mem_take hx))
  have h2 : (s.notes.take j).length ≤ 1000 := by rw [List.length_take]; have := h.1; omega
  have := Nat.mul_le_mul_right 1000 h2
  omega
theorem take_fm {α β : Type} (f : α → List β) {l : List α} {i : Nat} {x : α} (hx : l[i]? = some x) : (l.take (i + 1)).flatMap f = (l.take i).flatMap f ++ f x := by
  obtain ⟨hi, e⟩ := List.getElem?_eq_some_iff.1 hx
  rw [List.take_succ_eq_append_getElem hi, e, List.flatMap_append]; simp
def RetInts (l : List Int) (w : World) (e : Ending) (w' : World) : Prop := ∃ v, e = .returned v ∧ Ints w' v l ∧ Grow w w'
set_option maxRecDepth 100000 in
set_option maxHeartbeats 1000000 in
theorem refSheets_all (s : Shelf) (bv nv : Value) (w : World) (h : ShelfR w s bv nv) (hz : FewSheets s) :
    Calls Tryd.prog 127 #[shelfV s bv nv] w (RetInts (allSheets s) w) := by
  obtain ⟨a1, c1, rfl⟩ := h.1.mk
  obtain ⟨a2, c2, rfl⟩ := h.2.mk
  have HH := Lib.hid h
  have HZ := Lib.hid hz
  have hn : s.notes.length ≤ 1000 := hz.1
  clear h hz
  unfold shelfV
  go_enter Tryd.func127, Tryd.ntmps127
  go_upto_region 1 with (fail)
  generalize hV : w.alloc (.cells #[.int .i64 s.nb, .int .i64 s.nn, .int .i64 s.ns, .slice a1 s.books.length c1, .slice a2 s.notes.length c2] 28) = V
  have gV : Grow w V := by rw [← hV]; exact (Grow.refl w).alloc _
  have hbox : V.heap[w.heap.size]? = some (.cells #[.int .i64 s.nb, .int .i64 s.nn, .int .i64 s.ns, .slice a1 s.books.length c1, .slice a2 s.notes.length c2] 28 (0, 0)) := by rw [← hV]; exact heap_alloc_new w _
  clear hV
  have HB := Lib.hid hbox
  have hO : OwnL IntR 3 1 w (.slice none 0 0) [] V := OwnL.start gV
  have HO := Lib.hid hO
  clear hO hbox
  go_wp2_with fail
  go_loopw [3, 4] (fun v3 v4 wx => ∃ j : Nat, v4 = .int .i64 j ∧ j ≤ s.notes.length ∧ OwnL IntR 3 1 w v3 ((s.notes.take j).flatMap (·.sheets)) wx ∧ Kept 3 V wx) (fun _ v4 _ => s.notes.length - (intOf v4).toNat)
  case atStart => exact ⟨0, rfl, by omega, by simpa using HO.out, Kept.refl _ _⟩
  case round =>
    obtain ⟨j, rfl, hj, ho, hk⟩ := hrel
    have HO2 := Lib.hid ho
    have gr := ho.grow
    have HK := Lib.hid hk
    have q4 : wr.cell? ⟨w.heap.size, 4, none⟩ = some (.slice a2 s.notes.length c2) := hk.cell (by decide) HB.out 4 _ rfl
    clear ho hk HO
    by_cases hlt : j < s.notes.length
    · have hlt' : (j : Int) < s.notes.length := by omega
      obtain ⟨x, hx, -⟩ := lt_get hlt
      obtain ⟨bb, off, tv, sv, rfl, hbb, p0, p1, p2, p3, p4, htv, hsv⟩ := HH.out.2.at hx
      replace p4 := (gr.cells _ _ hbb).trans p4
      obtain ⟨as_, cs, rfl⟩ := hsv.mk
      have HS := Lib.hid (hsv.grow gr)
      have HF := Lib.hid (take_fm (·.sheets) hx)
      have hle := HZ.out.le j
      have hxl := HZ.out.2 x (List.mem_of_getElem? hx)
      obtain ⟨xs, hxs⟩ := HO2.out
      have HXS := Lib.hid hxs
      obtain ⟨i0, hi0, hz0, hz1, hz2⟩ := info_parts info_int
      clear hx hsv htv p0 p1 p2 p3 hxs
      go_wp2_with (at_builtin; refine app_reads rfl _ _ 39 rfl 3 i0 (.int .i64 0) 8 Tryd.underlying39 hi0 hz0 hz1 hz2 rfl (by decide) _ (.slice as_ x.sheets.length cs) _ xs rfl HXS.out.1 rfl HS.out (one_int _) (by omega) (by decide) ?_; intro v' w' hout; have HOUT := Lib.hid hout; clear hout)
      go_roundw
      case rel => exact ⟨j + 1, by go_num, by omega, by rw [HF.out]; exact HO2.out.app HXS.out HOUT.out (fun _ _ _ h => h), HK.out.trans (AppOut.kept HXS.out.1 HOUT.out)⟩
      case measure => simp [intOf]; omega
    · have hlt' : ¬ (j : Int) < s.notes.length := by omega
      have HR : Hid (OwnL IntR 3 1 w u3 (allSheets s) wr) := by
        have := HO2.out
        rw [List.take_of_length_le (by omega)] at this
        exact Lib.hid this
      go_wp2_with fail
      go_ret
      have hrd := HR.out.reads' (fun _ _ _ _ h => h)
      exact ⟨_, rfl, hrd, gr⟩
/-! sheets -/
def sheetAt (l : List Int) (i : Nat) : Int := l.getD i 0
def refSheetOk (ns : Int) (l : List Int) (i : Nat) : Bool := (decide (1 ≤ sheetAt l i) && decide (sheetAt l i ≤ ns - 1)) && allTo i fun k => !(sheetAt l k == sheetAt l i)
def refSheetsB (s : Shelf) : Bool := (decide (1 ≤ s.ns) && decide (s.ns ≤ 4096)) && allTo (allSheets s).length (refSheetOk s.ns (allSheets s))
set_option maxRecDepth 100000 in
set_option maxHeartbeats 2000000 in
theorem refSheets_any (s : Shelf) (bv nv : Value) (w : World) (h : ShelfR w s bv nv) (hz : FewSheets s) :
    Calls Tryd.prog 102 #[shelfV s bv nv] w fun e w' => e = .returned (.bool (refSheetsB s)) ∧ Grow w w' := by
  obtain ⟨a1, c1, rfl⟩ := h.1.mk
  obtain ⟨a2, c2, rfl⟩ := h.2.mk
  have HH := Lib.hid h
  have HZ := Lib.hid hz
  clear h hz
  unfold shelfV
  go_enter Tryd.func102, Tryd.ntmps102
  go_upto_region 1 with (fail)
  generalize hV : w.alloc (.cells #[.int .i64 s.nb, .int .i64 s.nn, .int .i64 s.ns, .slice a1 s.books.length c1, .slice a2 s.notes.length c2] 28) = V
  have gV : Grow w V := by rw [← hV]; exact (Grow.refl w).alloc _
  have hsz : w.heap.size < V.heap.size := by rw [← hV]; simp
  have Q : V.cell? ⟨w.heap.size, 0, none⟩ = some (.int .i64 s.nb) ∧ V.cell? ⟨w.heap.size, 1, none⟩ = some (.int .i64 s.nn) ∧ V.cell? ⟨w.heap.size, 2, none⟩ = some (.int .i64 s.ns) ∧ V.cell? ⟨w.heap.size, 3, none⟩ = some (.slice a1 s.books.length c1) ∧ V.cell? ⟨w.heap.size, 4, none⟩ = some (.slice a2 s.notes.length c2) := by rw [← hV]; simp [go_sem]
  obtain ⟨q0, q1, q2, q3, q4⟩ := Q
  clear hV
  by_cases e2 : 1 ≤ s.ns
  case neg =>
    have e2' : s.ns < 1 := by omega
    have HN := Lib.hid (show refSheetsB s = false by unfold refSheetsB; rw [decide_eq_false e2]; simp)
    go_wp2_with fail
    go_ret
    exact ⟨ret_bool HN.out.symm, gV⟩
  have e2' : ¬ s.ns < 1 := by omega
  by_cases e3 : s.ns ≤ 4096
  case neg =>
    have e3' : 4096 < s.ns := by omega
    have HN := Lib.hid (show refSheetsB s = false by unfold refSheetsB; rw [decide_eq_false e3]; simp)
    go_wp2_with fail
    go_ret
    exact ⟨ret_bool HN.out.symm, gV⟩
  have e3' : ¬ 4096 < s.ns := by omega
  have HP := Lib.hid (show refSheetsB s = allTo (allSheets s).length (refSheetOk s.ns (allSheets s)) by unfold refSheetsB; rw [decide_eq_true e2, decide_eq_true e3]; rfl)
  have cA := refSheets_all s _ _ V (HH.out.grow gV) HZ.out
  unfold shelfV at cA
  go_wp2_with fail
  refine cA.mono ?_
  rintro e V1 ⟨v, rfl, hv, g1⟩
  have hll : (allSheets s).length ≤ 1000000 := by have := HZ.out.le s.notes.length; rw [List.take_of_length_le (by omega)] at this; exact this
  generalize allSheets s = L at *
  obtain ⟨al, cl, rfl⟩ := hv.mk
  have HV := Lib.hid hv
  have gV1 := gV.trans g1
  replace q2 := (g1.cells _ _ hsz).trans q2
  have hsz1 : w.heap.size < V1.heap.size := by have := g1.size; omega
  clear hv cA q0 q1 q3 q4 g1 gV
  go_wp2_with fail
  go_loopw [4] (fun v4 wx => Grow V1 wx ∧ ∃ j : Nat, v4 = .int .i64 j ∧ j ≤ L.length ∧ ∀ k, k < j → refSheetOk s.ns L k = true) (fun v4 _ => L.length - (intOf v4).toNat)
  case atStart => exact ⟨Grow.refl _, 0, rfl, by omega, fun k h => absurd h (by omega)⟩
  case round =>
    obtain ⟨hgr, j, rfl, hj, hall⟩ := hrel
    have HA := Lib.hid hall
    clear hall
    have gw := gV1.trans hgr
    replace q2 := (hgr.cells _ _ hsz1).trans q2
    have hsr : w.heap.size < wr.heap.size := by have := hgr.size; omega
    by_cases hlt : j < L.length
    case neg =>
      have hlt' : ¬ (j : Int) < L.length := by omega
      have HR := Lib.hid (show refSheetsB s = true by rw [HP.out]; exact allTo_yes (fun k hk => HA.out k (by omega)))
      go_wp2_with fail
      go_ret
      exact ⟨ret_bool HR.out.symm, gw⟩
    have hlt' : (j : Int) < L.length := by omega
    obtain ⟨x, hx, -⟩ := lt_get hlt
    obtain ⟨bb, off, rfl, hbb, p0⟩ := (HV.out.grow hgr).at hx
    have HX := Lib.hid (show sheetAt L j = x from getD_of hx)
    clear hx
    go_upto_region 7 with (fail)
    refine wp_region_gr (by kernel_rfl) (by kernel_rfl) ?_
    repeat (go_big_quiet_step (fail))
    by_cases f1 : x < 1
    · rw [decide_eq_true f1]
      have HN := Lib.hid (show refSheetsB s = false by
        rw [HP.out]; exact allTo_no hlt (by unfold refSheetOk; rw [HX.out, decide_eq_false (show ¬ 1 ≤ x by omega)]; rfl))
      repeat (go_big_quiet_step (fail))
      refine wpQuiet_nil ?_
      rintro _ ⟨y, rfl⟩
      go_wp2_with fail
      go_ret
      exact ⟨ret_bool HN.out.symm, gw.trans y.g⟩
    rw [decide_eq_false f1]
    repeat (go_big_quiet_step (fail))
    by_cases f2 : s.ns ≤ x
    · rw [decide_eq_true f2]
      have HN := Lib.hid (show refSheetsB s = false by
        rw [HP.out]; exact allTo_no hlt (by unfold refSheetOk; rw [HX.out, decide_eq_false (show ¬ x ≤ s.ns - 1 by omega)]; simp))
      refine wpQuiet_nil ?_
      rintro _ ⟨y, rfl⟩
      go_wp2_with fail
      go_ret
      exact ⟨ret_bool HN.out.symm, gw.trans y.g⟩
    rw [decide_eq_false f2]
    refine wpQuiet_nil ?_
    rintro _ ⟨y, rfl⟩
    have HK := Lib.hid (show refSheetOk s.ns L j = allTo j fun k => !(sheetAt L k == x) by unfold refSheetOk; rw [HX.out, decide_eq_true (show 1 ≤ x by omega), decide_eq_true (show x ≤ s.ns - 1 by omega)]; rfl)
    generalize hyW : y.W = wy
    have gy : Grow wr wy := by rw [← hyW]; exact y.g
    replace q2 := (gy.cells _ _ hsr).trans q2
    replace p0 := (gy.cells _ _ hbb).trans p0
    have hbby : bb < wy.heap.size := by have := gy.size; omega
    have hszy : w.heap.size < wy.heap.size := by have := gy.size; omega
    clear hyW y
    go_wp2_with fail
    go_loopw [5] (fun v5 wx => Grow wy wx ∧ ∃ k : Nat, v5 = .int .i64 k ∧ k ≤ j ∧ ∀ m, m < k → (!(sheetAt L m == x)) = true) (fun v5 _ => j - (intOf v5).toNat)
    case atStart => exact ⟨Grow.refl _, 0, rfl, by omega, fun m h => absurd h (by omega)⟩
    case round =>
      obtain ⟨hg2, k, rfl, hk, hall2⟩ := hrel
      have HB := Lib.hid hall2
      clear hall2
      have gw2 := (gw.trans gy).trans hg2
      replace q2 := (hg2.cells _ _ hszy).trans q2
      replace p0 := (hg2.cells _ _ hbby).trans p0
      by_cases hkj : k < j
      case neg =>
        have hkj' : ¬ (k : Int) < j := by omega
        have HO := Lib.hid (show refSheetOk s.ns L j = true by
          rw [HK.out]; exact allTo_yes (fun m hm => HB.out m (by omega)))
        go_wp2_with fail
        go_roundw
        case rel => exact ⟨(hgr.trans gy).trans hg2, j + 1, by go_num, by omega, fun m hm => by
          rcases (by omega : m < j ∨ m = j) with h3 | rfl
          · exact HA.out m h3
          · exact HO.out⟩
        case measure => simp [intOf]; omega
      have hkj' : (k : Int) < j := by omega
      have hks : (k : Int) < L.length := by omega
      obtain ⟨z, hz, -⟩ := lt_get (l := L) (i := k) (by omega)
      obtain ⟨b2, off2, e', hb2, k0⟩ := (HV.out.grow ((hgr.trans gy).trans hg2)).at hz
      injection e' with e'
      injection e' with e1 e2
      subst e1 e2
      have HZ2 := Lib.hid (show sheetAt L k = z from getD_of hz)
      clear hz
      go_upto_region 12 with (fail)
      refine wp_region_gr (by kernel_rfl) (by kernel_rfl) ?_
      repeat (go_big_quiet_step (fail))
      refine wpQuiet_nil ?_
      rintro _ ⟨y, rfl⟩
      by_cases hq : z = x
      · have HN := Lib.hid (show refSheetsB s = false by
          rw [HP.out]
          refine allTo_no hlt ?_
          rw [HK.out]
          exact allTo_no hkj (by rw [HZ2.out, hq]; simp))
        go_wp2_with fail
        go_ret
        exact ⟨ret_bool HN.out.symm, gw2.trans y.g⟩
      · have HQ := Lib.hid (show (!(sheetAt L k == x)) = true by rw [HZ2.out, show (z == x) = false by rw [beq_eq_false_iff_ne]; exact hq]; rfl)
        go_wp2_with fail
        go_roundw
        case rel => exact ⟨hg2.trans y.g, k + 1, by go_num, by omega, fun m hm => by
          rcases (by omega : m < k ∨ m = k) with h3 | rfl
          · exact HB.out m h3
          · exact HQ.out⟩
        case measure => simp [intOf]; omega
end Go.Proofs.YtnajccljdjllgaaDoor
