/- The walks of jotterref17.Sheets, sheets and May: it is mayS. The walk of jotterref17.May: it is mayS. The walk of jotterref17.Note. The walks of jotterref17.Note, bookName, noteName. A copy of a shelf in work, tags and sheets counted apart (jotterref17.Copy). The walk of jotterref17.Copy. An element taken out of a row of the call's own: append(l[:i], l[i+1:]..). jotterref17.Make. jotterref17.Rename. -/
import Derived.Test.YtnajccljdjllgaaGreatDoorJShelfTellse
import Derived.Test.YtnajccljdjllgaaGreatDoorJShelfTellsa
import Derived.Test.YtnajccljdjllgaaGreatDoorJShelfTellsc
import Derived.Test.YtnajccljdjllgaaGreatDoorJShelfTellsb
import Derived.Test.YtnajccljdjllgaaGreatDoorJShelfTellsd
import Derived.Deep.RegionLaw
set_option linter.unusedVariables false
set_option linter.unusedSimpArgs false
namespace Go.Proofs.YtnajccljdjllgaaGreatDoor
open Go.RowKit Go.Lib
def allSheets (s : Shelf) : List Int := s.notes.flatMap (·.sheets)
def FewSheets (s : Shelf) : Prop := s.notes.length ≤ 1000 ∧ ∀ n ∈ s.notes, n.sheets.length ≤ 1000
theorem FewSheets.le {s : Shelf} (h : FewSheets s) (j : Nat) : ((s.notes.take j).flatMap (·.sheets)).length ≤ 1000000 := by
  have := flat_le (fun n : Note => n.sheets) 1000 (s.notes.take j) (fun x hx => h.2 x (List.mem_of_mem_take hx))
  have h2 : (s.notes.take j).length ≤ 1000 := by rw [List.length_take]; have := h.1; omega
  have := Nat.mul_le_mul_right 1000 h2
  omega
theorem take_fm {α β : Type} (f : α → List β) {l : List α} {i : Nat} {x : α} (hx : l[i]? = some x) : (l.take (i + 1)).flatMap f = (l.take i).flatMap f ++ f x := by
  obtain ⟨hi, e⟩ := List.getElem?_eq_some_iff.1 hx
  rw [List.take_succ_eq_append_getElem hi, e, List.flatMap_append]; simp
def RetInts (l : List Int) (w : World) (e : Ending) (w' : World) : Prop := ∃ v, e = .returned v ∧ Ints w' v l ∧ Grow w w'
set_option maxRecDepth 100000 in
set_option maxHeartbeats 1000000 in
theorem refSheets_all (s : Shelf) (bv nv : Value) (w : World) (h : ShelfR w s bv nv) (hz : FewSheets s) :
    Calls Tryz.prog 76 #[shelfV s bv nv] w (RetInts (allSheets s) w) := by
  obtain ⟨a1, c1, rfl⟩ := h.1.mk
  obtain ⟨a2, c2, rfl⟩ := h.2.mk
  have HH := Lib.hid h
  have HZ := Lib.hid hz
  have hn : s.notes.length ≤ 1000 := hz.1
  clear h hz
  unfold shelfV
  go_enter Tryz.func76, Tryz.ntmps76
  go_upto_region 1 with (fail)
  generalize hV : w.alloc (.cells #[.int .i64 s.nb, .int .i64 s.nn, .int .i64 s.ns, .slice a1 s.books.length c1, .slice a2 s.notes.length c2] 25) = V
  have gV : Grow w V := by rw [← hV]; exact (Grow.refl w).alloc _
  have hbox : V.heap[w.heap.size]? = some (.cells #[.int .i64 s.nb, .int .i64 s.nn, .int .i64 s.ns, .slice a1 s.books.length c1, .slice a2 s.notes.length c2] 25 (0, 0)) := by rw [← hV]; exact heap_alloc_new w _
  clear hV
  have HB := Lib.hid hbox
  have hO : OwnL IntR 3 1 w (.slice none 0 0) [] V := OwnL.start gV
  have HO := Lib.hid hO
  clear hO hbox
  go_wp2_with fail
  go_loopw [3, 4] (fun v3 v4 wx => ∃ j : Nat, v4 = .int .i64 j ∧ j ≤ s.notes.length ∧ OwnL IntR 3 1 w v3 ((s.notes.take j).flatMap (·.sheets)) wx ∧ Kept 3 V wx) (fun _ v4 _ => s.notes.length - (intOf v4).toNat)
  case atStart => exact ⟨0, rfl, by omega, by simpa using HO.out, Kept.refl _ _⟩
  case round =>
    obtain ⟨j, rfl, hj, ho, hk⟩ := hrel
    have HO2 := Lib.hid ho
    have gr := ho.grow
    have HK := Lib.hid hk
    have q4 : wr.cell? ⟨w.heap.size, 4, none⟩ = some (.slice a2 s.notes.length c2) := hk.cell (by decide) HB.out 4 _ rfl
    clear ho hk HO
    by_cases hlt : j < s.notes.length
    · have hlt' : (j : Int) < s.notes.length := by omega
      obtain ⟨x, hx, -⟩ := lt_get hlt
      obtain ⟨bb, off, tv, sv, rfl, hbb, p0, p1, p2, p3, p4, htv, hsv⟩ := HH.out.2.at hx
      replace p4 := (gr.cells _ _ hbb).trans p4
      obtain ⟨as_, cs, rfl⟩ := hsv.mk
      have HS := Lib.hid (hsv.grow gr)
      have HF := Lib.hid (take_fm (·.sheets) hx)
      have hle := HZ.out.le j
      have hxl := HZ.out.2 x (List.mem_of_getElem? hx)
      obtain ⟨xs, hxs⟩ := HO2.out
      have HXS := Lib.hid hxs
      obtain ⟨i0, hi0, hz0, hz1, hz2⟩ := info_parts info_int
      clear hx hsv htv p0 p1 p2 p3 hxs
      go_wp2_with (at_builtin; refine app_reads rfl _ _ 44 rfl 3 i0 (.int .i64 0) 8 Tryz.underlying44 hi0 hz0 hz1 hz2 rfl (by decide) _ (.slice as_ x.sheets.length cs) _ xs rfl HXS.out.1 rfl HS.out (one_int _) (by omega) (by decide) ?_; intro v' w' hout; have HOUT := Lib.hid hout; clear hout)
      go_roundw
      case rel => exact ⟨j + 1, by go_num, by omega, by rw [HF.out]; exact HO2.out.app HXS.out HOUT.out (fun _ _ _ h => h), HK.out.trans (AppOut.kept HXS.out.1 HOUT.out)⟩
      case measure => simp [intOf]; omega
    · have hlt' : ¬ (j : Int) < s.notes.length := by omega
      have HR : Hid (OwnL IntR 3 1 w u3 (allSheets s) wr) := by
        have := HO2.out
        rw [List.take_of_length_le (by omega)] at this
        exact Lib.hid this
      go_wp2_with fail
      go_ret
      have hrd := HR.out.reads' (fun _ _ _ _ h => h)
      exact ⟨_, rfl, hrd, gr⟩
/-! sheets -/
def sheetAt (l : List Int) (i : Nat) : Int := l.getD i 0
def refSheetOk (ns : Int) (l : List Int) (i : Nat) : Bool := (decide (1 ≤ sheetAt l i) && decide (sheetAt l i ≤ ns - 1)) && allTo i fun k => !(sheetAt l k == sheetAt l i)
def refSheetsB (s : Shelf) : Bool := (decide (1 ≤ s.ns) && decide (s.ns ≤ 4096)) && allTo (allSheets s).length (refSheetOk s.ns (allSheets s))
set_option maxRecDepth 100000 in
set_option maxHeartbeats 2000000 in
theorem refSheets_any (s : Shelf) (bv nv : Value) (w : World) (h : ShelfR w s bv nv) (hz : FewSheets s) :
    Calls Tryz.prog 47 #[shelfV s bv nv] w fun e w' => e = .returned (.bool (refSheetsB s)) ∧ Grow w w' := by
  obtain ⟨a1, c1, rfl⟩ := h.1.mk
  obtain ⟨a2, c2, rfl⟩ := h.2.mk
  have HH := Lib.hid h
  have HZ := Lib.hid hz
  clear h hz
  unfold shelfV
  go_enter Tryz.func47, Tryz.ntmps47
  go_upto_region 1 with (fail)
  generalize hV : w.alloc (.cells #[.int .i64 s.nb, .int .i64 s.nn, .int .i64 s.ns, .slice a1 s.books.length c1, .slice a2 s.notes.length c2] 25) = V
  have gV : Grow w V := by rw [← hV]; exact (Grow.refl w).alloc _
  have hsz : w.heap.size < V.heap.size := by rw [← hV]; simp
  have Q : V.cell? ⟨w.heap.size, 0, none⟩ = some (.int .i64 s.nb) ∧ V.cell? ⟨w.heap.size, 1, none⟩ = some (.int .i64 s.nn) ∧ V.cell? ⟨w.heap.size, 2, none⟩ = some (.int .i64 s.ns) ∧ V.cell? ⟨w.heap.size, 3, none⟩ = some (.slice a1 s.books.length c1) ∧ V.cell? ⟨w.heap.size, 4, none⟩ = some (.slice a2 s.notes.length c2) := by rw [← hV]; simp [go_sem]
  obtain ⟨q0, q1, q2, q3, q4⟩ := Q
  clear hV
  by_cases e2 : 1 ≤ s.ns
  case neg =>
    have e2' : s.ns < 1 := by omega
    have HN := Lib.hid (show refSheetsB s = false by unfold refSheetsB; rw [decide_eq_false e2]; simp)
    go_wp2_with fail
    go_ret
    exact ⟨ret_bool HN.out.symm, gV⟩
  have e2' : ¬ s.ns < 1 := by omega
  by_cases e3 : s.ns ≤ 4096
  case neg =>
    have e3' : 4096 < s.ns := by omega
    have HN := Lib.hid (show refSheetsB s = false by unfold refSheetsB; rw [decide_eq_false e3]; simp)
    go_wp2_with fail
    go_ret
    exact ⟨ret_bool HN.out.symm, gV⟩
  have e3' : ¬ 4096 < s.ns := by omega
  have HP := Lib.hid (show refSheetsB s = allTo (allSheets s).length (refSheetOk s.ns (allSheets s)) by unfold refSheetsB; rw [decide_eq_true e2, decide_eq_true e3]; rfl)
  have cA := refSheets_all s _ _ V (HH.out.grow gV) HZ.out
  unfold shelfV at cA
  go_wp2_with fail
  refine cA.mono ?_
  rintro e V1 ⟨v, rfl, hv, g1⟩
  have hll : (allSheets s).length ≤ 1000000 := by have := HZ.out.le s.notes.length; rw [List.take_of_length_le (by omega)] at this; exact this
  generalize allSheets s = L at *
  obtain ⟨al, cl, rfl⟩ := hv.mk
  have HV := Lib.hid hv
  have gV1 := gV.trans g1
  replace q2 := (g1.cells _ _ hsz).trans q2
  have hsz1 : w.heap.size < V1.heap.size := by have := g1.size; omega
  clear hv cA q0 q1 q3 q4 g1 gV
  go_wp2_with fail
  go_loopw [4] (fun v4 wx => Grow V1 wx ∧ ∃ j : Nat, v4 = .int .i64 j ∧ j ≤ L.length ∧ ∀ k, k < j → refSheetOk s.ns L k = true) (fun v4 _ => L.length - (intOf v4).toNat)
  case atStart => exact ⟨Grow.refl _, 0, rfl, by omega, fun k h => absurd h (by omega)⟩
  case round =>
    obtain ⟨hgr, j, rfl, hj, hall⟩ := hrel
    have HA := Lib.hid hall
    clear hall
    have gw := gV1.trans hgr
    replace q2 := (hgr.cells _ _ hsz1).trans q2
    have hsr : w.heap.size < wr.heap.size := by have := hgr.size; omega
    by_cases hlt : j < L.length
    case neg =>
      have hlt' : ¬ (j : Int) < L.length := by omega
      have HR := Lib.hid (show refSheetsB s = true by rw [HP.out]; exact allTo_yes (fun k hk => HA.out k (by omega)))
      go_wp2_with fail
      go_ret
      exact ⟨ret_bool HR.out.symm, gw⟩
    have hlt' : (j : Int) < L.length := by omega
    obtain ⟨x, hx, -⟩ := lt_get hlt
    obtain ⟨bb, off, rfl, hbb, p0⟩ := (HV.out.grow hgr).at hx
    have HX := Lib.hid (show sheetAt L j = x from getD_of hx)
    clear hx
    go_upto_region 7 with (fail)
    refine wp_region_gr (by kernel_rfl) (by kernel_rfl) ?_
    repeat (go_big_quiet_step (fail))
    by_cases f1 : x < 1
    · rw [decide_eq_true f1]
      have HN := Lib.hid (show refSheetsB s = false by
        rw [HP.out]; exact allTo_no hlt (by unfold refSheetOk; rw [HX.out, decide_eq_false (show ¬ 1 ≤ x by omega)]; rfl))
      repeat (go_big_quiet_step (fail))
      refine wpQuiet_nil ?_
      rintro _ ⟨y, rfl⟩
      go_wp2_with fail
      go_ret
      exact ⟨ret_bool HN.out.symm, gw.trans y.g⟩
    rw [decide_eq_false f1]
    repeat (go_big_quiet_step (fail))
    by_cases f2 : s.ns ≤ x
    · rw [decide_eq_true f2]
      have HN := Lib.hid (show refSheetsB s = false by
        rw [HP.out]; exact allTo_no hlt (by unfold refSheetOk; rw [HX.out, decide_eq_false (show ¬ x ≤ s.ns - 1 by omega)]; simp))
      refine wpQuiet_nil ?_
      rintro _ ⟨y, rfl⟩
      go_wp2_with fail
      go_ret
      exact ⟨ret_bool HN.out.symm, gw.trans y.g⟩
    rw [decide_eq_false f2]
    refine wpQuiet_nil ?_
    rintro _ ⟨y, rfl⟩
    have HK := Lib.hid (show refSheetOk s.ns L j = allTo j fun k => !(sheetAt L k == x) by unfold refSheetOk; rw [HX.out, decide_eq_true (show 1 ≤ x by omega), decide_eq_true (show x ≤ s.ns - 1 by omega)]; rfl)
    generalize hyW : y.W = wy
    have gy : Grow wr wy := by rw [← hyW]; exact y.g
    replace q2 := (gy.cells _ _ hsr).trans q2
    replace p0 := (gy.cells _ _ hbb).trans p0
    have hbby : bb < wy.heap.size := by have := gy.size; omega
    have hszy : w.heap.size < wy.heap.size := by have := gy.size; omega
    clear hyW y
    go_wp2_with fail
    go_loopw [5] (fun v5 wx => Grow wy wx ∧ ∃ k : Nat, v5 = .int .i64 k ∧ k ≤ j ∧ ∀ m, m < k → (!(sheetAt L m == x)) = true) (fun v5 _ => j - (intOf v5).toNat)
    case atStart => exact ⟨Grow.refl _, 0, rfl, by omega, fun m h => absurd h (by omega)⟩
    case round =>
      obtain ⟨hg2, k, rfl, hk, hall2⟩ := hrel
      have HB := Lib.hid hall2
      clear hall2
      have gw2 := (gw.trans gy).trans hg2
      replace q2 := (hg2.cells _ _ hszy).trans q2
      replace p0 := (hg2.cells _ _ hbby).trans p0
      by_cases hkj : k < j
      case neg =>
        have hkj' : ¬ (k : Int) < j := by omega
        have HO := Lib.hid (show refSheetOk s.ns L j = true by
          rw [HK.out]; exact allTo_yes (fun m hm => HB.out m (by omega)))
        go_wp2_with fail
        go_roundw
        case rel => exact ⟨(hgr.trans gy).trans hg2, j + 1, by go_num, by omega, fun m hm => by
          rcases (by omega : m < j ∨ m = j) with h3 | rfl
          · exact HA.out m h3
          · exact HO.out⟩
        case measure => simp [intOf]; omega
      have hkj' : (k : Int) < j := by omega
      have hks : (k : Int) < L.length := by omega
      obtain ⟨z, hz, -⟩ := lt_get (l := L) (i := k) (by omega)
      obtain ⟨b2, off2, e', hb2, k0⟩ := (HV.out.grow ((hgr.trans gy).trans hg2)).at hz
      injection e' with e'
      injection e' with e1 e2
      subst e1 e2
      have HZ2 := Lib.hid (show sheetAt L k = z from getD_of hz)
      clear hz
      go_upto_region 12 with (fail)
      refine wp_region_gr (by kernel_rfl) (by kernel_rfl) ?_
      repeat (go_big_quiet_step (fail))
      refine wpQuiet_nil ?_
      rintro _ ⟨y, rfl⟩
      by_cases hq : z = x
      · have HN := Lib.hid (show refSheetsB s = false by
          rw [HP.out]
          refine allTo_no hlt ?_
          rw [HK.out]
          exact allTo_no hkj (by rw [HZ2.out, hq]; simp))
        go_wp2_with fail
        go_ret
        exact ⟨ret_bool HN.out.symm, gw2.trans y.g⟩
      · have HQ := Lib.hid (show (!(sheetAt L k == x)) = true by rw [HZ2.out, show (z == x) = false by rw [beq_eq_false_iff_ne]; exact hq]; rfl)
        go_wp2_with fail
        go_roundw
        case rel => exact ⟨hg2.trans y.g, k + 1, by go_num, by omega, fun m hm => by
          rcases (by omega : m < k ∨ m = k) with h3 | rfl
          · exact HB.out m h3
          · exact HQ.out⟩
        case measure => simp [intOf]; omega
end Go.Proofs.YtnajccljdjllgaaGreatDoor
set_option linter.unusedVariables false
set_option linter.unusedSimpArgs false
namespace Go.Proofs.YtnajccljdjllgaaGreatDoor
open Go.RowKit Go.Lib
theorem rsheetsOk_iff (ns : Int) : ∀ (L S : List Int), sheetsOk ns S L = true ↔ (∀ y ∈ L, 1 ≤ y ∧ y ≤ ns - 1) ∧ L.Nodup ∧ ∀ y ∈ L, y ∉ S
  | [], S => by simp [sheetsOk]
  | x :: L, S => by
    have ih := rsheetsOk_iff ns L (x :: S)
    unfold sheetsOk
    rw [Bool.and_eq_true, Bool.and_eq_true, Bool.and_eq_true, ih, decide_eq_true_eq, decide_eq_true_eq, Bool.not_eq_true', decide_eq_false_iff_not, List.nodup_cons]
    constructor
    · rintro ⟨⟨h1, h2, h3⟩, h4, h5, h6⟩
      refine ⟨fun y hy => ?_, ⟨fun hx => h6 x hx (List.mem_cons_self), h5⟩, fun y hy => ?_⟩
      · rcases List.mem_cons.1 hy with rfl | hy
        · exact ⟨h2, h3⟩
        · exact h4 y hy
      · rcases List.mem_cons.1 hy with rfl | hy
        · exact h1
        · exact fun h => h6 y hy (List.mem_cons_of_mem _ h)
    · rintro ⟨h1, ⟨h2, h3⟩, h4⟩
      have hx := h1 x List.mem_cons_self
      refine ⟨⟨h4 x List.mem_cons_self, hx.1, hx.2⟩, fun y hy => h1 y (List.mem_cons_of_mem _ hy), h3, fun y hy hm => ?_⟩
      rcases List.mem_cons.1 hm with rfl | hm
      · exact h2 hy
      · exact h4 y (List.mem_cons_of_mem _ hy) hm
theorem sheetAt_get {L : List Int} {i : Nat} (h : i < L.length) : sheetAt L i = L[i] := getD_of (List.getElem?_eq_getElem h)
theorem refSheetsOk_iff (ns : Int) (L : List Int) : allTo L.length (refSheetOk ns L) = true ↔ (∀ y ∈ L, 1 ≤ y ∧ y ≤ ns - 1) ∧ L.Nodup := by
  rw [allTo_iff]
  constructor
  · intro h
    refine ⟨fun y hy => ?_, ?_⟩
    · obtain ⟨i, hi, rfl⟩ := List.getElem_of_mem hy
      have h2 := h i hi
      unfold refSheetOk at h2
      rw [Bool.and_eq_true, Bool.and_eq_true, decide_eq_true_eq, decide_eq_true_eq, sheetAt_get hi] at h2
      exact h2.1
    · refine List.pairwise_iff_getElem.2 fun i j hi hj hij => ?_
      have h2 := h j hj
      unfold refSheetOk at h2
      rw [Bool.and_eq_true, allTo_iff] at h2
      have h3 := h2.2 i hij
      rw [Bool.not_eq_true', beq_eq_false_iff_ne, sheetAt_get hi, sheetAt_get hj] at h3
      exact h3
  · rintro ⟨h1, h2⟩ j hj
    unfold refSheetOk
    rw [Bool.and_eq_true, Bool.and_eq_true, decide_eq_true_eq, decide_eq_true_eq, allTo_iff, sheetAt_get hj]
    refine ⟨h1 _ (List.getElem_mem hj), fun k hk => ?_⟩
    rw [Bool.not_eq_true', beq_eq_false_iff_ne, sheetAt_get (by omega)]
    exact List.pairwise_iff_getElem.1 h2 k j (by omega) hj hk
theorem refSheetsOk_eq (ns : Int) (L : List Int) : allTo L.length (refSheetOk ns L) = sheetsOk ns [] L := by
  rw [Bool.eq_iff_iff, refSheetsOk_iff, rsheetsOk_iff]
  simp
theorem refMay_eq (s : Shelf) : (refBooksB s && refNotesB s && refSheetsB s) = mayS s := by
  unfold refBooksB refNotesB refSheetsB mayS mayHead
  rw [refSheetsOk_eq, show allSheets s = s.notes.flatMap (·.sheets) from rfl]
  generalize allTo s.books.length (bookOk s) = A
  generalize allTo s.notes.length (noteOk s) = B
  generalize sheetsOk s.ns [] (s.notes.flatMap (·.sheets)) = C
  generalize (decide (1 ≤ s.nb) && decide (s.nb ≤ 65536)) = D
  generalize (decide (1 ≤ s.nn) && decide (s.nn ≤ 65536)) = E
  generalize (decide (1 ≤ s.ns) && decide (s.ns ≤ 4096)) = F
  generalize decide (s.books.length ≤ 6) = G
  generalize decide (s.notes.length ≤ 12) = H
  cases A <;> cases B <;> cases C <;> cases D <;> cases E <;> cases F <;> cases G <;> cases H <;> rfl
theorem few_of {s : Shelf} (h : refNotesB s = true) : FewSheets s := by
  unfold refNotesB at h
  rw [Bool.and_eq_true, Bool.and_eq_true, decide_eq_true_eq, allTo_iff] at h
  obtain ⟨⟨h1, -⟩, h2⟩ := h
  refine ⟨by omega, fun n hn => ?_⟩
  obtain ⟨i, hi, rfl⟩ := List.getElem_of_mem hn
  have h3 := h2 i hi
  unfold noteOk at h3
  rw [Bool.and_eq_true] at h3
  have h4 := h3.1
  unfold noteHead at h4
  rw [Bool.and_eq_true, decide_eq_true_eq, show noteAt s i = s.notes[i] from getD_of (List.getElem?_eq_getElem hi)] at h4
  have := h4.2
  omega
set_option maxRecDepth 100000 in
set_option maxHeartbeats 1000000 in
theorem refMay_any (s : Shelf) (bv nv : Value) (w : World) (h : ShelfR w s bv nv) (hz : TameS s) :
    Calls Tryz.prog 10 #[shelfV s bv nv] w fun e w' => e = .returned (.bool (mayS s)) ∧ Grow w w' := by
  have g0 : Grow w (w.alloc (.cells #[.int .i64 s.nb, .int .i64 s.nn, .int .i64 s.ns, bv, nv] 25)) := (Grow.refl w).alloc _
  have c1 := refBooks_any s bv nv _ (h.grow g0) hz
  have cN := fun W (g : Grow w W) => refNotes_any s bv nv W (h.grow g) hz
  have cS := fun W (g : Grow w W) (hf : FewSheets s) => refSheets_any s bv nv W (h.grow g) hf
  have HE := Lib.hid (refMay_eq s)
  have hbox : (w.alloc (.cells #[.int .i64 s.nb, .int .i64 s.nn, .int .i64 s.ns, bv, nv] 25)).heap[w.heap.size]? = some (.cells #[.int .i64 s.nb, .int .i64 s.nn, .int .i64 s.ns, bv, nv] 25 (0, 0)) := heap_alloc_new w _
  obtain ⟨a1, k1, rfl⟩ := h.1.mk
  obtain ⟨a2, k2, rfl⟩ := h.2.mk
  clear h hz
  unfold shelfV at c1 cN cS ⊢
  have HB := Lib.hid hbox
  have hlt : w.heap.size < (w.alloc (.cells #[.int .i64 s.nb, .int .i64 s.nn, .int .i64 s.ns, .slice a1 s.books.length k1, .slice a2 s.notes.length k2] 25)).heap.size := by simp
  have HL := Lib.hid hlt
  clear hbox hlt
  cases e1 : refBooksB s
  · rw [e1] at c1
    have HN := Lib.hid (show mayS s = false by rw [← HE.out, e1]; rfl)
    clear e1 HE
    go_enter Tryz.func10, Tryz.ntmps10
    go_wp2_with fail
    refine c1.mono ?_
    rintro e w1 ⟨rfl, g1⟩
    go_wp2_with fail
    go_ret
    exact ⟨ret_bool HN.out.symm, g0.trans g1⟩
  rw [e1] at c1
  cases e2 : refNotesB s
  · have HN := Lib.hid (show mayS s = false by rw [← HE.out, e2]; simp)
    rw [e2] at cN
    clear e1 e2 HE
    go_enter Tryz.func10, Tryz.ntmps10
    go_wp2_with fail
    refine c1.mono ?_
    rintro e w1 ⟨rfl, g1⟩
    have hb1 := (Below.block g1 _ HL.out).trans HB.out
    have x0 := (cell_of_row w1 w.heap.size 0 _ _ _ hb1).trans rfl
    have x1 := (cell_of_row w1 w.heap.size 1 _ _ _ hb1).trans rfl
    have x2 := (cell_of_row w1 w.heap.size 2 _ _ _ hb1).trans rfl
    have x3 := (cell_of_row w1 w.heap.size 3 _ _ _ hb1).trans rfl
    have x4 := (cell_of_row w1 w.heap.size 4 _ _ _ hb1).trans rfl
    clear hb1
    go_wp2_with fail
    refine (cN w1 (g0.trans g1)).mono ?_
    rintro e w2 ⟨rfl, g2⟩
    go_wp2_with fail
    go_ret
    exact ⟨ret_bool HN.out.symm, (g0.trans g1).trans g2⟩
  have HF := Lib.hid (few_of e2)
  have HN := Lib.hid (show refSheetsB s = mayS s by rw [← HE.out, e1, e2]; rfl)
  rw [e2] at cN
  clear e1 e2 HE
  go_enter Tryz.func10, Tryz.ntmps10
  go_wp2_with fail
  refine c1.mono ?_
  rintro e w1 ⟨rfl, g1⟩
  have hb1 := (Below.block g1 _ HL.out).trans HB.out
  have HB1 := Lib.hid hb1
  have x0 := (cell_of_row w1 w.heap.size 0 _ _ _ hb1).trans rfl
  have x1 := (cell_of_row w1 w.heap.size 1 _ _ _ hb1).trans rfl
  have x2 := (cell_of_row w1 w.heap.size 2 _ _ _ hb1).trans rfl
  have x3 := (cell_of_row w1 w.heap.size 3 _ _ _ hb1).trans rfl
  have x4 := (cell_of_row w1 w.heap.size 4 _ _ _ hb1).trans rfl
  clear hb1
  go_wp2_with fail
  refine (cN w1 (g0.trans g1)).mono ?_
  rintro e w2 ⟨rfl, g2⟩
  clear x0 x1 x2 x3 x4
  have hb2 := (Below.block g2 _ (Array.getElem?_eq_some_iff.1 HB1.out).1).trans HB1.out
  have x0 := (cell_of_row w2 w.heap.size 0 _ _ _ hb2).trans rfl
  have x1 := (cell_of_row w2 w.heap.size 1 _ _ _ hb2).trans rfl
  have x2 := (cell_of_row w2 w.heap.size 2 _ _ _ hb2).trans rfl
  have x3 := (cell_of_row w2 w.heap.size 3 _ _ _ hb2).trans rfl
  have x4 := (cell_of_row w2 w.heap.size 4 _ _ _ hb2).trans rfl
  clear hb2
  go_wp2_with fail
  refine (cS w2 ((g0.trans g1).trans g2) HF.out).mono ?_
  rintro e w3 ⟨rfl, g3⟩
  go_wp2_with fail
  go_ret
  exact ⟨ret_bool HN.out, ((g0.trans g1).trans g2).trans g3⟩
end Go.Proofs.YtnajccljdjllgaaGreatDoor
set_option linter.unusedVariables false
set_option linter.unusedSimpArgs false
namespace Go.Proofs.YtnajccljdjllgaaGreatDoor
open Go.RowKit Go.Lib
set_option maxRecDepth 100000 in
set_option maxHeartbeats 1000000 in
theorem refNote_any (s : Shelf) (bv nv : Value) (n : Int) (w : World) (h : ShelfR w s bv nv) (hz : s.notes.length ≤ 1000000) :
    Calls Tryz.prog 56 #[shelfV s bv nv, .int .i64 n] w fun e w' => e = .returned (.int .i64 (idx (fun b => b.id == n) s.notes)) ∧ Grow w w' := by
  obtain ⟨a1, c1, rfl⟩ := h.1.mk
  obtain ⟨a2, c2, rfl⟩ := h.2.mk
  have HH := Lib.hid h
  clear h
  unfold shelfV
  go_enter Tryz.func56, Tryz.ntmps56
  go_upto_region 1 with (fail)
  generalize hV : w.alloc (.cells #[.int .i64 s.nb, .int .i64 s.nn, .int .i64 s.ns, .slice a1 s.books.length c1, .slice a2 s.notes.length c2] 25) = V
  have gV : Grow w V := by rw [← hV]; exact (Grow.refl w).alloc _
  have q3 : V.cell? ⟨w.heap.size, 4, none⟩ = some (.slice a2 s.notes.length c2) := by rw [← hV]; simp [go_sem]
  clear hV
  go_wp2_with fail
  go_loop [5] (fun v5 => ∃ j : Nat, v5 = .int .i64 j ∧ j ≤ s.notes.length ∧ ∀ (k : Nat) x, k < j → s.notes[k]? = some x → (x.id == n) = false) (fun v5 => s.notes.length - (intOf v5).toNat)
  case atStart => exact ⟨0, rfl, by omega, fun k x h => absurd h (by omega)⟩
  case round =>
    obtain ⟨j, rfl, hj, hall⟩ := hrel
    have HA := Lib.hid hall
    clear hall
    by_cases hlt : j < s.notes.length
    · have hlt' : (j : Int) < s.notes.length := by omega
      obtain ⟨x, hx, -⟩ := lt_get hlt
      obtain ⟨bb, off, tv, sv, rfl, hbb, p0, -, -, -, -, -, -⟩ := (Notes.grow HH.out.2 gV).at hx
      have HX := Lib.hid hx
      clear hx
      cases hp : (x.id == n)
      · have HP := Lib.hid hp
        go_wp2_with fail
        go_round
        case rel => exact ⟨j + 1, by go_num, by omega, fun k y hk hy => by
          rcases (by omega : k < j ∨ k = j) with h3 | rfl
          · exact HA.out k y h3 hy
          · rw [HX.out] at hy; injection hy with hy; rw [← hy]; exact HP.out⟩
        case measure => simp [intOf]; omega
      · have HR := Lib.hid (idx_some (p := fun b : Note => b.id == n) HX.out hp HA.out)
        go_wp2_with fail
        go_ret
        exact ⟨ret_int HR.out.symm, gV⟩
    · have HR := Lib.hid (idx_none (p := fun b : Note => b.id == n) (l := s.notes) (fun k x hx => HA.out k x (by have := (List.getElem?_eq_some_iff.1 hx).1; omega) hx))
      have hlt' : ¬ (j : Int) < s.notes.length := by omega
      go_wp2_with fail
      go_ret
      exact ⟨ret_int HR.out.symm, gV⟩
end Go.Proofs.YtnajccljdjllgaaGreatDoor
set_option linter.unusedVariables false
set_option linter.unusedSimpArgs false
namespace Go.Proofs.YtnajccljdjllgaaGreatDoor
open Go.RowKit Go.Lib
def dupB (id : Int) (t : ByteArray) (x : Book) : Bool := (x.name.toList == t.toList) && (x.id != id)
def bookNE (s : Shelf) (id : Int) (t : ByteArray) : Int := if mayB t = false then 6 else if s.books.any (dupB id t) = true then 7 else 0
def noteNE (s : Shelf) (q id : Int) (t : ByteArray) : Int := if mayB t = false then 6 else if s.notes.any (titleB q t id) = true then 7 else 0
theorem bookNE_cases (s : Shelf) (id : Int) (t : ByteArray) : (bookNE s id t = 6 ∧ mayB t = false) ∨ (bookNE s id t = 7 ∧ mayB t = true ∧ s.books.any (dupB id t) = true) ∨ (bookNE s id t = 0 ∧ mayB t = true ∧ s.books.any (dupB id t) = false) := by
  unfold bookNE; cases mayB t <;> cases s.books.any (dupB id t) <;> simp
theorem noteNE_cases (s : Shelf) (q id : Int) (t : ByteArray) : (noteNE s q id t = 6 ∧ mayB t = false) ∨ (noteNE s q id t = 7 ∧ mayB t = true ∧ s.notes.any (titleB q t id) = true) ∨ (noteNE s q id t = 0 ∧ mayB t = true ∧ s.notes.any (titleB q t id) = false) := by
  unfold noteNE; cases mayB t <;> cases s.notes.any (titleB q t id) <;> simp
theorem any_new {s : Shelf} (h : MayP s) (t : ByteArray) : s.books.any (dupB 0 t) = decide (0 ≤ nameIx s.books t) := by
  rw [Bool.eq_iff_iff, List.any_eq_true, decide_eq_true_eq]
  unfold nameIx
  rw [idx_nonneg]
  constructor
  · rintro ⟨x, hx, h2⟩
    unfold dupB at h2
    rw [Bool.and_eq_true] at h2
    exact ⟨x, hx, h2.1⟩
  · rintro ⟨x, hx, h2⟩
    refine ⟨x, hx, ?_⟩
    have := (h.bid x hx).1
    unfold dupB
    rw [Bool.and_eq_true]
    exact ⟨h2, by simp; omega⟩
theorem any_ren {s : Shelf} (h : MayP s) (t : ByteArray) {id : Int} (hi : 0 ≤ bookIx s id) : s.books.any (dupB id t) = decide (0 ≤ nameIx s.books t ∧ nameIx s.books t ≠ bookIx s id) := by
  rw [Bool.eq_iff_iff, List.any_eq_true, decide_eq_true_eq]
  obtain ⟨y, hy, hyp⟩ := idx_get (p := fun x : Book => x.id == id) (l := s.books) (i := bookIx s id) rfl hi
  have hyid : y.id = id := by simpa using hyp
  constructor
  · rintro ⟨x, hx, h2⟩
    unfold dupB at h2
    rw [Bool.and_eq_true] at h2
    have h0 : 0 ≤ nameIx s.books t := by unfold nameIx; rw [idx_nonneg]; exact ⟨x, hx, h2.1⟩
    refine ⟨h0, fun e => ?_⟩
    obtain ⟨z, hz, hzp⟩ := idx_get (p := fun x : Book => x.name.toList == t.toList) (l := s.books) (i := nameIx s.books t) rfl h0
    rw [e, hy] at hz
    obtain rfl := Option.some.inj hz
    have e1 : y.name = x.name := by rw [toList_eq.1 hzp, toList_eq.1 h2.1]
    have e2 : y = x := by
      obtain ⟨i, hi2⟩ := List.getElem?_of_mem hx
      rcases Nat.lt_trichotomy i (bookIx s id).toNat with h3 | h3 | h3
      · exact absurd e1.symm (pair_get h.bnew hi2 hy h3)
      · rw [h3, hy] at hi2; exact Option.some.inj hi2
      · exact absurd e1 (pair_get h.bnew hy hi2 h3)
    rw [← e2] at h2
    have := h2.2
    simp [hyid] at this
  · rintro ⟨h0, hne⟩
    obtain ⟨z, hz, hzp⟩ := idx_get (p := fun x : Book => x.name.toList == t.toList) (l := s.books) (i := nameIx s.books t) rfl h0
    refine ⟨z, List.mem_of_getElem? hz, ?_⟩
    unfold dupB
    rw [Bool.and_eq_true]
    refine ⟨hzp, ?_⟩
    rw [bne_iff_ne]
    intro e
    have e3 : z = y := h.book_eq (List.mem_of_getElem? hz) (List.mem_of_getElem? hy) (by rw [e, hyid])
    subst e3
    rcases Nat.lt_trichotomy (nameIx s.books t).toNat (bookIx s id).toNat with h3 | h3 | h3
    · have := pair_get h.binc hz hy h3; omega
    · omega
    · have := pair_get h.binc hy hz h3; omega
set_option maxRecDepth 100000 in
set_option maxHeartbeats 2000000 in
theorem refBookName_any (s : Shelf) (bv nv : Value) (id : Int) (t : ByteArray) (w : World) (h : ShelfR w s bv nv) (hz : s.books.length ≤ 1000000) (ht : t.size ≤ 1000000000) :
    Calls Tryz.prog 60 #[shelfV s bv nv, .int .i64 id, .string t] w fun e w' => e = .returned (.int .i64 (bookNE s id t)) ∧ Grow w w' := by
  obtain ⟨a1, c1, rfl⟩ := h.1.mk
  obtain ⟨a2, c2, rfl⟩ := h.2.mk
  have HH := Lib.hid h
  clear h
  have cM := fun W => ref_may t W ht
  unfold shelfV
  go_enter Tryz.func60, Tryz.ntmps60
  go_upto_region 1 with (fail)
  generalize hV : w.alloc (.cells #[.int .i64 s.nb, .int .i64 s.nn, .int .i64 s.ns, .slice a1 s.books.length c1, .slice a2 s.notes.length c2] 25) = V
  have gV : Grow w V := by rw [← hV]; exact (Grow.refl w).alloc _
  have q3 : V.cell? ⟨w.heap.size, 3, none⟩ = some (.slice a1 s.books.length c1) := by rw [← hV]; simp [go_sem]
  have hsz : w.heap.size < V.heap.size := by rw [← hV]; simp
  clear hV
  have c := cM V
  cases hm : mayB t with
  | false =>
    rw [hm] at c
    have HE := Lib.hid (show bookNE s id t = 6 by unfold bookNE; rw [if_pos hm])
    clear hm
    go_wp2_with fail
    refine c.mono ?_
    rintro e w1 ⟨rfl, g1⟩
    subst g1
    go_wp2_with fail
    go_ret
    exact ⟨ret_int HE.out.symm, gV⟩
  | true =>
    rw [hm] at c
    have HM := Lib.hid hm
    clear hm
    go_wp2_with fail
    refine c.mono ?_
    rintro e w1 ⟨rfl, g1⟩
    subst g1
    have gW := gV
    go_wp2_with fail
    go_loop [7] (fun v => ∃ j : Nat, v = .int .i64 j ∧ j ≤ s.books.length ∧ ∀ (k : Nat) x, k < j → s.books[k]? = some x → (dupB id t) x = false) (fun v => s.books.length - (intOf v).toNat)
    case atStart => exact ⟨0, rfl, by omega, fun k x h => absurd h (by omega)⟩
    case round =>
      obtain ⟨j, rfl, hj, hall⟩ := hrel
      have HA := Lib.hid hall
      clear hall
      by_cases hlt : j < s.books.length
      · have hlt' : (j : Int) < s.books.length := by omega
        obtain ⟨x, hx, -⟩ := lt_get hlt
        obtain ⟨bb, off, rfl, hbb, p0, p1⟩ := (HH.out.1.grow gW).at hx
        have HX := Lib.hid hx
        clear hx
        cases h1 : (x.name.toList == t.toList) with
        | false =>
          have HP := Lib.hid (show (dupB id t) x = false by unfold dupB; rw [h1]; rfl)
          go_wp2_with fail
          go_round
          case rel => exact ⟨j + 1, by go_num, by omega, fun k y hk hy => by
            rcases (by omega : k < j ∨ k = j) with h3 | rfl
            · exact HA.out k y h3 hy
            · rw [HX.out] at hy; injection hy with hy; rw [← hy]; exact HP.out⟩
          case measure => simp [intOf]; omega
        | true =>
          cases h2 : (x.id != id) with
          | false =>
            have HP := Lib.hid (show (dupB id t) x = false by unfold dupB; rw [h1, h2]; rfl)
            go_wp2_with fail
            go_round
            case rel => exact ⟨j + 1, by go_num, by omega, fun k y hk hy => by
              rcases (by omega : k < j ∨ k = j) with h3 | rfl
              · exact HA.out k y h3 hy
              · rw [HX.out] at hy; injection hy with hy; rw [← hy]; exact HP.out⟩
            case measure => simp [intOf]; omega
          | true =>
            have HP := Lib.hid (show s.books.any (dupB id t) = true from List.any_eq_true.2 ⟨x, List.mem_of_getElem? HX.out, by unfold dupB; rw [h1, h2]; rfl⟩)
            have HE := Lib.hid (show bookNE s id t = 7 by unfold bookNE; rw [if_neg (by rw [HM.out]; simp), if_pos HP.out])
            go_wp2_with fail
            go_ret
            exact ⟨ret_int HE.out.symm, gW⟩
      · have HP := Lib.hid (show s.books.any (dupB id t) = false from List.any_eq_false.2 fun x hx => by
          obtain ⟨k, hk⟩ := List.getElem?_of_mem hx
          rw [HA.out k x (by have := (List.getElem?_eq_some_iff.1 hk).1; omega) hk]; simp)
        have HE := Lib.hid (show bookNE s id t = 0 by unfold bookNE; rw [if_neg (by rw [HM.out]; simp), if_neg (by rw [HP.out]; simp)])
        have hlt' : ¬ (j : Int) < s.books.length := by omega
        go_wp2_with fail
        go_ret
        exact ⟨ret_int HE.out.symm, gW⟩
set_option maxRecDepth 100000 in
set_option maxHeartbeats 2000000 in
theorem refNoteName_any (s : Shelf) (bv nv : Value) (q : Int) (id : Int) (t : ByteArray) (w : World) (h : ShelfR w s bv nv) (hz : s.notes.length ≤ 1000000) (ht : t.size ≤ 1000000000) :
    Calls Tryz.prog 66 #[shelfV s bv nv, .int .i64 q, .int .i64 id, .string t] w fun e w' => e = .returned (.int .i64 (noteNE s q id t)) ∧ Grow w w' := by
  obtain ⟨a1, c1, rfl⟩ := h.1.mk
  obtain ⟨a2, c2, rfl⟩ := h.2.mk
  have HH := Lib.hid h
  clear h
  have cM := fun W => ref_may t W ht
  unfold shelfV
  go_enter Tryz.func66, Tryz.ntmps66
  go_upto_region 1 with (fail)
  generalize hV : w.alloc (.cells #[.int .i64 s.nb, .int .i64 s.nn, .int .i64 s.ns, .slice a1 s.books.length c1, .slice a2 s.notes.length c2] 25) = V
  have gV : Grow w V := by rw [← hV]; exact (Grow.refl w).alloc _
  have q3 : V.cell? ⟨w.heap.size, 4, none⟩ = some (.slice a2 s.notes.length c2) := by rw [← hV]; simp [go_sem]
  have hsz : w.heap.size < V.heap.size := by rw [← hV]; simp
  clear hV
  have c := cM V
  cases hm : mayB t with
  | false =>
    rw [hm] at c
    have HE := Lib.hid (show noteNE s q id t = 6 by unfold noteNE; rw [if_pos hm])
    clear hm
    go_wp2_with fail
    refine c.mono ?_
    rintro e w1 ⟨rfl, g1⟩
    subst g1
    go_wp2_with fail
    go_ret
    exact ⟨ret_int HE.out.symm, gV⟩
  | true =>
    rw [hm] at c
    have HM := Lib.hid hm
    clear hm
    go_wp2_with fail
    refine c.mono ?_
    rintro e w1 ⟨rfl, g1⟩
    subst g1
    have gW := gV
    go_wp2_with fail
    go_loop [9] (fun v => ∃ j : Nat, v = .int .i64 j ∧ j ≤ s.notes.length ∧ ∀ (k : Nat) x, k < j → s.notes[k]? = some x → (titleB q t id) x = false) (fun v => s.notes.length - (intOf v).toNat)
    case atStart => exact ⟨0, rfl, by omega, fun k x h => absurd h (by omega)⟩
    case round =>
      obtain ⟨j, rfl, hj, hall⟩ := hrel
      have HA := Lib.hid hall
      clear hall
      by_cases hlt : j < s.notes.length
      · have hlt' : (j : Int) < s.notes.length := by omega
        obtain ⟨x, hx, -⟩ := lt_get hlt
        obtain ⟨bb, off, tv, sv, rfl, hbb, p0, p1, p2, -, -, -, -⟩ := (Notes.grow HH.out.2 gW).at hx
        have HX := Lib.hid hx
        clear hx
        cases h1 : (x.name.toList == t.toList) with
        | false =>
          have HP := Lib.hid (show (titleB q t id) x = false by unfold titleB; rw [h1, Bool.and_false, Bool.false_and])
          go_wp2_with fail
          go_round
          case rel => exact ⟨j + 1, by go_num, by omega, fun k y hk hy => by
            rcases (by omega : k < j ∨ k = j) with h3 | rfl
            · exact HA.out k y h3 hy
            · rw [HX.out] at hy; injection hy with hy; rw [← hy]; exact HP.out⟩
          case measure => simp [intOf]; omega
        | true =>
          cases h2 : (x.book == q) with
          | false =>
            have HP := Lib.hid (show (titleB q t id) x = false by unfold titleB; rw [h2, Bool.false_and, Bool.false_and])
            go_wp2_with fail
            go_round
            case rel => exact ⟨j + 1, by go_num, by omega, fun k y hk hy => by
              rcases (by omega : k < j ∨ k = j) with h3 | rfl
              · exact HA.out k y h3 hy
              · rw [HX.out] at hy; injection hy with hy; rw [← hy]; exact HP.out⟩
            case measure => simp [intOf]; omega
          | true =>
            cases h3 : (x.id != id) with
            | false =>
              have HP := Lib.hid (show (titleB q t id) x = false by unfold titleB; rw [h3, Bool.and_false])
              go_wp2_with fail
              go_round
              case rel => exact ⟨j + 1, by go_num, by omega, fun k y hk hy => by
                rcases (by omega : k < j ∨ k = j) with h3 | rfl
                · exact HA.out k y h3 hy
                · rw [HX.out] at hy; injection hy with hy; rw [← hy]; exact HP.out⟩
              case measure => simp [intOf]; omega
            | true =>
              have HP := Lib.hid (show s.notes.any (titleB q t id) = true from List.any_eq_true.2 ⟨x, List.mem_of_getElem? HX.out, by unfold titleB; rw [h1, h2, h3]; rfl⟩)
              have HE := Lib.hid (show noteNE s q id t = 7 by unfold noteNE; rw [if_neg (by rw [HM.out]; simp), if_pos HP.out])
              go_wp2_with fail
              go_ret
              exact ⟨ret_int HE.out.symm, gW⟩
      · have HP := Lib.hid (show s.notes.any (titleB q t id) = false from List.any_eq_false.2 fun x hx => by
          obtain ⟨k, hk⟩ := List.getElem?_of_mem hx
          rw [HA.out k x (by have := (List.getElem?_eq_some_iff.1 hk).1; omega) hk]; simp)
        have HE := Lib.hid (show noteNE s q id t = 0 by unfold noteNE; rw [if_neg (by rw [HM.out]; simp), if_neg (by rw [HP.out]; simp)])
        have hlt' : ¬ (j : Int) < s.notes.length := by omega
        go_wp2_with fail
        go_ret
        exact ⟨ret_int HE.out.symm, gW⟩
end Go.Proofs.YtnajccljdjllgaaGreatDoor
set_option linter.unusedVariables false
set_option linter.unusedSimpArgs false
namespace Go.Proofs.YtnajccljdjllgaaGreatDoor
open Go.RowKit Go.Lib
theorem step_Rd {P : Program} {α : Type} {R : World → α → List Value → Prop} {base : Nat} {ops : Array Oper} {o : Oper} {a : Act} {K : Act → World → Prop} {Q : Exit → Act → World → Prop} {E : Prop} (hgd : o.guard = none) (s x : Operand) (t : TypeId)
    (ho : o.op = .call { callee := .builtin .append, args := #[s, x], argTypes := #[t, t] })
    (e : TypeId) (i : TypeInfo) (z : Value) (k bytes : Nat) (ht : P.underlying t = some (.slice e)) (hi : P.info? e = some i) (hz : i.zero = some z) (hsize : i.size = k) (hby : i.bytes = bytes) (hzs : z.cells.size = k) (hk : 0 < k)
    (v u : Value) (n : Nat) (xs : List Value) (hs : a.eval s = v) (w : World) (h : RowO base e k v n xs w) (hbase : base ≤ w.heap.size) {l : List α} (hx : a.eval x = u) (hr : Reads R k w u l) (h1 : ∀ a cs, R w a cs → ∀ u ∈ cs, u.oneCell' = true) (hn : n + l.length ≤ 1000000000000) (hbytes : bytes ≤ 100)
    (hk' : ∀ v' w', AppRd R base e k w v n xs l v' w' → K (a.put o.dst v') w') : if Region.wanted o (yielded ops a.tmps) = true then Oper.wp P o a w K Q else E := by
  have hw : Region.wanted o (yielded ops a.tmps) = true := by simp [Region.wanted, hgd]
  rw [if_pos hw]
  obtain ⟨v', w', hrun, h2⟩ := run_rd (P := P) (ty := o.type) ht hi hz hsize hby hzs hk h hbase hr h1 hn hbytes
  unfold Oper.wp execOp
  simp only [ho, resolve, invoke, builtin, Sem.run_bind, Sem.run_pure, Result.andThen_ok, List.map_toArray, List.map_cons, List.map_nil, hs, hx, hrun]
  exact hk' _ _ h2
/-- The first i notes' tags, and the first k notes' sheets, are the call's own; the others as they were in w0. -/
structure OwnQ (base : Nat) (bv nv : Value) (X : List Book) (Y : List NV) (i k : Nat) (w0 w : World) : Prop where
  books : RowO base 58 2 bv X.length (X.flatMap bookC) w
  notes : RowO base 46 5 nv Y.length (Y.flatMap noteC) w
  tdone : ∀ (j : Nat) y, j < i → Y[j]? = some y → RowO base 9 1 y.tv y.n.tags.length (strC y.n.tags) w
  sdone : ∀ (j : Nat) y, j < k → Y[j]? = some y → RowO base 3 1 y.sv y.n.sheets.length (intC y.n.sheets) w
  trest : ∀ (j : Nat) y, i ≤ j → Y[j]? = some y → Texts w0 y.tv y.n.tags
  srest : ∀ (j : Nat) y, k ≤ j → Y[j]? = some y → Ints w0 y.sv y.n.sheets
  tsep : ∀ (j q : Nat) y z, j < q → q < i → Y[j]? = some y → Y[q]? = some z → ∀ b, blkOf y.tv = some b → blkOf z.tv ≠ some b
  ssep : ∀ (j q : Nat) y z, j < q → q < k → Y[j]? = some y → Y[q]? = some z → ∀ b, blkOf y.sv = some b → blkOf z.sv ≠ some b
section
variable {base : Nat} {bv nv : Value} {X : List Book} {Y : List NV} {i k : Nat} {w0 w w' : World}
theorem OwnQ.kept (h : OwnQ base bv nv X Y i k w0 w) (kk : KeptS w w') : OwnQ base bv nv X Y i k w0 w' := by
  have one : ∀ {e : TypeId} {c : Nat} {v : Value} {n : Nat} {xs : List Value}, (e = 58 ∨ e = 46 ∨ e = 9 ∨ e = 3) → RowO base e c v n xs w → RowO base e c v n xs w' := fun he hr =>
    hr.kept_of fun g hg => by obtain ⟨-, cur, hc⟩ := hr.blk hg; rw [hc]; exact kk g cur _ he hc
  exact ⟨one (.inl rfl) h.books, one (.inr (.inl rfl)) h.notes, fun j y hj hy => one (.inr (.inr (.inl rfl))) (h.tdone j y hj hy), fun j y hj hy => one (.inr (.inr (.inr rfl))) (h.sdone j y hj hy), h.trest, h.srest, h.tsep, h.ssep⟩
theorem OwnQ.all (h : OwnQ base bv nv X Y i k w0 w) (hi : Y.length ≤ i) (hk : Y.length ≤ k) : OwnS base bv nv X Y w := by
  refine ⟨h.books, h.notes, fun y hy => ?_, fun y hy => ?_, ?_, ?_⟩
  · obtain ⟨j, hj⟩ := List.getElem?_of_mem hy
    exact h.tdone j y (by have := (List.getElem?_eq_some_iff.1 hj).1; omega) hj
  · obtain ⟨j, hj⟩ := List.getElem?_of_mem hy
    exact h.sdone j y (by have := (List.getElem?_eq_some_iff.1 hj).1; omega) hj
  · rw [List.pairwise_iff_getElem]
    intro j q hj hq hjq
    exact h.tsep j q _ _ hjq (by omega) (List.getElem?_eq_getElem hj) (List.getElem?_eq_getElem hq)
  · rw [List.pairwise_iff_getElem]
    intro j q hj hq hjq
    exact h.ssep j q _ _ hjq (by omega) (List.getElem?_eq_getElem hj) (List.getElem?_eq_getElem hq)
/-- A note's cells. -/
theorem OwnQ.note (h : OwnQ base bv nv X Y i k w0 w) {j : Nat} {y : NV} (hy : Y[j]? = some y) {b c : Nat} (e : nv = .slice (some ⟨b, 0, none⟩) Y.length c) (p : Nat) (u : Value) (hu : (noteC y)[p]? = some u) : w.cell? ⟨b, j * 5 + p, none⟩ = some u ∧ w.frozen? ⟨b, j * 5 + p, none⟩ = false ∧ b < w.heap.size := by
  have hp : p < 5 := by have := (List.getElem?_eq_some_iff.1 hu).1; simpa using this
  have hc : (Y.flatMap noteC)[j * 5 + p]? = some u := by rw [flat_get noteC (fun _ => rfl) Y j p y hy hp]; exact hu
  obtain ⟨b', c', e1, h1, h2, h3, -⟩ := h.notes.cell hc
  rw [e] at e1
  injection e1 with e2
  injection e2 with e2
  injection e2 with e2
  subst e2
  exact ⟨h1, h2, h3⟩
theorem OwnQ.start {w1 : World} (hb : RowO base 58 2 bv X.length (X.flatMap bookC) w1) (hn : RowO base 46 5 nv Y.length (Y.flatMap noteC) w1) (hr : ∀ y ∈ Y, Texts w0 y.tv y.n.tags ∧ Ints w0 y.sv y.n.sheets) : OwnQ base bv nv X Y 0 0 w0 w1 :=
  ⟨hb, hn, fun j y hj => absurd hj (by omega), fun j y hj => absurd hj (by omega), fun j y _ hy => (hr y (List.mem_of_getElem? hy)).1, fun j y _ hy => (hr y (List.mem_of_getElem? hy)).2, fun j k y z _ hk => absurd hk (by omega), fun j k y z _ hk => absurd hk (by omega)⟩
theorem OwnQ.tag (h : OwnQ base bv nv X Y i k w0 w) {y : NV} (hy : Y[i]? = some y) (g : Grow w w') {v : Value} (hr : RowO w.heap.size 9 1 v y.n.tags.length (strC y.n.tags) w') (hbase : base ≤ w.heap.size)
    {b c : Nat} (e : nv = .slice (some ⟨b, 0, none⟩) Y.length c) :
    OwnQ base bv nv X (Y.set i { y with tv := v }) (i + 1) k w0 (w'.setCell ⟨b, i * 5 + 3, none⟩ v) ∧ Turned b w' (w'.setCell ⟨b, i * 5 + 3, none⟩ v) ∧ base ≤ b ∧ ∃ cur : Array Value, w'.heap[b]? = some (.cells cur 46 (0, 0)) := by
  have h' := h.kept (.of_grow g)
  have hi := (List.getElem?_eq_some_iff.1 hy).1
  have hc3 : (Y.flatMap noteC)[i * 5 + 3]? = some y.tv := by rw [flat_get noteC (fun _ => rfl) Y i 3 y hy (by decide)]; rfl
  obtain ⟨b1, c1, e1, hb1, hr1, t1, cur1, hcur1⟩ := h'.notes.stored hc3 v
  rw [e] at e1
  injection e1 with e2
  injection e2 with e2
  injection e2 with e2
  subst e2
  rw [flat_set noteC (fun _ => rfl) (y := { y with tv := v }) hy (by decide) rfl] at hr1
  have kk := kept_of_turned hcur1 t1
  have hst : ∀ (j : Nat) z, (Y.set i { y with tv := v })[j]? = some z → (j = i ∧ z = { y with tv := v }) ∨ (j ≠ i ∧ Y[j]? = some z) := fun j z hz => by
    rw [List.getElem?_set] at hz
    by_cases e : i = j
    · rw [if_pos e, if_pos (by omega)] at hz
      exact .inl ⟨e.symm, (Option.some.inj hz).symm⟩
    · rw [if_neg e] at hz; exact .inr ⟨fun e' => e e'.symm, hz⟩
  refine ⟨{ books := h'.books.kept (by decide) kk, notes := by rw [List.length_set]; exact hr1, tdone := fun j z hj hz => ?_, sdone := fun j z hj hz => ?_, trest := fun j z hj hz => ?_, srest := fun j z hj hz => ?_, tsep := fun j q p r hjk hk hp hq bb hb1 hb2' => ?_, ssep := fun j q p r hjk hk hp hq bb hb1 hb2' => ?_ }, t1, ?_, cur1, hcur1⟩
  · rcases hst j z hz with ⟨rfl, rfl⟩ | ⟨hne, hz⟩
    · exact (hr.base_mono hbase).kept (by decide) kk
    · exact (h'.tdone j z (by omega) hz).kept (by decide) kk
  · rcases hst j z hz with ⟨e7, rfl⟩ | ⟨hne, hz⟩
    · subst e7; exact (h'.sdone j y hj hy).kept (by decide) kk
    · exact (h'.sdone j z hj hz).kept (by decide) kk
  · rcases hst j z hz with ⟨rfl, rfl⟩ | ⟨hne, hz⟩
    · omega
    · exact h.trest j z (by omega) hz
  · rcases hst j z hz with ⟨e7, rfl⟩ | ⟨hne, hz⟩
    · subst e7; exact h.srest j y hj hy
    · exact h.srest j z hj hz
  · rcases hst j p hp with ⟨e7, -⟩ | ⟨hne, hp'⟩
    · omega
    rcases hst q r hq with ⟨e7, e8⟩ | ⟨hne2, hq'⟩
    · rw [e8] at hb2'
      have a1 := (h.tdone j p (by omega) hp').blk_lt hb1
      have a2 := (hr.blk hb2').1
      omega
    · exact h.tsep j q p r hjk (by omega) hp' hq' bb hb1 hb2'
  · have key : ∀ (j : Nat) z, (Y.set i { y with tv := v })[j]? = some z → ∃ z', Y[j]? = some z' ∧ z.sv = z'.sv := fun j z hz => by
      rcases hst j z hz with ⟨e7, rfl⟩ | ⟨hne, hz⟩
      · subst e7; exact ⟨y, hy, rfl⟩
      · exact ⟨z, hz, rfl⟩
    obtain ⟨p', hp', e8⟩ := key j p hp
    obtain ⟨r', hr', e9⟩ := key q r hq
    rw [e8] at hb1
    rw [e9] at hb2'
    exact h.ssep j q p' r' hjk hk hp' hr' bb hb1 hb2'
  · exact (h'.notes.blk hb1).1
theorem OwnQ.sheet (h : OwnQ base bv nv X Y i k w0 w) {y : NV} (hy : Y[k]? = some y) (g : Grow w w') {v : Value} (hr : RowO w.heap.size 3 1 v y.n.sheets.length (intC y.n.sheets) w') (hbase : base ≤ w.heap.size)
    {b c : Nat} (e : nv = .slice (some ⟨b, 0, none⟩) Y.length c) :
    OwnQ base bv nv X (Y.set k { y with sv := v }) i (k + 1) w0 (w'.setCell ⟨b, k * 5 + 4, none⟩ v) ∧ Turned b w' (w'.setCell ⟨b, k * 5 + 4, none⟩ v) ∧ base ≤ b ∧ ∃ cur : Array Value, w'.heap[b]? = some (.cells cur 46 (0, 0)) := by
  have h' := h.kept (.of_grow g)
  have hi := (List.getElem?_eq_some_iff.1 hy).1
  have hc3 : (Y.flatMap noteC)[k * 5 + 4]? = some y.sv := by rw [flat_get noteC (fun _ => rfl) Y k 4 y hy (by decide)]; rfl
  obtain ⟨b1, c1, e1, hb1, hr1, t1, cur1, hcur1⟩ := h'.notes.stored hc3 v
  rw [e] at e1
  injection e1 with e2
  injection e2 with e2
  injection e2 with e2
  subst e2
  rw [flat_set noteC (fun _ => rfl) (y := { y with sv := v }) hy (by decide) rfl] at hr1
  have kk := kept_of_turned hcur1 t1
  have hst : ∀ (j : Nat) z, (Y.set k { y with sv := v })[j]? = some z → (j = k ∧ z = { y with sv := v }) ∨ (j ≠ k ∧ Y[j]? = some z) := fun j z hz => by
    rw [List.getElem?_set] at hz
    by_cases e : k = j
    · rw [if_pos e, if_pos (by omega)] at hz
      exact .inl ⟨e.symm, (Option.some.inj hz).symm⟩
    · rw [if_neg e] at hz; exact .inr ⟨fun e' => e e'.symm, hz⟩
  refine ⟨{ books := h'.books.kept (by decide) kk, notes := by rw [List.length_set]; exact hr1, tdone := fun j z hj hz => ?_, sdone := fun j z hj hz => ?_, trest := fun j z hj hz => ?_, srest := fun j z hj hz => ?_, tsep := fun j q p r hjk hk hp hq bb hb1 hb2' => ?_, ssep := fun j q p r hjk hk hp hq bb hb1 hb2' => ?_ }, t1, ?_, cur1, hcur1⟩
  · rcases hst j z hz with ⟨e7, rfl⟩ | ⟨hne, hz⟩
    · subst e7; exact (h'.tdone j y hj hy).kept (by decide) kk
    · exact (h'.tdone j z hj hz).kept (by decide) kk
  · rcases hst j z hz with ⟨rfl, rfl⟩ | ⟨hne, hz⟩
    · exact (hr.base_mono hbase).kept (by decide) kk
    · exact (h'.sdone j z (by omega) hz).kept (by decide) kk
  · rcases hst j z hz with ⟨e7, rfl⟩ | ⟨hne, hz⟩
    · subst e7; exact h.trest j y hj hy
    · exact h.trest j z hj hz
  · rcases hst j z hz with ⟨rfl, rfl⟩ | ⟨hne, hz⟩
    · omega
    · exact h.srest j z (by omega) hz
  · have key : ∀ (j : Nat) z, (Y.set k { y with sv := v })[j]? = some z → ∃ z', Y[j]? = some z' ∧ z.tv = z'.tv := fun j z hz => by
      rcases hst j z hz with ⟨e7, rfl⟩ | ⟨hne, hz⟩
      · subst e7; exact ⟨y, hy, rfl⟩
      · exact ⟨z, hz, rfl⟩
    obtain ⟨p', hp', e8⟩ := key j p hp
    obtain ⟨r', hr', e9⟩ := key q r hq
    rw [e8] at hb1
    rw [e9] at hb2'
    exact h.tsep j q p' r' hjk hk hp' hr' bb hb1 hb2'
  · rcases hst j p hp with ⟨e7, -⟩ | ⟨hne, hp'⟩
    · omega
    rcases hst q r hq with ⟨e7, e8⟩ | ⟨hne2, hq'⟩
    · rw [e8] at hb2'
      have a1 := (h.sdone j p (by omega) hp').blk_lt hb1
      have a2 := (hr.blk hb2').1
      omega
    · exact h.ssep j q p r hjk (by omega) hp' hq' bb hb1 hb2'
  · exact (h'.notes.blk hb1).1
end
theorem turned_cell0 (w : World) (b j : Nat) (u : Value) : Turned b w (w.setCell ⟨b, j, none⟩ u) := ⟨rfl, rfl, rfl, by simp, fun i _ hb => heap_setCell_other w ⟨b, j, none⟩ i u hb⟩
theorem map_set_n {Y : List NV} {i : Nat} {y z : NV} (hy : Y[i]? = some y) (hz : z.n = y.n) : (Y.set i z).map NV.n = Y.map NV.n := by
  apply List.ext_getElem?
  intro j
  rw [List.getElem?_map, List.getElem?_map, List.getElem?_set]
  have hi := (List.getElem?_eq_some_iff.1 hy).1
  by_cases e : i = j
  · subst e; rw [if_pos rfl, if_pos hi, hy]; simp [hz]
  · rw [if_neg e]
structure OwnBQ (s : Shelf) (w : World) (bv nv : Value) (Y : List NV) (i k : Nat) (wx : World) : Prop where
  grow : Grow w wx
  box : wx.heap[w.heap.size]? = some (shB s bv nv)
  res : wx.heap[w.heap.size + 1]? = some (shB ⟨0, 0, 0, [], []⟩ (.slice none 0 0) (.slice none 0 0))
  own : OwnQ w.heap.size bv nv s.books Y i k w wx
  map : Y.map NV.n = s.notes
theorem OwnBQ.drew {s : Shelf} {w wx : World} {bv nv : Value} {Y : List NV} {i k : Nat} (h : OwnBQ s w bv nv Y i k wx) : OwnBQ s w bv nv Y i k wx.drew :=
  ⟨h.grow.drew, (Grow.refl wx).drew.blk h.box, (Grow.refl wx).drew.blk h.res, h.own.kept (.of_grow (Grow.refl wx).drew), h.map⟩
theorem grown_nil {w w' : World} {b : Option Nat} (hb : b = none) (g : w.grownBy w' b) : Grow w w' := by subst hb; exact Below.grown (Grow.refl _) g (Nat.le_refl _) (fun b hb => by cases hb)
theorem copy_begin {s : Shelf} {w V w1 w2 : World} {bv nv : Value} (h : ShelfR w s bv nv) (gV : Grow w V) (hb : V.heap[w.heap.size]? = some (shB s bv nv)) (hr : V.heap[w.heap.size + 1]? = some (shB ⟨0, 0, 0, [], []⟩ (.slice none 0 0) (.slice none 0 0)))
    {v1 v2 : Value} {xs1 xs2 : List Value} (r1 : RowO w.heap.size 58 2 v1 s.books.length xs1 w1) (g1 : Grow V w1) (l1 : xs1.length = s.books.length * 2) (c1 : ∀ (i : Nat) a, s.books[i]? = some a → BookR w a ((xs1.drop (i * 2)).take 2))
    (r2 : RowO w.heap.size 46 5 v2 s.notes.length xs2 w2) (g2 : Grow (w1.setCell ⟨w.heap.size, 3, none⟩ v1) w2) (l2 : xs2.length = s.notes.length * 5) (c2 : ∀ (i : Nat) a, s.notes[i]? = some a → NoteR w a ((xs2.drop (i * 5)).take 5)) :
    ∃ Y, OwnBQ s w v1 v2 Y 0 0 (w2.setCell ⟨w.heap.size, 4, none⟩ v2) := by
  obtain ⟨Y, h1, h2, h3⟩ := notes_cells s.notes xs2 l2 c2
  have e1 := books_cells s.books xs1 l1 c1
  subst e1 h2
  have hb1 := g1.blk hb
  have hr1 := g1.blk hr
  have t1 := turned_cell0 w1 w.heap.size 3 v1
  have hb2 := heap_setCell_same w1 w.heap.size 3 _ _ v1 hb1
  have hlt : w.heap.size + 1 < w1.heap.size := (Array.getElem?_eq_some_iff.1 hr1).1
  have hr2 := (t1.block _ hlt (by omega)).trans hr1
  have hb3 := g2.blk hb2
  have hr3 := g2.blk hr2
  have t2 := turned_cell0 w2 w.heap.size 4 v2
  have hb4 := heap_setCell_same w2 w.heap.size 4 _ _ v2 hb3
  have hlt2 : w.heap.size + 1 < w2.heap.size := (Array.getElem?_eq_some_iff.1 hr3).1
  have hr4 := (t2.block _ hlt2 (by omega)).trans hr3
  have hn : Y.length = s.notes.length := by rw [← h1, List.length_map]
  have k1 : KeptS w1 (w1.setCell ⟨w.heap.size, 3, none⟩ v1) := KeptS.of_turned t1 hb1 (by decide)
  have k2 : KeptS w2 (w2.setCell ⟨w.heap.size, 4, none⟩ v2) := KeptS.of_turned t2 hb3 (by decide)
  have kk := (k1.trans (.of_grow g2)).trans k2
  have one : ∀ {w w' : World} {e : TypeId} {base c : Nat} {v : Value} {n : Nat} {xs : List Value}, KeptS w w' → (e = 58 ∨ e = 46 ∨ e = 9 ∨ e = 3) → RowO base e c v n xs w → RowO base e c v n xs w' := fun k he hr =>
    hr.kept_of fun g hg => by obtain ⟨-, cur, hc⟩ := hr.blk hg; rw [hc]; exact k g cur _ he hc
  refine ⟨Y, t2.grow ((t1.grow (gV.trans g1) (Nat.le_refl _)).trans g2) (Nat.le_refl _), hb4.trans rfl, hr4, OwnQ.start (one kk (.inl rfl) r1) (one k2 (.inr (.inl rfl)) ?_) h3, h1⟩
  rw [hn]; exact r2
theorem copy_tags {s : Shelf} {w wr w1 : World} {bv : Value} {Y : List NV} {i k : Nat} {nb nc : Nat} (hB : OwnBQ s w bv (.slice (some ⟨nb, 0, none⟩) s.notes.length nc) Y i k wr) {y : NV} (hy : Y[i]? = some y) (hnv : (Value.slice (some ⟨nb, 0, none⟩) s.notes.length nc) = .slice (some ⟨nb, 0, none⟩) Y.length nc)
    {v : Value} {xs : List Value} (r : RowO wr.heap.size 9 1 v y.n.tags.length xs w1) (g : Grow wr w1) (l1 : xs.length = y.n.tags.length * 1) (c1 : ∀ (i : Nat) a, y.n.tags[i]? = some a → TextR w a ((xs.drop (i * 1)).take 1)) :
    OwnBQ s w bv (.slice (some ⟨nb, 0, none⟩) s.notes.length nc) (Y.set i { y with tv := v }) (i + 1) k (w1.setCell ⟨nb, i * 5 + 3, none⟩ v) := by
  have e1 := text_cells y.n.tags xs l1 c1
  subst e1
  obtain ⟨h1, h2, h3, cur, h4⟩ := hB.own.tag hy g r hB.grow.size hnv
  have hc := kept_of_turned h4 h2
  exact ⟨h2.grow (hB.grow.trans g) h3, hc _ _ _ _ (by decide) (g.blk hB.box), hc _ _ _ _ (by decide) (g.blk hB.res), h1, (map_set_n (z := { y with tv := v }) hy rfl).trans hB.map⟩
theorem copy_ints {s : Shelf} {w wr w1 : World} {bv : Value} {Y : List NV} {i k : Nat} {nb nc : Nat} (hB : OwnBQ s w bv (.slice (some ⟨nb, 0, none⟩) s.notes.length nc) Y i k wr) {y : NV} (hy : Y[k]? = some y) (hnv : (Value.slice (some ⟨nb, 0, none⟩) s.notes.length nc) = .slice (some ⟨nb, 0, none⟩) Y.length nc)
    {v : Value} {xs : List Value} (r : RowO wr.heap.size 3 1 v y.n.sheets.length xs w1) (g : Grow wr w1) (l1 : xs.length = y.n.sheets.length * 1) (c1 : ∀ (i : Nat) a, y.n.sheets[i]? = some a → IntR w a ((xs.drop (i * 1)).take 1)) :
    OwnBQ s w bv (.slice (some ⟨nb, 0, none⟩) s.notes.length nc) (Y.set k { y with sv := v }) i (k + 1) (w1.setCell ⟨nb, k * 5 + 4, none⟩ v) := by
  have e1 := int_cells y.n.sheets xs l1 c1
  subst e1
  obtain ⟨h1, h2, h3, cur, h4⟩ := hB.own.sheet hy g r hB.grow.size hnv
  have hc := kept_of_turned h4 h2
  exact ⟨h2.grow (hB.grow.trans g) h3, hc _ _ _ _ (by decide) (g.blk hB.box), hc _ _ _ _ (by decide) (g.blk hB.res), h1, (map_set_n (z := { y with sv := v }) hy rfl).trans hB.map⟩
end Go.Proofs.YtnajccljdjllgaaGreatDoor
set_option linter.unusedVariables false
set_option linter.unusedSimpArgs false
namespace Go.Proofs.YtnajccljdjllgaaGreatDoor
open Go.RowKit Go.Lib
set_option maxRecDepth 100000 in
set_option maxHeartbeats 4000000 in
theorem copy_any (s : Shelf) (bv nv : Value) (w : World) (h : ShelfR w s bv nv) (hz : Tame s) :
    Calls Tryz.prog 7 #[shelfV s bv nv] w (RetOwn s w) := by
  obtain ⟨ib, hib, ibz0, ibz1, ibz2⟩ := info_parts info_book
  obtain ⟨inn, hinn, innz0, innz1, innz2⟩ := info_parts info_note
  obtain ⟨it, hit, itz0, itz1, itz2⟩ := info_parts info_text
  obtain ⟨ii, hii, iiz0, iiz1, iiz2⟩ := info_parts info_int
  obtain ⟨a1, c1, rfl⟩ := h.1.mk
  obtain ⟨a2, c2, rfl⟩ := h.2.mk
  have HH := Lib.hid h
  have HZ := Lib.hid hz
  have hnl := hz.2.1
  have hbl := hz.1
  have HXX := Lib.hid (two_boxes2 w (shB s (.slice a1 s.books.length c1) (.slice a2 s.notes.length c2)) (shB ⟨0, 0, 0, [], []⟩ (.slice none 0 0) (.slice none 0 0)))
  clear h hz
  unfold shelfV
  go_enter Tryz.func7, Tryz.ntmps7
  go_upto_region 1 with (fail)
  generalize hV : (w.alloc (.cells #[.int .i64 s.nb, .int .i64 s.nn, .int .i64 s.ns, .slice a1 s.books.length c1, .slice a2 s.notes.length c2] 25)).alloc (.cells #[.int .i64 0, .int .i64 0, .int .i64 0, .slice none 0 0, .slice none 0 0] 25) = V
  have gV : Grow w V := by rw [← hV]; exact ((Grow.refl w).alloc _).alloc _
  have hbx : V.heap[w.heap.size]? = some (shB s (.slice a1 s.books.length c1) (.slice a2 s.notes.length c2)) := by rw [← hV]; exact HXX.out.1
  have hrx : V.heap[w.heap.size + 1]? = some (shB ⟨0, 0, 0, [], []⟩ (.slice none 0 0) (.slice none 0 0)) := by rw [← hV]; exact HXX.out.2
  have HBX := Lib.hid hbx
  have HRX := Lib.hid hrx
  have HGV := Lib.hid gV
  obtain ⟨p0, p1, p2, p3, p4⟩ := sh5 hbx
  have hsz : w.heap.size < V.heap.size := (Array.getElem?_eq_some_iff.1 hbx).1
  clear hV hbx hrx gV
  go_upto_region 2 with (at_builtin; refine app_Rd (R := fun _ => BookR w) (l := s.books) (base := w.heap.size) (by rfl) _ _ 22 (by rfl) 58 ib _ 2 24 Tryz.underlying22 hib ibz0 ibz1 ibz2 (by rfl) (by decide) (.slice none 0 0) (.slice a1 s.books.length c1) 0 [] (by rfl) V .nil HGV.out.size (by rfl) (Reads.hold HH.out.1 HGV.out) (fun a cs hh => one_book w a cs hh) ?_ (by decide) ?_; omega; intro v1 w1 ra; obtain ⟨xs1, rb, gb, -, lb, cb⟩ := ra; rw [Nat.zero_add, List.nil_append] at rb; have g1 := grown_nil rfl gb; obtain ⟨va, vc, e3, -⟩ := rb.slice; subst e3; have hb1 := g1.blk HBX.out; have HRB := Lib.hid rb; have HG1 := Lib.hid g1; have HLB := Lib.hid lb; have HCB := Lib.hid cb; obtain ⟨q0, q1, q2, q3, q4⟩ := sh5 hb1; have qf3 := frozen_of_row w1 w.heap.size 3 _ _ hb1; have hsz1 : w.heap.size < w1.heap.size := (Array.getElem?_eq_some_iff.1 hb1).1; clear rb gb lb cb g1 hb1)
  have hgw : Grow w (w1.setCell ⟨w.heap.size, 3, none⟩ (.slice va s.books.length vc)) := (turned_cell0 w1 w.heap.size 3 (.slice va s.books.length vc)).grow (HGV.out.trans HG1.out) (Nat.le_refl _)
  have hb2 := heap_setCell_same w1 w.heap.size 3 _ _ (.slice va s.books.length vc) (HG1.out.blk HBX.out)
  have hb2' : (w1.setCell ⟨w.heap.size, 3, none⟩ (.slice va s.books.length vc)).heap[w.heap.size]? = some (shB s (.slice va s.books.length vc) (.slice a2 s.notes.length c2)) := hb2
  generalize hW2 : w1.setCell ⟨w.heap.size, 3, none⟩ (.slice va s.books.length vc) = W2 at *
  have HW2 := Lib.hid hW2
  have HGW := Lib.hid hgw
  have HB2 := Lib.hid hb2'
  clear p0 p1 p2 p3 p4 q0 q1 q2 q3 q4 qf3 hsz1 hsz hb2 hgw hW2
  obtain ⟨p0, p1, p2, p3, p4⟩ := sh5 hb2'
  have hsz : w.heap.size < W2.heap.size := (Array.getElem?_eq_some_iff.1 hb2').1
  clear hb2'
  go_upto_region 3 with (at_builtin; refine app_Rd (R := fun _ => NoteR w) (l := s.notes) (base := w.heap.size) (by rfl) _ _ 23 (by rfl) 46 inn _ 5 80 Tryz.underlying23 hinn innz0 innz1 innz2 (by rfl) (by decide) (.slice none 0 0) (.slice a2 s.notes.length c2) 0 [] (by rfl) W2 .nil HGW.out.size (by rfl) (Reads.hold HH.out.2 HGW.out) (fun a cs hh => one_note w a cs hh) ?_ (by decide) ?_; omega; intro v1 w3 ra; obtain ⟨xs2, rb, gb, -, lb, cb⟩ := ra; rw [Nat.zero_add, List.nil_append] at rb; have g1 := grown_nil rfl gb; obtain ⟨na, nc, e3, -⟩ := rb.slice; subst e3; have hb1 := g1.blk HB2.out; have HRN := Lib.hid rb; have HG3 := Lib.hid g1; have HLN := Lib.hid lb; have HCN := Lib.hid cb; obtain ⟨q0, q1, q2, q3, q4⟩ := sh5 hb1; have qf4 := frozen_of_row w3 w.heap.size 4 _ _ hb1; have hsz3 : w.heap.size < w3.heap.size := (Array.getElem?_eq_some_iff.1 hb1).1; clear rb gb lb cb g1 hb1)
  obtain ⟨Y0, hb0⟩ := copy_begin HH.out HGV.out HBX.out HRX.out HRB.out HG1.out HLB.out HCB.out HRN.out (by rw [HW2.out]; exact HG3.out) HLN.out HCN.out
  generalize w3.setCell ⟨w.heap.size, 4, none⟩ (.slice na s.notes.length nc) = W4 at *
  have HB0 := Lib.hid hb0
  clear p0 p1 p2 p3 p4 q0 q1 q2 q3 q4 qf4 hsz3 hsz HB2 HGW HW2 HBX HRX HRB HG1 HLB HCB HRN HG3 HLN HCN
  obtain ⟨k0, k1, k2, k3, k4⟩ := sh5 hb0.box
  have hw0 : w.heap.size < W4.heap.size := (Array.getElem?_eq_some_iff.1 hb0.box).1
  clear hb0
  go_wp2_with fail
  go_loopw [3] (fun v3 wx => ∃ i : Nat, v3 = .int .i64 i ∧ i ≤ s.notes.length ∧ ∃ Y, OwnBQ s w (.slice va s.books.length vc) (.slice na s.notes.length nc) Y i i wx) (fun v3 _ => s.notes.length - (Go.RowKit.intOf v3).toNat)
  case atStart => exact ⟨0, rfl, by omega, _, HB0.out⟩
  case round =>
    obtain ⟨i, rfl, hi, Y, hb⟩ := hrel
    have HB := Lib.hid hb
    obtain ⟨k0, k1, k2, k3, k4⟩ := sh5 hb.box
    have hw1 : w.heap.size < wr.heap.size := (Array.getElem?_eq_some_iff.1 hb.box).1
    have hYl : Y.length = s.notes.length := by rw [← hb.map, List.length_map]
    have HYL := Lib.hid hYl
    by_cases hlt : i < s.notes.length
    · have hlt' : (i : Int) < s.notes.length := by omega
      obtain ⟨y, hy, -⟩ := lt_get (l := Y) (i := i) (by omega)
      have HY := Lib.hid hy
      have hyn : s.notes[i]? = some y.n := by rw [← hb.map, List.getElem?_map, hy]; rfl
      obtain ⟨z1, z2, z3, z4⟩ := HZ.out.note hyn
      have hty := hb.own.trest i y (Nat.le_refl _) hy
      have hsy := hb.own.srest i y (Nat.le_refl _) hy
      have hnb : ∃ b, na = some ⟨b, 0, none⟩ := by
        have hc : (Y.flatMap noteC)[i * 5 + 3]? = some y.tv := by rw [flat_get noteC (fun _ => rfl) Y i 3 y hy (by decide)]; rfl
        obtain ⟨b, c, e, -⟩ := hb.own.notes.cell hc
        injection e with e; exact ⟨b, e⟩
      obtain ⟨nb, rfl⟩ := hnb
      have HNV := Lib.hid (show (Value.slice (some ⟨nb, 0, none⟩) s.notes.length nc) = .slice (some ⟨nb, 0, none⟩) Y.length nc by rw [hYl])
      have q3 := hb.own.note hy HNV.out 3 _ rfl
      obtain ⟨ta, tc, etv⟩ := hty.mk
      obtain ⟨sa, sc, esv⟩ := hsy.mk
      have HTV := Lib.hid etv
      have HSV := Lib.hid esv
      have HTR := Lib.hid (Reads.hold hty (hb.grow.trans (Grow.refl wr).drew))
      rw [etv] at HTR
      rw [etv] at q3
      have q3c := q3.1
      have q3f := q3.2.1
      have hnbz := q3.2.2
      clear hb hYl hy hyn hty hsy etv esv q3 HB0
      go_upto_region 6 with (fail)
      go_region_law (refine step_Rd (R := fun _ => TextR w) (l := y.n.tags) (base := wr.heap.size) (by rfl) _ _ 43 (by rfl) 9 it _ 1 16 Tryz.underlying43 hit itz0 itz1 itz2 (by rfl) (by decide) (.slice none 0 0) (.slice ta y.n.tags.length tc) 0 [] (by rfl) wr.drew .nil (Grow.refl wr).drew.size (by rfl) HTR.out (fun a cs hh => one_text w a cs hh) ?_ (by decide) ?_; (rw [Nat.zero_add]; omega); intro v' w4 ra; obtain ⟨xs1, rb, gb, -, lb, cb⟩ := ra; rw [Nat.zero_add, List.nil_append] at rb; have g1 := Grow.trans (Grow.refl wr).drew (grown_nil rfl gb); obtain ⟨va1, vc1, e3, -⟩ := rb.slice; subst e3; have HB1 := Lib.hid (copy_tags HB.out HY.out HNV.out rb g1 lb cb); have hb1 := Grow.blk g1 HB.out.box; obtain ⟨m0, m1, m2, m3, m4⟩ := sh5 hb1; have hz4 := Nat.lt_of_lt_of_le hw1 g1.size; have hz5 := Nat.lt_of_lt_of_le hnbz g1.size; have m5 := (g1.cells nb (i * 5 + 3) hnbz).trans q3c; have m6 := (g1.marks nb (i * 5 + 3) hnbz).trans q3f; clear rb gb lb cb g1 hb1)
      all_goals
        generalize w4.setCell ⟨nb, i * 5 + 3, none⟩ (.slice va1 y.n.tags.length vc1) = W5 at *
        clear k0 k1 k2 k3 k4 m0 m1 m2 m3 m4 m5 m6 hz4 hz5 q3c q3f hnbz HTR
        have hb5 := HB1.out
        have hy5 : (Y.set i { y with tv := .slice va1 y.n.tags.length vc1 })[i]? = some { y with tv := .slice va1 y.n.tags.length vc1 } := List.getElem?_set_self (List.getElem?_eq_some_iff.1 HY.out).1
        have HNV5 := Lib.hid (show (Value.slice (some ⟨nb, 0, none⟩) s.notes.length nc) = .slice (some ⟨nb, 0, none⟩) (Y.set i { y with tv := .slice va1 y.n.tags.length vc1 }).length nc by rw [List.length_set, HYL.out])
        have q4 := hb5.own.note hy5 HNV5.out 4 _ rfl
        have hsy := hb5.own.srest i _ (Nat.le_refl _) hy5
        have HSR := Lib.hid (Reads.hold hsy (hb5.grow.trans (Grow.refl W5).drew))
        replace q4 : W5.cell? ⟨nb, i * 5 + 4, none⟩ = some (.slice sa y.n.sheets.length sc) ∧ W5.frozen? ⟨nb, i * 5 + 4, none⟩ = false ∧ nb < W5.heap.size := by rw [← HSV.out]; exact q4
        replace HSR : Hid (Reads (fun _ => IntR w) 1 W5.drew (.slice sa y.n.sheets.length sc) y.n.sheets) := by rw [← HSV.out]; exact HSR
        have q4c := q4.1
        have q4f := q4.2.1
        have hnbz := q4.2.2
        have HY5 := Lib.hid hy5
        obtain ⟨k0, k1, k2, k3, k4⟩ := sh5 hb5.box
        have hw5 : w.heap.size < W5.heap.size := (Array.getElem?_eq_some_iff.1 hb5.box).1
        clear hb5 q4 hsy hy5
        go_upto_region 7 with (fail)
        go_region_law (refine step_Rd (R := fun _ => IntR w) (l := y.n.sheets) (base := W5.heap.size) (by rfl) _ _ 44 (by rfl) 3 ii _ 1 8 Tryz.underlying44 hii iiz0 iiz1 iiz2 (by rfl) (by decide) (.slice none 0 0) (.slice sa y.n.sheets.length sc) 0 [] (by rfl) W5.drew .nil (Grow.refl W5).drew.size (by rfl) HSR.out (fun a cs hh => one_int w a cs hh) ?_ (by decide) ?_; (rw [Nat.zero_add]; omega); intro v' w4 ra; obtain ⟨xs1, rb, gb, -, lb, cb⟩ := ra; rw [Nat.zero_add, List.nil_append] at rb; have g1 := Grow.trans (Grow.refl W5).drew (grown_nil rfl gb); obtain ⟨va2, vc2, e3, -⟩ := rb.slice; subst e3; have HB6 := Lib.hid (copy_ints HB1.out HY5.out HNV5.out rb g1 lb cb); have hb1 := Grow.blk g1 HB1.out.box; obtain ⟨m0, m1, m2, m3, m4⟩ := sh5 hb1; have hz4 := Nat.lt_of_lt_of_le hw5 g1.size; have hz5 := Nat.lt_of_lt_of_le hnbz g1.size; have m5 := (g1.cells nb (i * 5 + 4) hnbz).trans q4c; have m6 := (g1.marks nb (i * 5 + 4) hnbz).trans q4f; clear rb gb lb cb g1 hb1)
        all_goals
          go_wp2_with fail
          go_roundw
          case rel => exact ⟨i + 1, by go_num, by omega, _, HB6.out⟩
          case measure => simp [Go.RowKit.intOf]; omega
    · have hlt' : ¬ (i : Int) < s.notes.length := by omega
      obtain ⟨e0, e1, e2, e3, e4⟩ := sh5 hb.res
      have f0 := frozen_of_row wr (w.heap.size + 1) 0 _ _ hb.res
      have f1 := frozen_of_row wr (w.heap.size + 1) 1 _ _ hb.res
      have f2 := frozen_of_row wr (w.heap.size + 1) 2 _ _ hb.res
      have f3 := frozen_of_row wr (w.heap.size + 1) 3 _ _ hb.res
      have f4 := frozen_of_row wr (w.heap.size + 1) 4 _ _ hb.res
      have hi' : Y.length ≤ i := by omega
      have HOD := Lib.hid (show OwnD2 w.heap.size (.slice va s.books.length vc) (.slice na s.notes.length nc) s.books Y w (w.heap.size + 1) wr from ⟨hb.grow, hb.own.all hi' hi', _, hb.res⟩)
      have HMP := Lib.hid hb.map
      have hw2 : w.heap.size + 1 < wr.heap.size := (Array.getElem?_eq_some_iff.1 hb.res).1
      clear hb hYl HB0 hi'
      go_wp2_with fail
      refine bodyPost_ret (v := .agg #[.int .i64 s.nb, .int .i64 s.nn, .int .i64 s.ns, .slice va s.books.length vc, .slice na s.notes.length nc]) ?_ rfl ?_
      · rw [results_cell rfl]
        go_simp
      · have hfin : ∀ W', OwnD2 w.heap.size (.slice va s.books.length vc) (.slice na s.notes.length nc) s.books Y w (w.heap.size + 1) W' → RetOwn s w (.returned (.agg #[.int .i64 s.nb, .int .i64 s.nn, .int .i64 s.ns, .slice va s.books.length vc, .slice na s.notes.length nc])) W' := fun W' hW => ⟨_, _, Y, rfl, hW.2.1, HMP.out, hW.1⟩
        refine hfin _ ?_
        repeat' (first | with_reducible exact HOD.out | with_reducible refine OwnD2.set ?_ (by omega) _ _)
end Go.Proofs.YtnajccljdjllgaaGreatDoor
set_option linter.unusedVariables false
set_option linter.unusedSimpArgs false
namespace Go.Proofs.YtnajccljdjllgaaGreatDoor
open Go.RowKit Go.Lib
theorem grown_of_grow {w w' : World} (g : Grow w w') (b : Option Nat) : w.grownBy w' b := ⟨g.os, g.tape, g.output, g.size, fun k hk _ => g.block k hk⟩
theorem flat_drop {α : Type} (enc : α → List Value) {k : Nat} (hk : ∀ x, (enc x).length = k) : ∀ (l : List α) (i : Nat), (l.flatMap enc).drop (i * k) = (l.drop i).flatMap enc
  | l, 0 => by simp
  | [], i + 1 => by simp
  | x :: l, i + 1 => by
    rw [List.drop_succ_cons, ← flat_drop enc hk l i, List.flatMap_cons, Nat.add_mul, Nat.one_mul, Nat.add_comm, ← hk x, List.drop_append]
    simp [hk x]
theorem erase_cat {α : Type} (l : List α) (i : Nat) : l.eraseIdx i = l.take i ++ l.drop (i + 1) := List.eraseIdx_eq_take_drop_succ l i
theorem map_erase {α β : Type} (f : α → β) (l : List α) (i : Nat) : (l.eraseIdx i).map f = (l.map f).eraseIdx i := by rw [erase_cat, erase_cat, List.map_append, List.map_take, List.map_drop]
theorem erase_len {α : Type} {l : List α} {i : Nat} (h : i < l.length) : (l.eraseIdx i).length = i + (l.length - (i + 1)) := by rw [List.length_eraseIdx_of_lt h]; omega
section
variable {P : Program}
/-- What the append leaves. -/
def Erased {α : Type} (enc : α → List Value) (base : Nat) (e : TypeId) (k : Nat) (w : World) (b : Nat) (l : List α) (i : Nat) (v' : Value) (w' : World) : Prop :=
  RowO base e k v' (l.eraseIdx i).length ((l.eraseIdx i).flatMap enc) w' ∧ w.grownBy w' (some b) ∧ ∀ g, blkOf v' = some g → g = b ∨ w.heap.size ≤ g
theorem run_erase {α : Type} (enc : α → List Value) {t ty e : TypeId} {i0 : TypeInfo} {z : Value} {k bytes : Nat} (hk : ∀ x, (enc x).length = k) (ht : P.underlying t = some (.slice e)) (hi : P.info? e = some i0) (hz : i0.zero = some z) (hsize : i0.size = k) (hby : i0.bytes = bytes) (hzs : z.cells.size = k) (h0 : 0 < k)
    {base b c i n : Nat} {l : List α} {w : World} (h : RowO base e k (.slice (some ⟨b, 0, none⟩) n c) n (l.flatMap enc) w) (hn : l.length = n) (hil : i < n) (hbase : base ≤ w.heap.size) (h1 : ∀ x ∈ l, ∀ u ∈ enc x, u.oneCell' = true) (hz : n ≤ 1000000) (hbytes : bytes ≤ 100)
    (ad : Option Addr) (m c' : Nat) (hm : m = n - (i + 1)) (had : i + 1 < n → ad = some ⟨b, (i + 1) * k, none⟩) :
    ∃ v' w', (Builtin.append_ #[t, t] ty #[.slice (some ⟨b, 0, none⟩) i c, .slice ad m c']).run P w = .ok v' w' ∧ Erased enc base e k w b l i v' w' := by
  subst hn hm
  obtain ⟨a9, c9, e9, hc9⟩ := h.slice
  injection e9 with e1 e2 e3
  subst e3
  cases c with
  | zero => omega
  | succ c0 =>
  obtain ⟨-, cur, hcur⟩ := h.blk (g := b) rfl
  have hcut := h.cut hcur hcur rfl (by omega : i ≤ l.length) (fun j _ => rfl)
  rw [flat_take enc hk] at hcut
  by_cases hlast : i + 1 < l.length
  · rw [had hlast]
    have hnews : ∀ j u, ((l.drop (i + 1)).flatMap enc)[j]? = some u → w.cell? ((⟨b, (i + 1) * k, none⟩ : Addr).add j) = some u := fun j u hj => by
      have : (⟨b, (i + 1) * k, none⟩ : Addr).add j = ⟨b, (i + 1) * k + j, none⟩ := by simp [Addr.add]
      rw [this]
      rw [← flat_drop enc hk, List.getElem?_drop] at hj
      obtain ⟨b', c', e', h2, -⟩ := h.cell hj
      injection e' with e'
      injection e' with e'
      injection e' with e'
      subst e'
      exact h2
    obtain ⟨v', w', hrun, hr, hg, g, hg1, hg2⟩ := run_appO (P := P) (ty := ty) ht hi ‹_› hsize hby hzs h0 hcut hbase ⟨b, (i + 1) * k, none⟩ (l.length - (i + 1)) c' (by omega) ((l.drop (i + 1)).flatMap enc) (by rw [flat_len enc hk, List.length_drop]) hnews (fun u hu => by
      obtain ⟨x, hm, hx⟩ := List.mem_flatMap.1 hu
      exact h1 x (List.mem_of_mem_drop hm) u hx) (by omega) hbytes
    refine ⟨v', w', hrun, ?_, hg, fun g' hg' => ?_⟩
    · rw [erase_len hil, erase_cat, List.flatMap_append]; exact hr
    · rw [hg1] at hg'
      obtain rfl := Option.some.inj hg'
      rcases hg2 with hg2 | hg2
      · exact .inl (Option.some.inj hg2).symm
      · exact .inr hg2
  · have hm0 : l.length - (i + 1) = 0 := by omega
    rw [hm0]
    refine ⟨_, w, append_none ht hi _ ad (by omega) w, ?_, World.grownBy.refl w _, fun g hg => .inl (Option.some.inj hg).symm⟩
    rw [erase_len hil, hm0, erase_cat, List.drop_of_length_le (by omega), List.append_nil]
    exact hcut
theorem step_erase {α : Type} (enc : α → List Value) {ops : Array Oper} {o : Oper} {a : Act} {K : Act → World → Prop} {Q : Exit → Act → World → Prop} {E : Prop} {t e : TypeId} {i0 : TypeInfo} {z : Value} {k bytes : Nat} (hk : ∀ x, (enc x).length = k) (hgd : o.guard = none) (s x : Operand)
    (ho : o.op = .call { callee := .builtin .append, args := #[s, x], argTypes := #[t, t] }) (ht : P.underlying t = some (.slice e)) (hi : P.info? e = some i0) (hz : i0.zero = some z) (hsize : i0.size = k) (hby : i0.bytes = bytes) (hzs : z.cells.size = k) (h0 : 0 < k)
    {base b c i n : Nat} {l : List α} (w : World) (h : RowO base e k (.slice (some ⟨b, 0, none⟩) n c) n (l.flatMap enc) w) (hn : l.length = n) (hil : i < n) (hbase : base ≤ w.heap.size) (h1 : ∀ x ∈ l, ∀ u ∈ enc x, u.oneCell' = true) (hz : n ≤ 1000000) (hbytes : bytes ≤ 100)
    (ad : Option Addr) (m c' : Nat) (hs : a.eval s = .slice (some ⟨b, 0, none⟩) i c) (hx : a.eval x = .slice ad m c') (hm : m = n - (i + 1)) (had : i + 1 < n → ad = some ⟨b, (i + 1) * k, none⟩)
    (hk' : ∀ v' w', Erased enc base e k w b l i v' w' → K (a.put o.dst v') w') : if Region.wanted o (yielded ops a.tmps) = true then Oper.wp P o a w K Q else E := by
  have hw : Region.wanted o (yielded ops a.tmps) = true := by simp [Region.wanted, hgd]
  rw [if_pos hw]
  obtain ⟨v', w', hrun, h2⟩ := run_erase (P := P) (ty := o.type) enc hk ht hi ‹_› hsize hby hzs h0 h hn hil hbase h1 ‹_› hbytes ad m c' hm had
  unfold Oper.wp execOp
  simp only [ho, resolve, invoke, builtin, Sem.run_bind, Sem.run_pure, Result.andThen_ok, List.map_toArray, List.map_cons, List.map_nil, hs, hx, hrun]
  exact hk' _ _ h2
end
theorem nv_sl {base : Nat} {bv nv : Value} {X : List Book} {Y : List NV} {w : World} (h : OwnS base bv nv X Y w) : ∀ x ∈ Y, ∃ ta tn tc sa sn sc, x.tv = .slice ta tn tc ∧ x.sv = .slice sa sn sc := fun x hx => by
  obtain ⟨a, c, e, -⟩ := (h.tags x hx).slice
  obtain ⟨a', c', e', -⟩ := (h.sheets x hx).slice
  exact ⟨a, _, c, a', _, c', e, e'⟩
theorem nv_one {base : Nat} {bv nv : Value} {X : List Book} {Y : List NV} {w : World} (h : OwnS base bv nv X Y w) : ∀ y ∈ Y, ∀ u ∈ noteC y, u.oneCell' = true := fun y hy u hu => by
  obtain ⟨a, c, e, -⟩ := (h.tags y hy).slice
  obtain ⟨a', c', e', -⟩ := (h.sheets y hy).slice
  simp only [noteC, List.mem_cons, List.not_mem_nil, or_false] at hu
  rcases hu with rfl | rfl | rfl | rfl | rfl
  · rfl
  · rfl
  · rfl
  · rw [e]; rfl
  · rw [e']; rfl
theorem erase_filter {α : Type} {p : α → Bool} {l : List α} {i : Nat} {x : α} (hx : l[i]? = some x) (hp : p x = true) (ho : ∀ (j : Nat) y, j ≠ i → l[j]? = some y → p y = false) : l.eraseIdx i = l.filter (fun x => !p x) := by
  have hl := (List.getElem?_eq_some_iff.1 hx).1
  have hsplit : l = l.take i ++ x :: l.drop (i + 1) := by
    have h1 := List.take_append_drop i l
    have h2 : l.drop i = x :: l.drop (i + 1) := by rw [List.drop_eq_getElem_cons hl]; congr 1; exact (List.getElem?_eq_some_iff.1 hx).2
    rw [h2] at h1; exact h1.symm
  rw [erase_cat]
  conv => rhs; rw [hsplit]
  rw [List.filter_append, List.filter_cons, hp]
  have e1 : (l.take i).filter (fun x => !p x) = l.take i := List.filter_eq_self.2 fun y hy => by
    obtain ⟨j, hj⟩ := List.getElem?_of_mem hy
    rw [List.getElem?_take] at hj
    split at hj
    · rw [ho j y (by omega) hj]; rfl
    · cases hj
  have e2 : (l.drop (i + 1)).filter (fun x => !p x) = l.drop (i + 1) := List.filter_eq_self.2 fun y hy => by
    obtain ⟨j, hj⟩ := List.getElem?_of_mem hy
    rw [List.getElem?_drop] at hj
    rw [ho _ y (by omega) hj]; rfl
  rw [e1, e2]; simp
theorem erase_books {s : Shelf} (hp : MayP s) {i : Nat} {x : Book} (hx : s.books[i]? = some x) : s.books.eraseIdx i = s.books.filter fun b => !(b.id == x.id) :=
  erase_filter (p := fun b : Book => b.id == x.id) hx (by simp) fun j y hj hy => by
    rcases Nat.lt_or_gt_of_ne hj with h | h
    · have := pair_get hp.binc hy hx h; simp; omega
    · have := pair_get hp.binc hx hy h; simp; omega
theorem erase_notes {s : Shelf} (hp : MayP s) {i : Nat} {x : Note} (hx : s.notes[i]? = some x) : s.notes.eraseIdx i = s.notes.filter fun b => !(b.id == x.id) :=
  erase_filter (p := fun b : Note => b.id == x.id) hx (by simp) fun j y hj hy => by
    rcases Nat.lt_or_gt_of_ne hj with h | h
    · have := pair_get hp.ninc hy hx h; simp; omega
    · have := pair_get hp.ninc hx hy h; simp; omega
theorem erase_tags {l : List ByteArray} (h : l.Pairwise fun a b => ltS a b = true) {i : Nat} {t : ByteArray} (hx : l[i]? = some t) : l.eraseIdx i = l.filter fun x => !(x.toList == t.toList) :=
  erase_filter (p := fun x : ByteArray => x.toList == t.toList) hx (by simp) fun j y hj hy => toList_ne.2 fun e => by
    subst e
    rcases Nat.lt_or_gt_of_ne hj with h2 | h2
    · have := pair_get h hy hx h2; rw [ltS_irrefl] at this; cases this
    · have := pair_get h hx hy h2; rw [ltS_irrefl] at this; cases this
end Go.Proofs.YtnajccljdjllgaaGreatDoor
set_option linter.unusedVariables false
set_option linter.unusedSimpArgs false
namespace Go.Proofs.YtnajccljdjllgaaGreatDoor
open Go.RowKit Go.Lib
set_option maxRecDepth 100000 in
set_option maxHeartbeats 4000000 in
theorem refMake_any (s : Shelf) (bv nv : Value) (t : ByteArray) (w : World) (h : ShelfR w s bv nv) (hz : TameS s) (ht : t.size ≤ 1000000000) (hT : Tabs w) :
    Calls Tryz.prog 28 #[shelfV s bv nv, .string t] w (RetM (makeR s t) w) := by
  have cM := fun W (g : Grow w W) => refMay_any s bv nv W (h.grow g) hz
  obtain ⟨ib, hib, hbz0, hbz1, hbz2⟩ := info_parts info_book
  have cO := fun W (g : Grow w W) => copy_any s bv nv W (h.grow g) hz.1
  have cN := fun W (g : Grow w W) => refBookName_any s bv nv 0 t W (h.grow g) (by have := hz.1.1; omega) ht
  have hbl := hz.1.1
  have hnl := hz.1.2.1
  obtain ⟨a1, c1, rfl⟩ := h.1.mk
  obtain ⟨a2, c2, rfl⟩ := h.2.mk
  have HXX := Lib.hid (two_boxes2 w (shB s (.slice a1 s.books.length c1) (.slice a2 s.notes.length c2)) (shB ⟨0, 0, 0, [], []⟩ (.slice none 0 0) (.slice none 0 0)))
  clear h hz hT
  unfold shelfV at *
  go_enter Tryz.func28, Tryz.ntmps28
  go_upto_region 1 with (fail)
  generalize hV : (w.alloc (.cells #[.int .i64 s.nb, .int .i64 s.nn, .int .i64 s.ns, .slice a1 s.books.length c1, .slice a2 s.notes.length c2] 25)).alloc (.cells #[.int .i64 0, .int .i64 0, .int .i64 0, .slice none 0 0, .slice none 0 0] 25) = V
  have gV : Grow w V := by rw [← hV]; exact ((Grow.refl w).alloc _).alloc _
  have HBX : Hid (V.heap[w.heap.size]? = some (shB s (.slice a1 s.books.length c1) (.slice a2 s.notes.length c2))) := by rw [← hV]; exact Lib.hid HXX.out.1
  have HRX : Hid (V.heap[w.heap.size + 1]? = some (shB ⟨0, 0, 0, [], []⟩ (.slice none 0 0) (.slice none 0 0))) := by rw [← hV]; exact Lib.hid HXX.out.2
  obtain ⟨⟨p0, p1, p2, p3, p4⟩, hpz⟩ := n5 HBX.out
  clear hV
  have cM1 := cM V gV
  cases hm : mayS s with
  | false =>
    have HM := Lib.hid hm
    rw [hm] at cM1
    clear hm cO
    go_wp2_with fail
    refine cM1.mono ?_
    rintro e w1 ⟨rfl, g1⟩
    clear cM1 p0 p1 p2 p3 p4
    have HE := Lib.hid (show makeR s t = bad 2 from res_bad (by unfold makeE; rw [if_pos HM.out]) (by decide) _ _)
    obtain ⟨⟨e0, e1, e2, e3, e4⟩, hez⟩ := n5 (g1.blk HRX.out)
    have f0 := frozen_of_row _ (w.heap.size + 1) 0 _ _ (g1.blk HRX.out)
    have f1 := frozen_of_row _ (w.heap.size + 1) 1 _ _ (g1.blk HRX.out)
    have f2 := frozen_of_row _ (w.heap.size + 1) 2 _ _ (g1.blk HRX.out)
    have f3 := frozen_of_row _ (w.heap.size + 1) 3 _ _ (g1.blk HRX.out)
    have f4 := frozen_of_row _ (w.heap.size + 1) 4 _ _ (g1.blk HRX.out)
    go_wp2_with fail
    refine bodyPost_ret (v := .tuple #[.agg #[.int .i64 0, .int .i64 0, .int .i64 0, .slice none 0 0, .slice none 0 0], .int .i64 0, .int .i64 2]) ?_ rfl ?_
    · rw [results_cell_tmp2 (P := Tryz.prog) rfl]
      go_simp
    · refine ret_badM HE.out ?_
      repeat' (first | with_reducible exact gV.trans g1 | with_reducible refine Grow.set ?_ (by first | (simp; done) | (simp; omega)) _)
  | true =>
    have HM := Lib.hid hm
    rw [hm] at cM1
    clear hm
    go_wp2_with fail
    refine cM1.mono ?_
    rintro e w1 ⟨rfl, g1⟩
    clear cM1 p0 p1 p2 p3 p4
    obtain ⟨⟨p0, p1, p2, p3, p4⟩, hpz⟩ := n5 (g1.blk HBX.out)
    have cN1 := cN _ (gV.trans g1)
    rcases bookNE_cases s 0 t with ⟨hb, h1⟩ | ⟨hb, h1, h2⟩ | ⟨hb, h1, h2⟩
    · have HN := Lib.hid h1
      rw [hb] at cN1
      clear hb h1 cO
      go_wp2_with fail
      refine cN1.mono ?_
      rintro e wn ⟨rfl, g2⟩
      have gh := g1.trans g2
      clear cN1 g2 p0 p1 p2 p3 p4 hpz
      have HE := Lib.hid (show makeR s t = bad 6 from res_bad (by unfold makeE; rw [if_neg (by rw [HM.out]; simp), if_pos HN.out]) (by decide) _ _)
      obtain ⟨⟨e0, e1, e2, e3, e4⟩, hez⟩ := n5 (gh.blk HRX.out)
      have f0 := frozen_of_row _ (w.heap.size + 1) 0 _ _ (gh.blk HRX.out)
      have f1 := frozen_of_row _ (w.heap.size + 1) 1 _ _ (gh.blk HRX.out)
      have f2 := frozen_of_row _ (w.heap.size + 1) 2 _ _ (gh.blk HRX.out)
      have f3 := frozen_of_row _ (w.heap.size + 1) 3 _ _ (gh.blk HRX.out)
      have f4 := frozen_of_row _ (w.heap.size + 1) 4 _ _ (gh.blk HRX.out)
      go_wp2_with fail
      refine bodyPost_ret (v := .tuple #[.agg #[.int .i64 0, .int .i64 0, .int .i64 0, .slice none 0 0, .slice none 0 0], .int .i64 0, .int .i64 6]) ?_ rfl ?_
      · rw [results_cell_tmp2 (P := Tryz.prog) rfl]
        go_simp
      · refine ret_badM HE.out ?_
        repeat' (first | with_reducible exact gV.trans gh | with_reducible refine Grow.set ?_ (by first | (simp; done) | (simp; omega)) _)
    · have HN := Lib.hid h1
      have HD := Lib.hid h2
      rw [hb] at cN1
      clear hb h1 h2 cO
      go_wp2_with fail
      refine cN1.mono ?_
      rintro e wn ⟨rfl, g2⟩
      have gh := g1.trans g2
      clear cN1 g2 p0 p1 p2 p3 p4 hpz
      have HE := Lib.hid (show makeR s t = bad 7 from res_bad (by unfold makeE; rw [if_neg (by rw [HM.out]; simp), if_neg (by rw [HN.out]; simp), if_pos (by have h9 := (any_new (mayS_iff.1 HM.out) t).symm.trans HD.out; simpa using h9)]) (by decide) _ _)
      obtain ⟨⟨e0, e1, e2, e3, e4⟩, hez⟩ := n5 (gh.blk HRX.out)
      have f0 := frozen_of_row _ (w.heap.size + 1) 0 _ _ (gh.blk HRX.out)
      have f1 := frozen_of_row _ (w.heap.size + 1) 1 _ _ (gh.blk HRX.out)
      have f2 := frozen_of_row _ (w.heap.size + 1) 2 _ _ (gh.blk HRX.out)
      have f3 := frozen_of_row _ (w.heap.size + 1) 3 _ _ (gh.blk HRX.out)
      have f4 := frozen_of_row _ (w.heap.size + 1) 4 _ _ (gh.blk HRX.out)
      go_wp2_with fail
      refine bodyPost_ret (v := .tuple #[.agg #[.int .i64 0, .int .i64 0, .int .i64 0, .slice none 0 0, .slice none 0 0], .int .i64 0, .int .i64 7]) ?_ rfl ?_
      · rw [results_cell_tmp2 (P := Tryz.prog) rfl]
        go_simp
      · refine ret_badM HE.out ?_
        repeat' (first | with_reducible exact gV.trans gh | with_reducible refine Grow.set ?_ (by first | (simp; done) | (simp; omega)) _)
    · have HN := Lib.hid h1
      have HD := Lib.hid h2
      rw [hb] at cN1
      clear hb h1 h2
      go_wp2_with fail
      refine cN1.mono ?_
      rintro e wn ⟨rfl, g2⟩
      have gh := g1.trans g2
      clear cN1 g2 p0 p1 p2 p3 p4 hpz
      obtain ⟨⟨p0, p1, p2, p3, p4⟩, hpz⟩ := n5 (gh.blk HBX.out)
      have HI := Lib.hid (show (0 ≤ nameIx s.books t) = False from eq_false (by have h9 := (any_new (mayS_iff.1 HM.out) t).symm.trans HD.out; simpa using h9))
      have hnb := (mayS_iff.1 HM.out).nb
      by_cases hl : 6 ≤ (s.books.length : Int)
      · have HL := Lib.hid hl
        clear cO
        have HE := Lib.hid (show makeR s t = bad 3 from res_bad (by unfold makeE; rw [if_neg (by rw [HM.out]; simp), if_neg (by rw [HN.out]; simp), if_neg (by rw [HI.out]; simp), if_pos (.inl HL.out)]) (by decide) _ _)
        obtain ⟨⟨e0, e1, e2, e3, e4⟩, hez⟩ := n5 (gh.blk HRX.out)
        have f0 := frozen_of_row _ (w.heap.size + 1) 0 _ _ (gh.blk HRX.out)
        have f1 := frozen_of_row _ (w.heap.size + 1) 1 _ _ (gh.blk HRX.out)
        have f2 := frozen_of_row _ (w.heap.size + 1) 2 _ _ (gh.blk HRX.out)
        have f3 := frozen_of_row _ (w.heap.size + 1) 3 _ _ (gh.blk HRX.out)
        have f4 := frozen_of_row _ (w.heap.size + 1) 4 _ _ (gh.blk HRX.out)
        go_wp2_with fail
        refine bodyPost_ret (v := .tuple #[.agg #[.int .i64 0, .int .i64 0, .int .i64 0, .slice none 0 0, .slice none 0 0], .int .i64 0, .int .i64 3]) ?_ rfl ?_
        · rw [results_cell_tmp2 (P := Tryz.prog) rfl]
          go_simp
        · refine ret_badM HE.out ?_
          repeat' (first | with_reducible exact gV.trans gh | with_reducible refine Grow.set ?_ (by first | (simp; done) | (simp; omega)) _)
      · cases hk : (s.nb == 65536) with
        | true =>
          have HL := Lib.hid (show 65536 ≤ s.nb by rw [beq_iff_eq] at hk; omega)
          clear cO
          have HE := Lib.hid (show makeR s t = bad 3 from res_bad (by unfold makeE; rw [if_neg (by rw [HM.out]; simp), if_neg (by rw [HN.out]; simp), if_neg (by rw [HI.out]; simp), if_pos (.inr HL.out)]) (by decide) _ _)
          obtain ⟨⟨e0, e1, e2, e3, e4⟩, hez⟩ := n5 (gh.blk HRX.out)
          have f0 := frozen_of_row _ (w.heap.size + 1) 0 _ _ (gh.blk HRX.out)
          have f1 := frozen_of_row _ (w.heap.size + 1) 1 _ _ (gh.blk HRX.out)
          have f2 := frozen_of_row _ (w.heap.size + 1) 2 _ _ (gh.blk HRX.out)
          have f3 := frozen_of_row _ (w.heap.size + 1) 3 _ _ (gh.blk HRX.out)
          have f4 := frozen_of_row _ (w.heap.size + 1) 4 _ _ (gh.blk HRX.out)
          go_wp2_with fail
          refine bodyPost_ret (v := .tuple #[.agg #[.int .i64 0, .int .i64 0, .int .i64 0, .slice none 0 0, .slice none 0 0], .int .i64 0, .int .i64 3]) ?_ rfl ?_
          · rw [results_cell_tmp2 (P := Tryz.prog) rfl]
            go_simp
          · refine ret_badM HE.out ?_
            repeat' (first | with_reducible exact gV.trans gh | with_reducible refine Grow.set ?_ (by first | (simp; done) | (simp; omega)) _)
        | false =>
          have hk2 : s.nb < 65536 := by rw [beq_eq_false_iff_ne] at hk; omega
          have HE := Lib.hid (show makeR s t = ⟨{ s with nb := s.nb + 1, books := s.books ++ [⟨s.nb, t⟩] }, s.nb, 0⟩ from resOf_ok (makeE_zero.2 ⟨HM.out, HN.out, by have := HI.out; simp at this; omega, by omega, hk2⟩) _ _)
          have cO1 := cO _ (gV.trans gh)
          go_wp2_with fail
          refine cO1.mono ?_
          rintro e w3 ⟨bv', nv', Y, rfl, ho, hmap, g3⟩
          have hs : StB w w.heap.size (w.heap.size + 1) s.nb s.nn s.ns bv' nv' s.books Y (((((w3.setCell ⟨w.heap.size, 0, none⟩ (.int .i64 s.nb)).setCell ⟨w.heap.size, 1, none⟩ (.int .i64 s.nn)).setCell ⟨w.heap.size, 2, none⟩ (.int .i64 s.ns)).setCell ⟨w.heap.size, 3, none⟩ bv').setCell ⟨w.heap.size, 4, none⟩ nv') := StB.start (s := s) (D := w.heap.size + 1) gV HBX.out HRX.out gh g3 ho ⟨Nat.le_refl _, by omega, by omega⟩
          obtain ⟨ba, bc, ebv, -⟩ := ho.books.slice
          obtain ⟨na, nc, env, -⟩ := ho.notes.slice
          have hYl : Y.length = s.notes.length := by rw [← hmap, List.length_map]
          rw [hYl] at env
          have HMAP := Lib.hid hmap
          have HYL := Lib.hid hYl
          subst ebv env
          obtain ⟨⟨p0', p1', p2', p3', p4'⟩, hpz'⟩ := n5 ((gh.trans g3).blk HBX.out)
          have HF3 := Lib.hid (frozen_of_row w3 w.heap.size 0 _ _ ((gh.trans g3).blk HBX.out))
          have ff : ∀ j, w3.frozen? ⟨w.heap.size, j, none⟩ = false := fun j => frozen_of_row w3 w.heap.size j _ _ ((gh.trans g3).blk HBX.out)
          have ff0 := ff 0
          have ff1 := ff 1
          have ff2 := ff 2
          have ff3 := ff 3
          have ff4 := ff 4
          have HOW3 := Lib.hid ho
          have HG3 := Lib.hid (gh.trans g3)
          have hw3 : w.heap.size < w3.heap.size := hpz'
          clear cO1 cO ho hmap g3 hYl p0 p1 p2 p3 p4 ff
          unfold shelfV
          go_upto_region 9 with (fail)
          generalize ((((w3.setCell ⟨w.heap.size, 0, none⟩ (.int .i64 s.nb)).setCell ⟨w.heap.size, 1, none⟩ (.int .i64 s.nn)).setCell ⟨w.heap.size, 2, none⟩ (.int .i64 s.ns)).setCell ⟨w.heap.size, 3, none⟩ (.slice ba s.books.length bc)).setCell ⟨w.heap.size, 4, none⟩ (.slice na s.notes.length nc) = W at *
          have HS := Lib.hid hs
          obtain ⟨⟨p0, p1, p2, p3, p4⟩, hpz⟩ := hs.five
          have hb3 := hs.boxF 3
          have hb4 := hs.boxF 4
          clear hs p0' p1' p2' p3' p4' ff0 ff1 ff2 ff3 ff4 hpz'
          go_upto_region 11 with (at_builtin; refine app_R (by rfl) _ _ 22 (by rfl) 58 ib _ 2 24 Tryz.underlying22 hib hbz0 hbz1 hbz2 (by rfl) (by decide) (.slice ba s.books.length bc) s.books.length (s.books.flatMap bookC) (by rfl) _ HS.out.own.books HS.out.grow.size (bookC ⟨s.nb, t⟩) rfl ?_ (by rfl) ?_ (by decide) ?_; (intro u hu; simp at hu; rcases hu with rfl | rfl <;> rfl); omega; intro v' w4 ra; obtain ⟨va, vc, e3, -⟩ := ra.1.slice; subst e3; obtain ⟨k3, f3, z3, hs4⟩ := HS.out.book ra; have HS4 := Lib.hid hs4; clear hs4 ra)
          generalize w4.setCell ⟨w.heap.size, 3, none⟩ (.slice va (s.books.length + 1) vc) = W4 at *
          clear p0 p1 p2 p3 p4 hpz hb3 hb4 k3 f3 z3 HS
          obtain ⟨⟨p0, p1, p2, p3, p4⟩, hpz⟩ := HS4.out.five
          have hb0 := HS4.out.boxF 0
          have HS5 := Lib.hid (HS4.out.num0 (s.nb + 1))
          go_upto_region 12 with (fail)
          generalize W4.setCell ⟨w.heap.size, 0, none⟩ (.int .i64 (s.nb + 1)) = W5 at *
          clear p0 p1 p2 p3 p4 hpz hb0 HS4
          obtain ⟨⟨p0, p1, p2, p3, p4⟩, hpz⟩ := HS5.out.five
          obtain ⟨⟨e0, e1, e2, e3, e4⟩, hez⟩ := HS5.out.res5
          have f0 := HS5.out.resF 0
          have f1 := HS5.out.resF 1
          have f2 := HS5.out.resF 2
          have f3 := HS5.out.resF 3
          have f4 := HS5.out.resF 4
          have HOD := Lib.hid HS5.out.fin
          go_wp2_with fail
          refine bodyPost_ret (v := .tuple #[.agg #[.int .i64 (s.nb + 1), .int .i64 s.nn, .int .i64 s.ns, .slice va (s.books.length + 1) vc, .slice na s.notes.length nc], .int .i64 (s.nb), .int .i64 0]) ?_ rfl ?_
          · rw [results_cell_tmp2 (P := Tryz.prog) rfl]
            go_simp
          · refine ret_okM (D := w.heap.size + 1) (s := { s with nb := s.nb + 1, books := s.books ++ [⟨s.nb, t⟩] }) HE.out ?_ HMAP.out
            repeat' (first | with_reducible exact HOD.out | with_reducible refine OwnD2.drew ?_ | with_reducible refine OwnD2.set ?_ (by omega) _ _)
end Go.Proofs.YtnajccljdjllgaaGreatDoor
set_option linter.unusedVariables false
set_option linter.unusedSimpArgs false
namespace Go.Proofs.YtnajccljdjllgaaGreatDoor
open Go.RowKit Go.Lib
set_option maxRecDepth 100000 in
set_option maxHeartbeats 4000000 in
theorem refRename_any (s : Shelf) (bv nv : Value) (id : Int) (t : ByteArray) (w : World) (h : ShelfR w s bv nv) (hz : TameS s) (ht : t.size ≤ 1000000000) (hT : Tabs w) :
    Calls Tryz.prog 30 #[shelfV s bv nv, .int .i64 id, .string t] w (RetC (renameR s id t) w) := by
  have cM := fun W (g : Grow w W) => refMay_any s bv nv W (h.grow g) hz
  have cO := fun W (g : Grow w W) => copy_any s bv nv W (h.grow g) hz.1
  have cB : ∀ W, Grow w W → Calls Tryz.prog 52 #[shelfV s bv nv, .int .i64 id] W fun e w' => e = .returned (.int .i64 (bookIx s id)) ∧ Grow W w' := fun W g => refBook_any s bv nv id W (h.grow g) (by have := hz.1.1; omega)
  have cN := fun W (g : Grow w W) => refBookName_any s bv nv id t W (h.grow g) (by have := hz.1.1; omega) ht
  have hbl := hz.1.1
  have hnl := hz.1.2.1
  have hbd := idx_bd (fun x : Book => x.id == id) s.books
  have hnd := idx_bd (fun x : Note => x.id == id) s.notes
  rw [show idx (fun x : Book => x.id == id) s.books = bookIx s id from rfl] at hbd
  rw [show idx (fun x : Note => x.id == id) s.notes = noteIx s id from rfl] at hnd
  obtain ⟨a1, c1, rfl⟩ := h.1.mk
  obtain ⟨a2, c2, rfl⟩ := h.2.mk
  have HXX := Lib.hid (two_boxes2 w (shB s (.slice a1 s.books.length c1) (.slice a2 s.notes.length c2)) (shB ⟨0, 0, 0, [], []⟩ (.slice none 0 0) (.slice none 0 0)))
  clear h hz hT
  unfold shelfV at *
  go_enter Tryz.func30, Tryz.ntmps30
  go_upto_region 1 with (fail)
  generalize hV : (w.alloc (.cells #[.int .i64 s.nb, .int .i64 s.nn, .int .i64 s.ns, .slice a1 s.books.length c1, .slice a2 s.notes.length c2] 25)).alloc (.cells #[.int .i64 0, .int .i64 0, .int .i64 0, .slice none 0 0, .slice none 0 0] 25) = V
  have gV : Grow w V := by rw [← hV]; exact ((Grow.refl w).alloc _).alloc _
  have HBX : Hid (V.heap[w.heap.size]? = some (shB s (.slice a1 s.books.length c1) (.slice a2 s.notes.length c2))) := by rw [← hV]; exact Lib.hid HXX.out.1
  have HRX : Hid (V.heap[w.heap.size + 1]? = some (shB ⟨0, 0, 0, [], []⟩ (.slice none 0 0) (.slice none 0 0))) := by rw [← hV]; exact Lib.hid HXX.out.2
  obtain ⟨⟨p0, p1, p2, p3, p4⟩, hpz⟩ := n5 HBX.out
  clear hV
  have cM1 := cM V gV
  cases hm : mayS s with
  | false =>
    have HM := Lib.hid hm
    rw [hm] at cM1
    clear hm cO
    go_wp2_with fail
    refine cM1.mono ?_
    rintro e w1 ⟨rfl, g1⟩
    clear cM1 p0 p1 p2 p3 p4
    have HE := Lib.hid (show renameR s id t = bad 2 from res_bad (by unfold renameE; rw [if_pos HM.out]) (by decide) _ _)
    obtain ⟨⟨e0, e1, e2, e3, e4⟩, hez⟩ := n5 (g1.blk HRX.out)
    have f0 := frozen_of_row _ (w.heap.size + 1) 0 _ _ (g1.blk HRX.out)
    have f1 := frozen_of_row _ (w.heap.size + 1) 1 _ _ (g1.blk HRX.out)
    have f2 := frozen_of_row _ (w.heap.size + 1) 2 _ _ (g1.blk HRX.out)
    have f3 := frozen_of_row _ (w.heap.size + 1) 3 _ _ (g1.blk HRX.out)
    have f4 := frozen_of_row _ (w.heap.size + 1) 4 _ _ (g1.blk HRX.out)
    go_wp2_with fail
    refine bodyPost_ret (v := .tuple #[.agg #[.int .i64 0, .int .i64 0, .int .i64 0, .slice none 0 0, .slice none 0 0], .int .i64 2]) ?_ rfl ?_
    · rw [results_cell_tmp rfl]
      go_simp
    · refine ret_badC HE.out ?_
      repeat' (first | with_reducible exact gV.trans g1 | with_reducible refine Grow.set ?_ (by first | (simp; done) | (simp; omega)) _)
  | true =>
    have HM := Lib.hid hm
    rw [hm] at cM1
    clear hm
    go_wp2_with fail
    refine cM1.mono ?_
    rintro e w1 ⟨rfl, g1⟩
    clear cM1 p0 p1 p2 p3 p4
    obtain ⟨⟨p0, p1, p2, p3, p4⟩, hpz⟩ := n5 (g1.blk HBX.out)
    have cB1 := cB _ (gV.trans g1)
    by_cases hi : bookIx s id < 0
    · have HI := Lib.hid hi
      clear cO cN
      go_wp2_with fail
      refine cB1.mono ?_
      rintro e w2 ⟨rfl, g2⟩
      have gg := g1.trans g2
      clear cB1 g2 p0 p1 p2 p3 p4 hpz
      have HE := Lib.hid (show renameR s id t = bad 4 from res_bad (by unfold renameE; rw [if_neg (by rw [HM.out]; simp), if_pos HI.out]) (by decide) _ _)
      obtain ⟨⟨e0, e1, e2, e3, e4⟩, hez⟩ := n5 (gg.blk HRX.out)
      have f0 := frozen_of_row _ (w.heap.size + 1) 0 _ _ (gg.blk HRX.out)
      have f1 := frozen_of_row _ (w.heap.size + 1) 1 _ _ (gg.blk HRX.out)
      have f2 := frozen_of_row _ (w.heap.size + 1) 2 _ _ (gg.blk HRX.out)
      have f3 := frozen_of_row _ (w.heap.size + 1) 3 _ _ (gg.blk HRX.out)
      have f4 := frozen_of_row _ (w.heap.size + 1) 4 _ _ (gg.blk HRX.out)
      go_wp2_with fail
      refine bodyPost_ret (v := .tuple #[.agg #[.int .i64 0, .int .i64 0, .int .i64 0, .slice none 0 0, .slice none 0 0], .int .i64 4]) ?_ rfl ?_
      · rw [results_cell_tmp rfl]
        go_simp
      · refine ret_badC HE.out ?_
        repeat' (first | with_reducible exact gV.trans gg | with_reducible refine Grow.set ?_ (by first | (simp; done) | (simp; omega)) _)
    · have HI := Lib.hid hi
      go_wp2_with fail
      refine cB1.mono ?_
      rintro e w2 ⟨rfl, g2⟩
      have gg := g1.trans g2
      clear cB1 g2 p0 p1 p2 p3 p4 hpz
      obtain ⟨⟨p0, p1, p2, p3, p4⟩, hpz⟩ := n5 (gg.blk HBX.out)
      have cN1 := cN _ (gV.trans gg)
      rcases bookNE_cases s id t with ⟨hb, h1⟩ | ⟨hb, h1, h2⟩ | ⟨hb, h1, h2⟩
      · have HN := Lib.hid h1
        rw [hb] at cN1
        clear hb h1 cO
        go_wp2_with fail
        refine cN1.mono ?_
        rintro e wn ⟨rfl, g2⟩
        have gh := gg.trans g2
        clear cN1 g2 p0 p1 p2 p3 p4 hpz
        have HE := Lib.hid (show renameR s id t = bad 6 from res_bad (by unfold renameE; rw [if_neg (by rw [HM.out]; simp), if_neg (by have := HI.out; omega), if_pos HN.out]) (by decide) _ _)
        obtain ⟨⟨e0, e1, e2, e3, e4⟩, hez⟩ := n5 (gh.blk HRX.out)
        have f0 := frozen_of_row _ (w.heap.size + 1) 0 _ _ (gh.blk HRX.out)
        have f1 := frozen_of_row _ (w.heap.size + 1) 1 _ _ (gh.blk HRX.out)
        have f2 := frozen_of_row _ (w.heap.size + 1) 2 _ _ (gh.blk HRX.out)
        have f3 := frozen_of_row _ (w.heap.size + 1) 3 _ _ (gh.blk HRX.out)
        have f4 := frozen_of_row _ (w.heap.size + 1) 4 _ _ (gh.blk HRX.out)
        go_wp2_with fail
        refine bodyPost_ret (v := .tuple #[.agg #[.int .i64 0, .int .i64 0, .int .i64 0, .slice none 0 0, .slice none 0 0], .int .i64 6]) ?_ rfl ?_
        · rw [results_cell_tmp rfl]
          go_simp
        · refine ret_badC HE.out ?_
          repeat' (first | with_reducible exact gV.trans gh | with_reducible refine Grow.set ?_ (by first | (simp; done) | (simp; omega)) _)
      · have HN := Lib.hid h1
        have HD := Lib.hid h2
        rw [hb] at cN1
        clear hb h1 h2 cO
        go_wp2_with fail
        refine cN1.mono ?_
        rintro e wn ⟨rfl, g2⟩
        have gh := gg.trans g2
        clear cN1 g2 p0 p1 p2 p3 p4 hpz
        have HE := Lib.hid (show renameR s id t = bad 7 from res_bad (by unfold renameE; rw [if_neg (by rw [HM.out]; simp), if_neg (by have := HI.out; omega), if_neg (by rw [HN.out]; simp), if_pos (by have h9 := (any_ren (mayS_iff.1 HM.out) t (by have := HI.out; omega)).symm.trans HD.out; simpa using h9)]) (by decide) _ _)
        obtain ⟨⟨e0, e1, e2, e3, e4⟩, hez⟩ := n5 (gh.blk HRX.out)
        have f0 := frozen_of_row _ (w.heap.size + 1) 0 _ _ (gh.blk HRX.out)
        have f1 := frozen_of_row _ (w.heap.size + 1) 1 _ _ (gh.blk HRX.out)
        have f2 := frozen_of_row _ (w.heap.size + 1) 2 _ _ (gh.blk HRX.out)
        have f3 := frozen_of_row _ (w.heap.size + 1) 3 _ _ (gh.blk HRX.out)
        have f4 := frozen_of_row _ (w.heap.size + 1) 4 _ _ (gh.blk HRX.out)
        go_wp2_with fail
        refine bodyPost_ret (v := .tuple #[.agg #[.int .i64 0, .int .i64 0, .int .i64 0, .slice none 0 0, .slice none 0 0], .int .i64 7]) ?_ rfl ?_
        · rw [results_cell_tmp rfl]
          go_simp
        · refine ret_badC HE.out ?_
          repeat' (first | with_reducible exact gV.trans gh | with_reducible refine Grow.set ?_ (by first | (simp; done) | (simp; omega)) _)
      · have HN := Lib.hid h1
        have HD := Lib.hid h2
        rw [hb] at cN1
        clear hb h1 h2
        go_wp2_with fail
        refine cN1.mono ?_
        rintro e wn ⟨rfl, g2⟩
        have gh := gg.trans g2
        clear cN1 g2 p0 p1 p2 p3 p4 hpz
        obtain ⟨⟨p0, p1, p2, p3, p4⟩, hpz⟩ := n5 (gh.blk HBX.out)
        have hdd : ¬ (0 ≤ nameIx s.books t ∧ nameIx s.books t ≠ bookIx s id) := by have h9 := (any_ren (mayS_iff.1 HM.out) t (by have := HI.out; omega)).symm.trans HD.out; simpa using h9
        have hez : renameE s id t = 0 := renameE_zero.2 ⟨HM.out, by omega, HN.out, by omega⟩
        have HM2 := Lib.hid (mayS_iff.1 HM.out)
        obtain ⟨i, hii⟩ : ∃ i : Nat, bookIx s id = i := ⟨(bookIx s id).toNat, by omega⟩
        obtain ⟨x, hx, hxp⟩ := idx_get (p := fun x : Book => x.id == id) (l := s.books) (i := bookIx s id) rfl (by omega)
        rw [hii, Int.toNat_natCast] at hx
        have hxid : x.id = id := by simpa using hxp
        have HE := Lib.hid (show renameR s id t = ⟨{ s with books := s.books.set i { x with name := t } }, 0, 0⟩ by
          rw [renameR, resOf_ok hez, ← hxid, ← set_updB HM2.out.binc hx t])
        have HX := Lib.hid hx
        have hil : (i : Int) < s.books.length := by have := (List.getElem?_eq_some_iff.1 hx).1; omega
        rw [hii] at hi hbd
        rw [hii]
        clear hez hx hxp hxid hii hdd
        have cO1 := cO _ (gV.trans gh)
        go_wp2_with fail
        refine cO1.mono ?_
        rintro e w3 ⟨bv', nv', Y, rfl, ho, hmap, g3⟩
        have hs : StB w w.heap.size (w.heap.size + 1) s.nb s.nn s.ns bv' nv' s.books Y (((((w3.setCell ⟨w.heap.size, 0, none⟩ (.int .i64 s.nb)).setCell ⟨w.heap.size, 1, none⟩ (.int .i64 s.nn)).setCell ⟨w.heap.size, 2, none⟩ (.int .i64 s.ns)).setCell ⟨w.heap.size, 3, none⟩ bv').setCell ⟨w.heap.size, 4, none⟩ nv') := StB.start (s := s) (D := w.heap.size + 1) gV HBX.out HRX.out gh g3 ho ⟨Nat.le_refl _, by omega, by omega⟩
        obtain ⟨ba, bc, ebv, -⟩ := ho.books.slice
        obtain ⟨na, nc, env, -⟩ := ho.notes.slice
        have hYl : Y.length = s.notes.length := by rw [← hmap, List.length_map]
        rw [hYl] at env
        have HMAP := Lib.hid hmap
        have HYL := Lib.hid hYl
        subst ebv env
        obtain ⟨⟨p0', p1', p2', p3', p4'⟩, hpz'⟩ := n5 ((gh.trans g3).blk HBX.out)
        have HF3 := Lib.hid (frozen_of_row w3 w.heap.size 0 _ _ ((gh.trans g3).blk HBX.out))
        have ff : ∀ j, w3.frozen? ⟨w.heap.size, j, none⟩ = false := fun j => frozen_of_row w3 w.heap.size j _ _ ((gh.trans g3).blk HBX.out)
        have ff0 := ff 0
        have ff1 := ff 1
        have ff2 := ff 2
        have ff3 := ff 3
        have ff4 := ff 4
        have HOW3 := Lib.hid ho
        have HG3 := Lib.hid (gh.trans g3)
        have hw3 : w.heap.size < w3.heap.size := hpz'
        clear cO1 cO ho hmap g3 hYl p0 p1 p2 p3 p4 ff
        unfold shelfV
        go_upto_region 10 with (fail)
        generalize ((((w3.setCell ⟨w.heap.size, 0, none⟩ (.int .i64 s.nb)).setCell ⟨w.heap.size, 1, none⟩ (.int .i64 s.nn)).setCell ⟨w.heap.size, 2, none⟩ (.int .i64 s.ns)).setCell ⟨w.heap.size, 3, none⟩ (.slice ba s.books.length bc)).setCell ⟨w.heap.size, 4, none⟩ (.slice na s.notes.length nc) = W at *
        have HS := Lib.hid hs
        obtain ⟨⟨p0, p1, p2, p3, p4⟩, hpz⟩ := hs.five
        have hb3 := hs.boxF 3
        have hb4 := hs.boxF 4
        clear hs p0' p1' p2' p3' p4' ff0 ff1 ff2 ff3 ff4 hpz'
        obtain ⟨b, cc, ebb, hbz, -, -, hcl⟩ := HS.out.own.book HX.out
        injection ebb with eb1 eb2 eb3
        subst eb1 eb3
        have q1 := (hcl 1 _ rfl).1
        have qf := (hcl 1 _ rfl).2
        have HS2 := Lib.hid (HS.out.setB HX.out t rfl)
        clear hcl
        go_upto_region 11 with (fail)
        generalize W.setCell ⟨b, i * 2 + 1, none⟩ (.string t) = W2 at *
        clear p0 p1 p2 p3 p4 hpz hb3 hb4 HS q1 qf
        obtain ⟨⟨p0, p1, p2, p3, p4⟩, hpz⟩ := HS2.out.five
        obtain ⟨⟨e0, e1, e2, e3, e4⟩, hez⟩ := HS2.out.res5
        have f0 := HS2.out.resF 0
        have f1 := HS2.out.resF 1
        have f2 := HS2.out.resF 2
        have f3 := HS2.out.resF 3
        have f4 := HS2.out.resF 4
        have HOD := Lib.hid HS2.out.fin
        go_wp2_with fail
        refine bodyPost_ret (v := .tuple #[.agg #[.int .i64 s.nb, .int .i64 s.nn, .int .i64 s.ns, .slice (some ⟨b, 0, none⟩) s.books.length bc, .slice na s.notes.length nc], .int .i64 0]) ?_ rfl ?_
        · rw [results_cell_tmp rfl]
          go_simp
        · refine ret_okC (D := w.heap.size + 1) (s := { s with books := s.books.set i { x with name := t } }) HE.out ?_ HMAP.out
          repeat' (first | with_reducible exact HOD.out | with_reducible refine OwnD2.drew ?_ | with_reducible refine OwnD2.set ?_ (by omega) _ _)
end Go.Proofs.YtnajccljdjllgaaGreatDoor
