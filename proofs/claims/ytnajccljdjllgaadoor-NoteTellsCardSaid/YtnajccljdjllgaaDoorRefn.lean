/- The walk of jotterref17.notes. -/
import Derived.Test.YtnajccljdjllgaaDoorRefb
set_option linter.unusedVariables false
set_option linter.unusedSimpArgs false
namespace Go.Proofs.YtnajccljdjllgaaDoor
open Go.RowKit Go.Lib
def refNotesB (s : Shelf) : Bool := decide (s.notes.length ≤ 12) && (decide (1 ≤ s.nn) && decide (s.nn ≤ 65536)) && allTo s.notes.length (noteOk s)
theorem lt_not_le {a : Nat} : decide ((8 : Int) < (a : Int)) = !decide (a ≤ 8) := by
  by_cases h : a ≤ 8
  · rw [decide_eq_true h, decide_eq_false (by omega)]; rfl
  · rw [decide_eq_false h, decide_eq_true (by omega)]; rfl
set_option maxRecDepth 100000 in
set_option maxHeartbeats 4000000 in
theorem refNotes_any (s : Shelf) (bv nv : Value) (w : World) (h : ShelfR w s bv nv) (hz : TameS s) :
    Calls Tryd.prog 101 #[shelfV s bv nv] w fun e w' => e = .returned (.bool (refNotesB s)) ∧ Grow w w' := by
  obtain ⟨a1, c1, rfl⟩ := h.1.mk
  obtain ⟨a2, c2, rfl⟩ := h.2.mk
  have HH := Lib.hid h
  have HZ := Lib.hid hz
  have hlc1 : s.notes.length ≤ c2 := h.2.len.2
  clear h hz
  unfold shelfV
  go_enter Tryd.func101, Tryd.ntmps101
  go_upto_region 1 with (fail)
  generalize hV : w.alloc (.cells #[.int .i64 s.nb, .int .i64 s.nn, .int .i64 s.ns, .slice a1 s.books.length c1, .slice a2 s.notes.length c2] 28) = V
  have gV : Grow w V := by rw [← hV]; exact (Grow.refl w).alloc _
  have hsz : w.heap.size < V.heap.size := by rw [← hV]; simp
  have Q : V.cell? ⟨w.heap.size, 0, none⟩ = some (.int .i64 s.nb) ∧ V.cell? ⟨w.heap.size, 1, none⟩ = some (.int .i64 s.nn) ∧ V.cell? ⟨w.heap.size, 2, none⟩ = some (.int .i64 s.ns) ∧ V.cell? ⟨w.heap.size, 3, none⟩ = some (.slice a1 s.books.length c1) ∧ V.cell? ⟨w.heap.size, 4, none⟩ = some (.slice a2 s.notes.length c2) := by rw [← hV]; simp [go_sem]
  obtain ⟨q0, q1, q2, q3, q4⟩ := Q
  clear hV
  by_cases e1 : s.notes.length ≤ 12
  case neg =>
    have e1' : (12 : Int) < s.notes.length := by omega
    have HN := Lib.hid (show refNotesB s = false by unfold refNotesB; rw [decide_eq_false e1]; rfl)
    go_wp2_with fail
    go_ret
    exact ⟨ret_bool HN.out.symm, gV⟩
  have e1' : ¬ (12 : Int) < s.notes.length := by omega
  by_cases e2 : 1 ≤ s.nn
  case neg =>
    have e2' : s.nn < 1 := by omega
    have HN := Lib.hid (show refNotesB s = false by unfold refNotesB; rw [decide_eq_false e2]; simp)
    go_wp2_with fail
    go_ret
    exact ⟨ret_bool HN.out.symm, gV⟩
  have e2' : ¬ s.nn < 1 := by omega
  by_cases e3 : s.nn ≤ 65536
  case neg =>
    have e3' : 65536 < s.nn := by omega
    have HN := Lib.hid (show refNotesB s = false by unfold refNotesB; rw [decide_eq_false e3]; simp)
    go_wp2_with fail
    go_ret
    exact ⟨ret_bool HN.out.symm, gV⟩
  have e3' : ¬ 65536 < s.nn := by omega
  have HP := Lib.hid (show refNotesB s = allTo s.notes.length (noteOk s) by unfold refNotesB; rw [decide_eq_true e1, decide_eq_true e2, decide_eq_true e3]; rfl)
  go_wp2_with fail
  go_loopw [3] (fun v3 wx => Grow V wx ∧ ∃ j : Nat, v3 = .int .i64 j ∧ j ≤ s.notes.length ∧ ∀ k, k < j → noteOk s k = true) (fun v3 _ => s.notes.length - (intOf v3).toNat)
  case atStart => exact ⟨Grow.refl _, 0, rfl, by omega, fun k h => absurd h (by omega)⟩
  case round =>
    obtain ⟨hgr, j, rfl, hj, hall⟩ := hrel
    have HA := Lib.hid hall
    clear hall
    have gw := gV.trans hgr
    replace q0 := (hgr.cells _ _ hsz).trans q0
    replace q1 := (hgr.cells _ _ hsz).trans q1
    replace q2 := (hgr.cells _ _ hsz).trans q2
    replace q3 := (hgr.cells _ _ hsz).trans q3
    replace q4 := (hgr.cells _ _ hsz).trans q4
    have hsr : w.heap.size < wr.heap.size := by have := hgr.size; omega
    by_cases hlt : j < s.notes.length
    case neg =>
      have hlt' : ¬ (j : Int) < s.notes.length := by omega
      have HR := Lib.hid (show refNotesB s = true by rw [HP.out]; exact allTo_yes (fun k hk => HA.out k (by omega)))
      go_wp2_with fail
      go_ret
      exact ⟨ret_bool HR.out.symm, gw⟩
    have hlt' : (j : Int) < s.notes.length := by omega
    obtain ⟨x, hx, -⟩ := lt_get hlt
    have HR := HH.out.2.grow gw
    obtain ⟨bb, off, tv, sv, rfl, hbb, p0, p1, p2, p3, p4, htv, hsv⟩ := HR.at hx
    obtain ⟨at_, ct, rfl⟩ := htv.mk
    obtain ⟨as_, cs, rfl⟩ := hsv.mk
    have ho : (0 : Int) < j → ∃ z : Note, noteAt s (j - 1) = z ∧ wr.cell? ⟨bb, off + (j - 1) * 5, none⟩ = some (.int .i64 z.id) := by
      intro h0
      obtain ⟨z, hz, -⟩ := lt_get (l := s.notes) (i := j - 1) (by omega)
      obtain ⟨b', off', _, _, e', hb', k0, -⟩ := HR.at hz
      injection e' with e'
      injection e' with e1 e2
      subst e1 e2
      exact ⟨z, getD_of hz, k0⟩
    obtain ⟨t1, t2, t3, t4, t5⟩ := HZ.out.note hx
    have HX := Lib.hid (getD_of (d := (default : Note)) hx)
    clear hx HR
    go_upto_region 7 with (fail)
    generalize hU : wr.alloc (.cells #[.int .i64 x.id, .int .i64 x.book, .string x.name, .slice at_ x.tags.length ct, .slice as_ x.sheets.length cs] 41) = U
    have gU : Grow wr U := by rw [← hU]; exact (Grow.refl wr).alloc _
    have hszU : wr.heap.size < U.heap.size := by rw [← hU]; simp
    have QU : U.cell? ⟨wr.heap.size, 0, none⟩ = some (.int .i64 x.id) ∧ U.cell? ⟨wr.heap.size, 1, none⟩ = some (.int .i64 x.book) ∧ U.cell? ⟨wr.heap.size, 2, none⟩ = some (.string x.name) ∧ U.cell? ⟨wr.heap.size, 3, none⟩ = some (.slice at_ x.tags.length ct) ∧ U.cell? ⟨wr.heap.size, 4, none⟩ = some (.slice as_ x.sheets.length cs) := by rw [← hU]; simp [go_sem]
    obtain ⟨r0, r1, r2, r3, r4⟩ := QU
    clear hU p0 p1 p2 p3 p4
    have u0 := (gU.cells _ 0 hsr).trans q0
    have u1 := (gU.cells _ 1 hsr).trans q1
    have u2 := (gU.cells _ 2 hsr).trans q2
    have u3 := (gU.cells _ 3 hsr).trans q3
    have u4 := (gU.cells _ 4 hsr).trans q4
    have hbU : bb < U.heap.size := by omega
    have hsU : w.heap.size < U.heap.size := by omega
    replace ho : (0 : Int) < j → ∃ z : Note, noteAt s (j - 1) = z ∧ U.cell? ⟨bb, off + (j - 1) * 5, none⟩ = some (.int .i64 z.id) := by
      intro h0
      obtain ⟨z, h1, h2⟩ := ho h0
      exact ⟨z, h1, (gU.cells _ _ hbb).trans h2⟩
    have cM := fun W => ref_may x.name W (by omega)
    have cB := fun y : Gr U => refBook_any s _ _ x.book y.W ((HH.out.grow (gw.trans gU)).grow y.g) HZ.out.1.1
    have cT := fun y : Gr U => refTags_any _ x.tags y.W (Texts.grow (Texts.grow htv gU) y.g) t2 t4
    unfold shelfV at cB
    have HD := Lib.hid (show noteHead s j = ((decide (1 ≤ x.id) && decide (x.id ≤ s.nn - 1)) && (j == 0 || decide ((noteAt s (j - 1)).id < x.id)) && mayB x.name && decide (0 ≤ idx (fun b => b.id == x.book) s.books) && tagsB x.tags && decide (x.sheets.length ≤ 8)) by unfold noteHead noteAt; rw [HX.out])
    clear q0 q1 q2 q3 q4
    go_cut [82] (fun v82 wc => v82 = .bool (!noteHead s j) ∧ Grow U wc)
    case first =>
      clear HA HH HZ HP hgr gw HX gU htv hsv t1 t2 t3 t4 t5
      refine wp_region_gr (by kernel_rfl) (by kernel_rfl) ?_
      repeat (go_big_quiet_step (first | (go_at_call 89; exact Calls.gr_same (cM _)) | (go_at_call 68; exact Calls.gr (cB _)) | (go_at_call 126; exact Calls.gr (cT _))))
      by_cases f1 : x.id < 1
      · rw [decide_eq_true f1]
        repeat (go_big_quiet_step (first | (go_at_call 89; exact Calls.gr_same (cM _)) | (go_at_call 68; exact Calls.gr (cB _)) | (go_at_call 126; exact Calls.gr (cT _))))
        refine wpQuiet_nil ?_
        rintro _ ⟨y, rfl⟩
        go_wp2_with fail
        go_meet
        exact ⟨by rw [HD.out, decide_eq_false (show ¬ 1 ≤ x.id by omega)]; simp, y.g⟩
      rw [decide_eq_false f1]
      repeat (go_big_quiet_step (first | (go_at_call 89; exact Calls.gr_same (cM _)) | (go_at_call 68; exact Calls.gr (cB _)) | (go_at_call 126; exact Calls.gr (cT _))))
      by_cases f2 : s.nn ≤ x.id
      · rw [decide_eq_true f2]
        repeat (go_big_quiet_step (first | (go_at_call 89; exact Calls.gr_same (cM _)) | (go_at_call 68; exact Calls.gr (cB _)) | (go_at_call 126; exact Calls.gr (cT _))))
        refine wpQuiet_nil ?_
        rintro _ ⟨y, rfl⟩
        go_wp2_with fail
        go_meet
        exact ⟨by rw [HD.out, decide_eq_false (show ¬ x.id ≤ s.nn - 1 by omega)]; simp, y.g⟩
      rw [decide_eq_false f2]
      repeat (go_big_quiet_step (first | (go_at_call 89; exact Calls.gr_same (cM _)) | (go_at_call 68; exact Calls.gr (cB _)) | (go_at_call 126; exact Calls.gr (cT _))))
      by_cases f3 : (0 : Int) < j
      · obtain ⟨z, hz, k0⟩ := ho f3
        have hi0 : IntKind.i64.wrap ((j : Int) - 1) = (j : Int) - 1 := IntWalk.i64_in _ (by omega)
        have hi1 : (0 : Int) ≤ (j : Int) - 1 := by omega
        have hi2 : (j : Int) - 1 < s.notes.length := by omega
        have hi3 : ((j : Int) - 1).toNat = j - 1 := by omega
        first | rw [decide_eq_true f3] | rw [decide_eq_true (show 0 < j by omega)]
        repeat (go_big_quiet_step (first | (go_at_call 89; exact Calls.gr_same (cM _)) | (go_at_call 68; exact Calls.gr (cB _)) | (go_at_call 126; exact Calls.gr (cT _))))
        by_cases f4 : x.id ≤ z.id
        · rw [decide_eq_true f4]
          repeat (go_big_quiet_step (first | (go_at_call 89; exact Calls.gr_same (cM _)) | (go_at_call 68; exact Calls.gr (cB _)) | (go_at_call 126; exact Calls.gr (cT _))))
          refine wpQuiet_nil ?_
          rintro _ ⟨y, rfl⟩
          go_wp2_with fail
          go_meet
          exact ⟨by rw [HD.out, hz, decide_eq_false (show ¬ z.id < x.id by omega), show (j == 0) = false by rw [beq_eq_false_iff_ne]; omega]; simp, y.g⟩
        rw [decide_eq_false f4]
        repeat (go_big_quiet_step (first | (go_at_call 89; exact Calls.gr_same (cM _)) | (go_at_call 68; exact Calls.gr (cB _)) | (go_at_call 126; exact Calls.gr (cT _))))
        cases e3 : mayB x.name
        · rw [Bool.not_false]
          repeat (go_big_quiet_step (first | (go_at_call 89; exact Calls.gr_same (cM _)) | (go_at_call 68; exact Calls.gr (cB _)) | (go_at_call 126; exact Calls.gr (cT _))))
          refine wpQuiet_nil ?_
          rintro _ ⟨y, rfl⟩
          go_wp2_with fail
          go_meet
          exact ⟨by rw [HD.out, decide_eq_true (show 1 ≤ x.id by omega), decide_eq_true (show x.id ≤ s.nn - 1 by omega), hz, decide_eq_true (show z.id < x.id by omega), Bool.or_true, e3]; simp, y.g⟩
        rw [Bool.not_true]
        repeat (go_big_quiet_step (first | (go_at_call 89; exact Calls.gr_same (cM _)) | (go_at_call 68; exact Calls.gr (cB _)) | (go_at_call 126; exact Calls.gr (cT _))))
        by_cases e4 : idx (fun b : Book => b.id == x.book) s.books < 0
        · rw [decide_eq_true e4]
          repeat (go_big_quiet_step (first | (go_at_call 89; exact Calls.gr_same (cM _)) | (go_at_call 68; exact Calls.gr (cB _)) | (go_at_call 126; exact Calls.gr (cT _))))
          refine wpQuiet_nil ?_
          rintro _ ⟨y, rfl⟩
          go_wp2_with fail
          go_meet
          exact ⟨by rw [HD.out, decide_eq_true (show 1 ≤ x.id by omega), decide_eq_true (show x.id ≤ s.nn - 1 by omega), hz, decide_eq_true (show z.id < x.id by omega), Bool.or_true, decide_eq_false (show ¬ 0 ≤ idx (fun b : Book => b.id == x.book) s.books by omega)]; simp, y.g⟩
        rw [decide_eq_false e4]
        repeat (go_big_quiet_step (first | (go_at_call 89; exact Calls.gr_same (cM _)) | (go_at_call 68; exact Calls.gr (cB _)) | (go_at_call 126; exact Calls.gr (cT _))))
        cases e5 : tagsB x.tags
        · rw [Bool.not_false]
          repeat (go_big_quiet_step (first | (go_at_call 89; exact Calls.gr_same (cM _)) | (go_at_call 68; exact Calls.gr (cB _)) | (go_at_call 126; exact Calls.gr (cT _))))
          refine wpQuiet_nil ?_
          rintro _ ⟨y, rfl⟩
          go_wp2_with fail
          go_meet
          exact ⟨by rw [HD.out, decide_eq_true (show 1 ≤ x.id by omega), decide_eq_true (show x.id ≤ s.nn - 1 by omega), hz, decide_eq_true (show z.id < x.id by omega), Bool.or_true, e5]; simp, y.g⟩
        rw [Bool.not_true]
        repeat (go_big_quiet_step (first | (go_at_call 89; exact Calls.gr_same (cM _)) | (go_at_call 68; exact Calls.gr (cB _)) | (go_at_call 126; exact Calls.gr (cT _))))
        refine wpQuiet_nil ?_
        rintro _ ⟨y, rfl⟩
        go_wp2_with fail
        go_meet
        exact ⟨by rw [HD.out, decide_eq_true (show 1 ≤ x.id by omega), decide_eq_true (show x.id ≤ s.nn - 1 by omega), hz, decide_eq_true (show z.id < x.id by omega), Bool.or_true, e3, e5, decide_eq_true (show 0 ≤ idx (fun b : Book => b.id == x.book) s.books by omega)]; simp; exact lt_not_le, y.g⟩
      first | rw [decide_eq_false f3] | rw [decide_eq_false (show ¬ 0 < j by omega)]
      repeat (go_big_quiet_step (first | (go_at_call 89; exact Calls.gr_same (cM _)) | (go_at_call 68; exact Calls.gr (cB _)) | (go_at_call 126; exact Calls.gr (cT _))))
      cases e3 : mayB x.name
      · rw [Bool.not_false]
        repeat (go_big_quiet_step (first | (go_at_call 89; exact Calls.gr_same (cM _)) | (go_at_call 68; exact Calls.gr (cB _)) | (go_at_call 126; exact Calls.gr (cT _))))
        refine wpQuiet_nil ?_
        rintro _ ⟨y, rfl⟩
        go_wp2_with fail
        go_meet
        exact ⟨by rw [HD.out, decide_eq_true (show 1 ≤ x.id by omega), decide_eq_true (show x.id ≤ s.nn - 1 by omega), show (j == 0) = true by rw [beq_iff_eq]; omega, Bool.true_or, e3]; simp, y.g⟩
      rw [Bool.not_true]
      repeat (go_big_quiet_step (first | (go_at_call 89; exact Calls.gr_same (cM _)) | (go_at_call 68; exact Calls.gr (cB _)) | (go_at_call 126; exact Calls.gr (cT _))))
      by_cases e4 : idx (fun b : Book => b.id == x.book) s.books < 0
      · rw [decide_eq_true e4]
        repeat (go_big_quiet_step (first | (go_at_call 89; exact Calls.gr_same (cM _)) | (go_at_call 68; exact Calls.gr (cB _)) | (go_at_call 126; exact Calls.gr (cT _))))
        refine wpQuiet_nil ?_
        rintro _ ⟨y, rfl⟩
        go_wp2_with fail
        go_meet
        exact ⟨by rw [HD.out, decide_eq_true (show 1 ≤ x.id by omega), decide_eq_true (show x.id ≤ s.nn - 1 by omega), show (j == 0) = true by rw [beq_iff_eq]; omega, Bool.true_or, decide_eq_false (show ¬ 0 ≤ idx (fun b : Book => b.id == x.book) s.books by omega)]; simp, y.g⟩
      rw [decide_eq_false e4]
      repeat (go_big_quiet_step (first | (go_at_call 89; exact Calls.gr_same (cM _)) | (go_at_call 68; exact Calls.gr (cB _)) | (go_at_call 126; exact Calls.gr (cT _))))
      cases e5 : tagsB x.tags
      · rw [Bool.not_false]
        repeat (go_big_quiet_step (first | (go_at_call 89; exact Calls.gr_same (cM _)) | (go_at_call 68; exact Calls.gr (cB _)) | (go_at_call 126; exact Calls.gr (cT _))))
        refine wpQuiet_nil ?_
        rintro _ ⟨y, rfl⟩
        go_wp2_with fail
        go_meet
        exact ⟨by rw [HD.out, decide_eq_true (show 1 ≤ x.id by omega), decide_eq_true (show x.id ≤ s.nn - 1 by omega), show (j == 0) = true by rw [beq_iff_eq]; omega, Bool.true_or, e5]; simp, y.g⟩
      rw [Bool.not_true]
      repeat (go_big_quiet_step (first | (go_at_call 89; exact Calls.gr_same (cM _)) | (go_at_call 68; exact Calls.gr (cB _)) | (go_at_call 126; exact Calls.gr (cT _))))
      refine wpQuiet_nil ?_
      rintro _ ⟨y, rfl⟩
      go_wp2_with fail
      go_meet
      exact ⟨by rw [HD.out, decide_eq_true (show 1 ≤ x.id by omega), decide_eq_true (show x.id ≤ s.nn - 1 by omega), show (j == 0) = true by rw [beq_iff_eq]; omega, Bool.true_or, e3, e5, decide_eq_true (show 0 ≤ idx (fun b : Book => b.id == x.book) s.books by omega)]; simp; exact lt_not_le, y.g⟩
    case rest =>
      obtain ⟨rfl, gc⟩ := hcut
      have gcU := gU.trans gc
      have gwc := gw.trans gcU
      clear cM cB cT HD
      cases hh : noteHead s j
      · have HN := Lib.hid (show refNotesB s = false by
          rw [HP.out]; exact allTo_no hlt (by unfold noteOk; rw [hh]; rfl))
        clear hh
        go_wp2_with fail
        go_ret
        exact ⟨ret_bool HN.out.symm, gwc⟩
      have HK := Lib.hid (show noteOk s j = allTo j fun k => !((noteAt s k).book == x.book && (noteAt s k).name.toList == x.name.toList) by unfold noteOk; rw [hh, Bool.true_and]; unfold noteNew; rw [show noteAt s j = x from HX.out])
      clear hh
      replace u4 := (gc.cells _ _ hsU).trans u4
      replace r1 := (gc.cells _ _ hszU).trans r1
      replace r2 := (gc.cells _ _ hszU).trans r2
      have y1 : w.heap.size < wc.heap.size := by have := gc.size; omega
      have y2 : wr.heap.size < wc.heap.size := by have := gc.size; omega
      clear u0 u1 u2 u3 r0 r3 r4 ho hbU htv hsv
      generalize hwb : wr.heap.size = wb at *
      go_wp2_with fail
      go_loopw [5] (fun v5 wx => Grow wc wx ∧ ∃ k : Nat, v5 = .int .i64 k ∧ k ≤ j ∧ ∀ m, m < k → (!((noteAt s m).book == x.book && (noteAt s m).name.toList == x.name.toList)) = true) (fun v5 _ => j - (intOf v5).toNat)
      case atStart => exact ⟨Grow.refl _, 0, rfl, by omega, fun m h => absurd h (by omega)⟩
      case round =>
        obtain ⟨hg2, k, rfl, hk, hall2⟩ := hrel
        have HB := Lib.hid hall2
        clear hall2
        have gw2 := gwc.trans hg2
        replace u4 := (hg2.cells _ _ y1).trans u4
        replace r1 := (hg2.cells _ _ y2).trans r1
        replace r2 := (hg2.cells _ _ y2).trans r2
        have y3 : w.heap.size < wr.heap.size := by have := hg2.size; omega
        have y4 : wb < wr.heap.size := by have := hg2.size; omega
        by_cases hkj : k < j
        case neg =>
          have hkj' : ¬ (k : Int) < j := by omega
          have HO := Lib.hid (show noteOk s j = true by
            rw [HK.out]; exact allTo_yes (fun m hm => HB.out m (by omega)))
          go_wp2_with fail
          go_roundw
          case rel => exact ⟨(hgr.trans gcU).trans hg2, j + 1, by go_num, by omega, fun m hm => by
            rcases (by omega : m < j ∨ m = j) with h3 | rfl
            · exact HA.out m h3
            · exact HO.out⟩
          case measure => simp [intOf]; omega
        have hkj' : (k : Int) < j := by omega
        have hks : (k : Int) < s.notes.length := by omega
        obtain ⟨z, hz, -⟩ := lt_get (l := s.notes) (i := k) (by omega)
        obtain ⟨b2, off2, _, _, e', hb2, k0, k1, k2, -⟩ := (HH.out.2.grow gw2).at hz
        injection e' with e'
        injection e' with e1 e2
        subst e1 e2
        have HZ2 := Lib.hid (getD_of (d := (default : Note)) hz)
        clear hz
        go_upto_region 12 with (fail)
        refine wp_region_gr (by kernel_rfl) (by kernel_rfl) ?_
        repeat (go_big_quiet_step (fail))
        cases hp : (z.name.toList == x.name.toList)
        · have HQ := Lib.hid (show (!((noteAt s k).book == x.book && (noteAt s k).name.toList == x.name.toList)) = true by rw [show noteAt s k = z from HZ2.out, hp]; simp)
          repeat (go_big_quiet_step (fail))
          refine wpQuiet_nil ?_
          rintro _ ⟨y, rfl⟩
          go_wp2_with fail
          go_roundw
          case rel => exact ⟨hg2.trans y.g, k + 1, by go_num, by omega, fun m hm => by
            rcases (by omega : m < k ∨ m = k) with h3 | rfl
            · exact HB.out m h3
            · exact HQ.out⟩
          case measure => simp [intOf]; omega
        repeat (go_big_quiet_step (fail))
        by_cases hq : z.book = x.book
        · have HN := Lib.hid (show refNotesB s = false by
            rw [HP.out]
            refine allTo_no hlt ?_
            rw [HK.out]
            exact allTo_no hkj (by rw [show noteAt s k = z from HZ2.out, hp, hq]; simp))
          refine wpQuiet_nil ?_
          rintro _ ⟨y, rfl⟩
          go_wp2_with fail
          go_ret
          exact ⟨ret_bool HN.out.symm, gw2.trans y.g⟩
        · have HQ := Lib.hid (show (!((noteAt s k).book == x.book && (noteAt s k).name.toList == x.name.toList)) = true by rw [show noteAt s k = z from HZ2.out, hp, show (z.book == x.book) = false by rw [beq_eq_false_iff_ne]; exact hq]; simp)
          refine wpQuiet_nil ?_
          rintro _ ⟨y, rfl⟩
          go_wp2_with fail
          go_roundw
          case rel => exact ⟨hg2.trans y.g, k + 1, by go_num, by omega, fun m hm => by
            rcases (by omega : m < k ∨ m = k) with h3 | rfl
            · exact HB.out m h3
            · exact HQ.out⟩
          case measure => simp [intOf]; omega
end Go.Proofs.YtnajccljdjllgaaDoor
