/- The walk of jotterref17.books. -/
import Derived.Test.YtnajccljdjllgaaDoorRefs
set_option linter.unusedVariables false
set_option linter.unusedSimpArgs false
namespace Go.Proofs.YtnajccljdjllgaaDoor
open Go.RowKit Go.Lib
def bookHead (s : Shelf) (i : Nat) : Bool :=
  (decide (1 ≤ (bookAt s i).id) && decide ((bookAt s i).id ≤ s.nb - 1)) && (i == 0 || decide ((bookAt s (i - 1)).id < (bookAt s i).id)) && mayB (bookAt s i).name
theorem bookOk_head (s : Shelf) (i : Nat) : bookOk s i = (bookHead s i && decide (idx (fun b => b.name.toList == (bookAt s i).name.toList) (s.books.take i) < 0)) := rfl
theorem ridx_neg {α : Type} {p : α → Bool} : ∀ {l : List α}, idx p l < 0 → ∀ x ∈ l, p x = false
  | [], _, x, hx => by cases hx
  | y :: l, h, x, hx => by
    unfold idx at h
    split at h
    · omega
    · rename_i hp
      split at h
      · rename_i hq
        rcases List.mem_cons.1 hx with rfl | hx
        · simpa using hp
        · exact ridx_neg (l := l) (by omega) x hx
      · have := idx_bd p l; omega
def refBooksB (s : Shelf) : Bool := decide (s.books.length ≤ 6) && (decide (1 ≤ s.nb) && decide (s.nb ≤ 65536)) && allTo s.books.length (bookOk s)
set_option maxRecDepth 100000 in
set_option maxHeartbeats 4000000 in
theorem refBooks_any (s : Shelf) (bv nv : Value) (w : World) (h : ShelfR w s bv nv) (hz : TameS s) :
    Calls Tryd.prog 100 #[shelfV s bv nv] w fun e w' => e = .returned (.bool (refBooksB s)) ∧ Grow w w' := by
  obtain ⟨a1, c1, rfl⟩ := h.1.mk
  obtain ⟨a2, c2, rfl⟩ := h.2.mk
  have HH := Lib.hid h
  have HZ := Lib.hid hz
  have hlc1 : s.books.length ≤ c1 := h.1.len.2
  clear h hz
  unfold shelfV
  go_enter Tryd.func100, Tryd.ntmps100
  go_upto_region 1 with (fail)
  generalize hV : w.alloc (.cells #[.int .i64 s.nb, .int .i64 s.nn, .int .i64 s.ns, .slice a1 s.books.length c1, .slice a2 s.notes.length c2] 28) = V
  have gV : Grow w V := by rw [← hV]; exact (Grow.refl w).alloc _
  have hsz : w.heap.size < V.heap.size := by rw [← hV]; simp
  have Q : V.cell? ⟨w.heap.size, 0, none⟩ = some (.int .i64 s.nb) ∧ V.cell? ⟨w.heap.size, 3, none⟩ = some (.slice a1 s.books.length c1) := by rw [← hV]; simp [go_sem]
  obtain ⟨q0, q3⟩ := Q
  clear hV
  by_cases e1 : s.books.length ≤ 6
  case neg =>
    have e1' : (6 : Int) < s.books.length := by omega
    have HN := Lib.hid (show refBooksB s = false by unfold refBooksB; rw [decide_eq_false e1]; rfl)
    go_wp2_with fail
    go_ret
    exact ⟨ret_bool HN.out.symm, gV⟩
  have e1' : ¬ (6 : Int) < s.books.length := by omega
  by_cases e2 : 1 ≤ s.nb
  case neg =>
    have e2' : s.nb < 1 := by omega
    have HN := Lib.hid (show refBooksB s = false by unfold refBooksB; rw [decide_eq_false e2]; simp)
    go_wp2_with fail
    go_ret
    exact ⟨ret_bool HN.out.symm, gV⟩
  have e2' : ¬ s.nb < 1 := by omega
  by_cases e3 : s.nb ≤ 65536
  case neg =>
    have e3' : 65536 < s.nb := by omega
    have HN := Lib.hid (show refBooksB s = false by unfold refBooksB; rw [decide_eq_false e3]; simp)
    go_wp2_with fail
    go_ret
    exact ⟨ret_bool HN.out.symm, gV⟩
  have e3' : ¬ 65536 < s.nb := by omega
  have HP := Lib.hid (show refBooksB s = allTo s.books.length (bookOk s) by unfold refBooksB; rw [decide_eq_true e1, decide_eq_true e2, decide_eq_true e3]; rfl)
  go_wp2_with fail
  go_loopw [3] (fun v3 wx => Grow V wx ∧ ∃ j : Nat, v3 = .int .i64 j ∧ j ≤ s.books.length ∧ ∀ k, k < j → bookOk s k = true) (fun v3 _ => s.books.length - (intOf v3).toNat)
  case atStart => exact ⟨Grow.refl _, 0, rfl, by omega, fun k h => absurd h (by omega)⟩
  case round =>
    obtain ⟨hgr, j, rfl, hj, hall⟩ := hrel
    have HA := Lib.hid hall
    clear hall
    have gw := gV.trans hgr
    replace q0 := (hgr.cells _ _ hsz).trans q0
    replace q3 := (hgr.cells _ _ hsz).trans q3
    have hsr : w.heap.size < wr.heap.size := by have := hgr.size; omega
    by_cases hlt : j < s.books.length
    case neg =>
      have hlt' : ¬ (j : Int) < s.books.length := by omega
      have HR := Lib.hid (show refBooksB s = true by rw [HP.out]; exact allTo_yes (fun k hk => HA.out k (by omega)))
      go_wp2_with fail
      go_ret
      exact ⟨ret_bool HR.out.symm, gw⟩
    have hlt' : (j : Int) < s.books.length := by omega
    obtain ⟨x, hx, -⟩ := lt_get hlt
    have HR := HH.out.1.grow gw
    obtain ⟨bb, off, rfl, hbb, p0, p1⟩ := HR.at hx
    have ho : ((j : Int) ≤ 0 ∧ j = 0) ∨ ((0 : Int) < j ∧ ∃ z : Book, bookAt s (j - 1) = z ∧ wr.cell? ⟨bb, off + (j - 1) * 2, none⟩ = some (.int .i64 z.id)) := by
      rcases Nat.eq_zero_or_pos j with h0 | h0
      · exact .inl ⟨by omega, h0⟩
      · obtain ⟨z, hz, -⟩ := lt_get (l := s.books) (i := j - 1) (by omega)
        obtain ⟨b', off', e', hb', k0, -⟩ := HR.at hz
        injection e' with e'
        injection e' with e1 e2
        subst e1 e2
        exact .inr ⟨by omega, z, getD_of hz, k0⟩
    have hns := HZ.out.1.book hx
    have HX := Lib.hid (getD_of (d := (default : Book)) hx)
    clear hx HR
    go_upto_region 7 with (fail)
    generalize hU : wr.alloc (.cells #[.int .i64 x.id, .string x.name] 37) = U
    have gU : Grow wr U := by rw [← hU]; exact (Grow.refl wr).alloc _
    have hszU : wr.heap.size < U.heap.size := by rw [← hU]; simp
    have QU : U.cell? ⟨wr.heap.size, 0, none⟩ = some (.int .i64 x.id) ∧ U.cell? ⟨wr.heap.size, 1, none⟩ = some (.string x.name) := by rw [← hU]; simp [go_sem]
    obtain ⟨r0, r1⟩ := QU
    clear hU p0 p1
    have u0 := (gU.cells _ 0 hsr).trans q0
    have u3 := (gU.cells _ 3 hsr).trans q3
    have hbU : bb < U.heap.size := by omega
    have hsU : w.heap.size < U.heap.size := by omega
    replace ho : ((j : Int) ≤ 0 ∧ j = 0) ∨ ((0 : Int) < j ∧ ∃ z : Book, bookAt s (j - 1) = z ∧ U.cell? ⟨bb, off + (j - 1) * 2, none⟩ = some (.int .i64 z.id)) := by
      rcases ho with h0 | ⟨h0, z, h1, h2⟩
      · exact .inl h0
      · exact .inr ⟨h0, z, h1, (gU.cells _ _ hbb).trans h2⟩
    have cM := fun W => ref_may x.name W (by omega)
    have HD := Lib.hid (show bookHead s j = ((decide (1 ≤ x.id) && decide (x.id ≤ s.nb - 1)) && (j == 0 || decide ((bookAt s (j - 1)).id < x.id)) && mayB x.name) by unfold bookHead bookAt; rw [HX.out])
    clear q0 q3
    go_cut [63] (fun v63 wc => v63 = .bool (!bookHead s j) ∧ Grow U wc)
    case first =>
      have H' := HD.out
      clear HD HA HH HZ HP hgr gw HX gU hns
      by_cases f1 : 1 ≤ x.id
      case neg =>
        have HN := Lib.hid (show bookHead s j = false by rw [H', decide_eq_false f1]; rfl)
        have f1' : decide (x.id < 1) = true := decide_eq_true (by omega)
        clear H' f1 cM
        refine wp_region_gr (by kernel_rfl) (by kernel_rfl) ?_
        repeat (go_big_quiet_step (first | (go_at_call 89; exact Calls.gr_same (cM _))))
        refine wpQuiet_nil ?_
        rintro _ ⟨y, rfl⟩
        go_wp2_with fail
        go_meet
        exact ⟨by rw [HN.out]; rfl, y.g⟩
      have f1' : decide (x.id < 1) = false := decide_eq_false (by omega)
      by_cases f2 : x.id ≤ s.nb - 1
      case neg =>
        have HN := Lib.hid (show bookHead s j = false by rw [H', decide_eq_false f2]; simp)
        have f2' : decide (s.nb ≤ x.id) = true := decide_eq_true (by omega)
        clear H' f1 f2 cM
        refine wp_region_gr (by kernel_rfl) (by kernel_rfl) ?_
        repeat (go_big_quiet_step (first | (go_at_call 89; exact Calls.gr_same (cM _))))
        refine wpQuiet_nil ?_
        rintro _ ⟨y, rfl⟩
        go_wp2_with fail
        go_meet
        exact ⟨by rw [HN.out]; rfl, y.g⟩
      have f2' : decide (s.nb ≤ x.id) = false := decide_eq_false (by omega)
      rw [decide_eq_true f1, decide_eq_true f2] at H'
      clear f1 f2
      by_cases hord : (0 : Int) < j ∧ x.id ≤ (bookAt s (j - 1)).id
      · obtain ⟨i0, hord⟩ := hord
        rcases ho with ⟨h0, -⟩ | ⟨h0, z, hz, k0⟩
        · omega
        rw [hz] at hord H'
        have HN := Lib.hid (show bookHead s j = false by
          rw [H', decide_eq_false (show ¬ z.id < x.id by omega), show (j == 0) = false by rw [beq_eq_false_iff_ne]; omega]; rfl)
        clear H' hz cM
        have hd : decide (0 < j) = true := decide_eq_true (by omega)
        have hd' : decide ((0 : Int) < j) = true := decide_eq_true h0
        have hi0 : IntKind.i64.wrap ((j : Int) - 1) = (j : Int) - 1 := IntWalk.i64_in _ (by omega)
        have hi1 : (0 : Int) ≤ (j : Int) - 1 := by omega
        have hi2 : (j : Int) - 1 < s.books.length := by omega
        have hd8 : decide (x.id ≤ z.id) = true := decide_eq_true hord
        have hi3 : ((j : Int) - 1).toNat = j - 1 := by omega
        refine wp_region_gr (by kernel_rfl) (by kernel_rfl) ?_
        repeat (go_big_quiet_step (first | (go_at_call 89; exact Calls.gr_same (cM _))))
        refine wpQuiet_nil ?_
        rintro _ ⟨y, rfl⟩
        go_wp2_with fail
        go_meet
        exact ⟨by rw [HN.out]; rfl, y.g⟩
      have H2 : bookHead s j = mayB x.name := by
        rw [H', show (j == 0 || decide ((bookAt s (j - 1)).id < x.id)) = true by
          rw [Bool.or_eq_true, beq_iff_eq, decide_eq_true_eq]; omega]; simp
      clear H'
      have ho2 : ((j : Int) ≤ 0) ∨ ((0 : Int) < j ∧ ∃ z : Book, z.id < x.id ∧ U.cell? ⟨bb, off + (j - 1) * 2, none⟩ = some (.int .i64 z.id)) := by
        rcases ho with ⟨h0, -⟩ | ⟨h0, z, hz, k0⟩
        · exact .inl h0
        · exact .inr ⟨h0, z, by rw [← hz]; omega, k0⟩
      clear ho hord
      cases e3 : mayB x.name
      · have HN := Lib.hid (show bookHead s j = false by rw [H2, e3])
        rw [e3] at cM
        clear H2 e3
        rcases ho2 with h0 | ⟨h0, z, hzi, k0⟩
        · have hd : decide (0 < j) = false := decide_eq_false (by omega)
          have hd' : decide ((0 : Int) < j) = false := decide_eq_false (by omega)
          refine wp_region_gr (by kernel_rfl) (by kernel_rfl) ?_
          repeat (go_big_quiet_step (first | (go_at_call 89; exact Calls.gr_same (cM _))))
          refine wpQuiet_nil ?_
          rintro _ ⟨y, rfl⟩
          go_wp2_with fail
          go_meet
          exact ⟨by rw [HN.out]; rfl, y.g⟩
        · have hd : decide (0 < j) = true := decide_eq_true (by omega)
          have hd' : decide ((0 : Int) < j) = true := decide_eq_true h0
          have hi0 : IntKind.i64.wrap ((j : Int) - 1) = (j : Int) - 1 := IntWalk.i64_in _ (by omega)
          have hi1 : (0 : Int) ≤ (j : Int) - 1 := by omega
          have hi2 : (j : Int) - 1 < s.books.length := by omega
          have hd8 : decide (x.id ≤ z.id) = false := decide_eq_false (by omega)
          have hi3 : ((j : Int) - 1).toNat = j - 1 := by omega
          refine wp_region_gr (by kernel_rfl) (by kernel_rfl) ?_
          repeat (go_big_quiet_step (first | (go_at_call 89; exact Calls.gr_same (cM _))))
          refine wpQuiet_nil ?_
          rintro _ ⟨y, rfl⟩
          go_wp2_with fail
          go_meet
          exact ⟨by rw [HN.out]; rfl, y.g⟩
      · have HN := Lib.hid (show bookHead s j = true by rw [H2, e3])
        rw [e3] at cM
        clear H2 e3
        rcases ho2 with h0 | ⟨h0, z, hzi, k0⟩
        · have hd : decide (0 < j) = false := decide_eq_false (by omega)
          have hd' : decide ((0 : Int) < j) = false := decide_eq_false (by omega)
          refine wp_region_gr (by kernel_rfl) (by kernel_rfl) ?_
          repeat (go_big_quiet_step (first | (go_at_call 89; exact Calls.gr_same (cM _))))
          refine wpQuiet_nil ?_
          rintro _ ⟨y, rfl⟩
          go_wp2_with fail
          go_meet
          exact ⟨by rw [HN.out]; rfl, y.g⟩
        · have hd : decide (0 < j) = true := decide_eq_true (by omega)
          have hd' : decide ((0 : Int) < j) = true := decide_eq_true h0
          have hi0 : IntKind.i64.wrap ((j : Int) - 1) = (j : Int) - 1 := IntWalk.i64_in _ (by omega)
          have hi1 : (0 : Int) ≤ (j : Int) - 1 := by omega
          have hi2 : (j : Int) - 1 < s.books.length := by omega
          have hd8 : decide (x.id ≤ z.id) = false := decide_eq_false (by omega)
          have hi3 : ((j : Int) - 1).toNat = j - 1 := by omega
          refine wp_region_gr (by kernel_rfl) (by kernel_rfl) ?_
          repeat (go_big_quiet_step (first | (go_at_call 89; exact Calls.gr_same (cM _))))
          refine wpQuiet_nil ?_
          rintro _ ⟨y, rfl⟩
          go_wp2_with fail
          go_meet
          exact ⟨by rw [HN.out]; rfl, y.g⟩
    case rest =>
      obtain ⟨rfl, gc⟩ := hcut
      have gcU := gU.trans gc
      have gwc := gw.trans gcU
      clear cM HD
      cases hh : bookHead s j
      · have HN := Lib.hid (show refBooksB s = false by
          rw [HP.out]; exact allTo_no hlt (by rw [bookOk_head, hh]; rfl))
        clear hh
        go_wp2_with fail
        go_ret
        exact ⟨ret_bool HN.out.symm, gwc⟩
      have HK := Lib.hid (show bookOk s j = decide (idx (fun b => b.name.toList == x.name.toList) (s.books.take j) < 0) by rw [bookOk_head, hh, show bookAt s j = x from HX.out]; rfl)
      clear hh
      replace u3 := (gc.cells _ _ hsU).trans u3
      replace r1 := (gc.cells _ _ hszU).trans r1
      have y1 : w.heap.size < wc.heap.size := by have := gc.size; omega
      have y2 : wr.heap.size < wc.heap.size := by have := gc.size; omega
      clear u0 r0 ho hbU
      generalize hwb : wr.heap.size = wb at *
      go_wp2_with fail
      go_loopw [5] (fun v5 wx => Grow wc wx ∧ ∃ k : Nat, v5 = .int .i64 k ∧ k ≤ j ∧ ∀ (m : Nat) z, m < k → s.books[m]? = some z → (z.name.toList == x.name.toList) = false) (fun v5 _ => j - (intOf v5).toNat)
      case atStart => exact ⟨Grow.refl _, 0, rfl, by omega, fun m z h => absurd h (by omega)⟩
      case round =>
        obtain ⟨hg2, k, rfl, hk, hall2⟩ := hrel
        have HB := Lib.hid hall2
        clear hall2
        have gw2 := gwc.trans hg2
        replace u3 := (hg2.cells _ _ y1).trans u3
        replace r1 := (hg2.cells _ _ y2).trans r1
        have y3 : w.heap.size < wr.heap.size := by have := hg2.size; omega
        have y4 : wb < wr.heap.size := by have := hg2.size; omega
        by_cases hkj : k < j
        case neg =>
          have hkj' : ¬ (k : Int) < j := by omega
          have HO := Lib.hid (show bookOk s j = true by
            rw [HK.out, idx_none (fun m z hm => ?_)]
            · rfl
            · rw [List.getElem?_take] at hm
              split at hm
              · exact HB.out m z (by omega) hm
              · cases hm)
          go_wp2_with fail
          go_roundw
          case rel => exact ⟨(hgr.trans gcU).trans hg2, j + 1, by go_num, by omega, fun m hm => by
            rcases (by omega : m < j ∨ m = j) with h3 | rfl
            · exact HA.out m h3
            · exact HO.out⟩
          case measure => simp [intOf]; omega
        have hkj' : (k : Int) < j := by omega
        have hks : (k : Int) < s.books.length := by omega
        obtain ⟨z, hz, -⟩ := lt_get (l := s.books) (i := k) (by omega)
        obtain ⟨b2, off2, e', hb2, k0, k1⟩ := (HH.out.1.grow gw2).at hz
        injection e' with e'
        injection e' with e1 e2
        subst e1 e2
        have HZ2 := Lib.hid hz
        clear hz
        cases hp : (z.name.toList == x.name.toList)
        · have HQ := Lib.hid hp
          go_upto_region 12 with (fail)
          refine wp_region_gr (by kernel_rfl) (by kernel_rfl) ?_
          repeat (go_big_quiet_step (fail))
          refine wpQuiet_nil ?_
          rintro _ ⟨y, rfl⟩
          go_wp2_with fail
          go_roundw
          case rel => exact ⟨hg2.trans y.g, k + 1, by go_num, by omega, fun m z' hm hz' => by
            rcases (by omega : m < k ∨ m = k) with h3 | rfl
            · exact HB.out m z' h3 hz'
            · rw [HZ2.out] at hz'; injection hz' with hz'; rw [← hz']; exact HQ.out⟩
          case measure => simp [intOf]; omega
        · have HN := Lib.hid (show refBooksB s = false by
            rw [HP.out]
            refine allTo_no hlt ?_
            rw [HK.out, decide_eq_false_iff_not]
            intro hneg
            have := ridx_neg hneg z (List.mem_of_getElem? (i := k) (by rw [List.getElem?_take, if_pos hkj]; exact HZ2.out))
            rw [hp] at this; cases this)
          go_upto_region 12 with (fail)
          refine wp_region_gr (by kernel_rfl) (by kernel_rfl) ?_
          repeat (go_big_quiet_step (fail))
          refine wpQuiet_nil ?_
          rintro _ ⟨y, rfl⟩
          go_wp2_with fail
          go_ret
          exact ⟨ret_bool HN.out.symm, gw2.trans y.g⟩
end Go.Proofs.YtnajccljdjllgaaDoor
