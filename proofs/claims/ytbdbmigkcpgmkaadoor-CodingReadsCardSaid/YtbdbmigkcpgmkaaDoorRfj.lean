/- The walks of chapter 17's own answer: Book, tags. The walk of jotterref17.books. The walk of jotterref17.notes. The walks of jotterref17.Sheets, sheets and May: it is mayS. The walk of jotterref17.May: it is mayS. The walks of jotterref19.num and text: word for word as coding.put and text. The walks of jotterref19.Lay and Size. -/
import Derived.Test.YtbdbmigkcpgmkaaDoorMay
import Derived.Test.YtbdbmigkcpgmkaaDoorRef3
import Derived.Test.YtbdbmigkcpgmkaaDoorGr
import Derived.Test.YtbdbmigkcpgmkaaDoorApp
import Derived.Test.YtbdbmigkcpgmkaaDoorLay
import Derived.Test.YtbdbmigkcpgmkaaDoorPut
import Derived.Test.YtbdbmigkcpgmkaaDoorSize
set_option linter.unusedVariables false
set_option linter.unusedSimpArgs false
namespace Go.Proofs.YtbdbmigkcpgmkaaDoor
open Go.RowKit Go.Lib
set_option maxRecDepth 100000 in
set_option maxHeartbeats 1000000 in
theorem refBook_any (s : Shelf) (bv nv : Value) (n : Int) (w : World) (h : ShelfR w s bv nv) (hz : s.books.length ≤ 1000000) :
    Calls Tryd.prog 67 #[shelfV s bv nv, .int .i64 n] w fun e w' => e = .returned (.int .i64 (idx (fun b => b.id == n) s.books)) ∧ Grow w w' := by
  obtain ⟨a1, c1, rfl⟩ := h.1.mk
  obtain ⟨a2, c2, rfl⟩ := h.2.mk
  have HH := Lib.hid h
  clear h
  unfold shelfV
  go_enter Tryd.func67, Tryd.ntmps67
  go_upto_region 1 with (fail)
  generalize hV : w.alloc (.cells #[.int .i64 s.nb, .int .i64 s.nn, .int .i64 s.ns, .slice a1 s.books.length c1, .slice a2 s.notes.length c2] 36) = V
  have gV : Grow w V := by rw [← hV]; exact (Grow.refl w).alloc _
  have q3 : V.cell? ⟨w.heap.size, 3, none⟩ = some (.slice a1 s.books.length c1) := by rw [← hV]; simp [go_sem]
  clear hV
  go_wp2_with fail
  go_loop [5] (fun v5 => ∃ j : Nat, v5 = .int .i64 j ∧ j ≤ s.books.length ∧ ∀ (k : Nat) x, k < j → s.books[k]? = some x → (x.id == n) = false) (fun v5 => s.books.length - (intOf v5).toNat)
  case atStart => exact ⟨0, rfl, by omega, fun k x h => absurd h (by omega)⟩
  case round =>
    obtain ⟨j, rfl, hj, hall⟩ := hrel
    have HA := Lib.hid hall
    clear hall
    by_cases hlt : j < s.books.length
    · have hlt' : (j : Int) < s.books.length := by omega
      obtain ⟨x, hx, -⟩ := lt_get hlt
      obtain ⟨bb, off, rfl, hbb, p0, p1⟩ := (HH.out.1.grow gV).at hx
      have HX := Lib.hid hx
      clear hx
      cases hp : (x.id == n)
      · have HP := Lib.hid hp
        go_wp2_with fail
        go_round
        case rel => exact ⟨j + 1, by go_num, by omega, fun k y hk hy => by
          rcases (by omega : k < j ∨ k = j) with h3 | rfl
          · exact HA.out k y h3 hy
          · rw [HX.out] at hy; injection hy with hy; rw [← hy]; exact HP.out⟩
        case measure => simp [intOf]; omega
      · have HR := Lib.hid (idx_some (p := fun b : Book => b.id == n) HX.out hp HA.out)
        go_wp2_with fail
        go_ret
        exact ⟨ret_int HR.out.symm, gV⟩
    · have HR := Lib.hid (idx_none (p := fun b : Book => b.id == n) (l := s.books) (fun k x hx => HA.out k x (by have := (List.getElem?_eq_some_iff.1 hx).1; omega) hx))
      have hlt' : ¬ (j : Int) < s.books.length := by omega
      go_wp2_with fail
      go_ret
      exact ⟨ret_int HR.out.symm, gV⟩
theorem bytesLeq : ∀ (x z : List UInt8), (Op.bytesLess x z || (x == z)) = !Op.bytesLess z x
  | [], [] => rfl
  | [], _ :: _ => rfl
  | _ :: _, [] => rfl
  | a :: x, b :: z => by
    have ih := bytesLeq x z
    unfold Op.bytesLess
    rcases Nat.lt_trichotomy a.toNat b.toNat with h | h | h
    · have h1 : a < b := h
      have h2 : ¬ b < a := by show ¬ b.toNat < a.toNat; omega
      have h3 : (b == a) = false := by rw [beq_eq_false_iff_ne]; rintro rfl; exact absurd h (Nat.lt_irrefl _)
      simp [h1, h2, h3]
    · obtain rfl : a = b := UInt8.toNat_inj.1 h
      have h2 : ¬ a < a := by show ¬ a.toNat < a.toNat; omega
      simp [h2, ih]
    · have h1 : b < a := h
      have h2 : ¬ a < b := by show ¬ a.toNat < b.toNat; omega
      have h3 : (a == b) = false := by rw [beq_eq_false_iff_ne]; rintro rfl; exact absurd h (Nat.lt_irrefl _)
      simp [h1, h2, h3]
theorem leqS (x z : ByteArray) {b : Bool} (h : ltS z x = b) (W : World) : (binOp .leq 9 (.string x) (.string z)).run Tryd.prog W = .ok (.bool (!b)) W := by
  have e : (Op.bytesLess x.toList z.toList || (x.toList == z.toList)) = !b := by rw [bytesLeq, ← h]; rfl
  simp [binOp, Op.stringOp, e, Sem.run_pure]
set_option maxRecDepth 100000 in
set_option maxHeartbeats 2000000 in
theorem refTags_any (v : Value) (l : List ByteArray) (w : World) (h : Texts w v l) (hz : l.length ≤ 1000000) (hs : ∀ t ∈ l, t.size ≤ 1000000) :
    Calls Tryd.prog 68 #[v] w fun e w' => e = .returned (.bool (tagsB l)) ∧ Grow w w' := by
  obtain ⟨a, c, rfl⟩ := h.mk
  go_enter Tryd.func68, Tryd.ntmps68
  go_wp2_with fail
  by_cases h4 : l.length ≤ 4
  · have h4' : (l.length : Int) ≤ 4 := by omega
    go_loopw [3] (fun v3 wx => Grow w wx ∧ ∃ i : Nat, v3 = .int .i64 i ∧ i ≤ l.length ∧ ∀ (j : Nat), j < i → tagOk l j = true) (fun v3 _ => l.length - (intOf v3).toNat)
    case atStart => exact ⟨Grow.refl _, 0, rfl, by omega, fun j h => absurd h (by omega)⟩
    case round =>
      obtain ⟨hg, i, rfl, hi, hall⟩ := hrel
      have HA := Lib.hid hall
      clear hall
      by_cases hlt : i < l.length
      · have hlt' : (i : Int) < l.length := by omega
        obtain ⟨x, hx, -⟩ := lt_get hlt
        have HG := h.grow hg
        obtain ⟨b, off, rfl, hb, hc⟩ := HG.at hx
        have cM := fun W => ref_may x W (by have := hs x (List.mem_of_getElem? hx); omega)
        have HX := Lib.hid (getD_of (d := ⟨#[]⟩) hx)
        have ho : ((i : Int) ≤ 0 ∧ i = 0) ∨ ((0 : Int) < i ∧ ∃ z : ByteArray, l.getD (i - 1) ⟨#[]⟩ = z ∧ wr.cell? ⟨b, off + (i - 1), none⟩ = some (.string z)) := by
          rcases Nat.eq_zero_or_pos i with h0 | h0
          · exact .inl ⟨by omega, h0⟩
          · obtain ⟨z, hzz, -⟩ := lt_get (l := l) (i := i - 1) (by omega)
            obtain ⟨b', off', e', hb', k0⟩ := HG.at hzz
            injection e' with e'
            injection e' with e1 e2
            subst e1 e2
            exact .inr ⟨by omega, z, getD_of hzz, k0⟩
        clear hx h HG
        cases hm : mayB x
        · rw [hm] at cM
          have HR := Lib.hid (show tagsB l = false by
            have : tagOk l i = false := by unfold tagOk; rw [HX.out, hm]; rfl
            unfold tagsB; rw [allTo_no hlt this]; rfl)
          clear hm ho
          go_upto_region 4 with (fail)
          refine wp_region_gr (by kernel_rfl) (by kernel_rfl) ?_
          repeat (go_big_quiet_step (first | (go_at_call 16; exact Calls.gr_same (cM _))))
          refine wpQuiet_nil ?_
          rintro _ ⟨y, rfl⟩
          go_wp2_with fail
          go_ret
          exact ⟨ret_bool HR.out.symm, hg.trans y.g⟩
        · rw [hm] at cM
          rcases ho with ⟨h0, h00⟩ | ⟨h0, z, hzz, k0⟩
          · have hd : decide (0 < i) = false := decide_eq_false (by omega)
            have hd' : decide ((0 : Int) < i) = false := decide_eq_false (by omega)
            have HO := Lib.hid (show tagOk l i = true by unfold tagOk; rw [HX.out, hm, h00]; rfl)
            clear hm h00 h0
            go_upto_region 4 with (fail)
            refine wp_region_gr (by kernel_rfl) (by kernel_rfl) ?_
            repeat (go_big_quiet_step (first | (go_at_call 16; exact Calls.gr_same (cM _))))
            refine wpQuiet_nil ?_
            rintro _ ⟨y, rfl⟩
            go_wp2_with fail
            go_roundw
            case rel => exact ⟨hg.trans y.g, i + 1, by go_num, by omega, fun j hj => by
              rcases (by omega : j < i ∨ j = i) with h3 | rfl
              · exact HA.out j h3
              · exact HO.out⟩
            case measure => simp [intOf]; omega
          · have hd : decide (0 < i) = true := decide_eq_true (by omega)
            have hd' : decide ((0 : Int) < i) = true := decide_eq_true h0
            have hi0 : IntKind.i64.wrap ((i : Int) - 1) = (i : Int) - 1 := IntWalk.i64_in _ (by omega)
            have hi1 : (0 : Int) ≤ (i : Int) - 1 := by omega
            have hi2 : (i : Int) - 1 < l.length := by omega
            have hi3 : ((i : Int) - 1).toNat = i - 1 := by omega
            cases hl : ltS z x
            · have HR := Lib.hid (show tagsB l = false by
                have : tagOk l i = false := by
                  unfold tagOk; rw [HX.out, hzz, hm, hl, show (i == 0) = false by rw [beq_eq_false_iff_ne]; omega]; rfl
                unfold tagsB; rw [allTo_no hlt this]; rfl)
              have hq := bytesLeq x.toList z.toList
              rw [show Op.bytesLess z.toList x.toList = false from hl, Bool.not_false] at hq
              clear hm hl hzz
              cases hl1 : Op.bytesLess x.toList z.toList
              · rw [hl1, Bool.false_or] at hq
                go_upto_region 4 with (fail)
                refine wp_region_gr (by kernel_rfl) (by kernel_rfl) ?_
                repeat (go_big_quiet_step (first | (go_at_call 16; exact Calls.gr_same (cM _))))
                refine wpQuiet_nil ?_
                rintro _ ⟨y, rfl⟩
                clear hi0 hi1 hi2 hi3 k0
                go_wp2_with fail
                go_ret
                exact ⟨ret_bool HR.out.symm, hg.trans y.g⟩
              · clear hq
                go_upto_region 4 with (fail)
                refine wp_region_gr (by kernel_rfl) (by kernel_rfl) ?_
                repeat (go_big_quiet_step (first | (go_at_call 16; exact Calls.gr_same (cM _))))
                refine wpQuiet_nil ?_
                rintro _ ⟨y, rfl⟩
                clear hi0 hi1 hi2 hi3 k0
                go_wp2_with fail
                go_ret
                exact ⟨ret_bool HR.out.symm, hg.trans y.g⟩
            · have HO := Lib.hid (show tagOk l i = true by unfold tagOk; rw [HX.out, hzz, hm, hl]; simp)
              have hq := bytesLeq x.toList z.toList
              rw [show Op.bytesLess z.toList x.toList = true from hl, Bool.not_true, Bool.or_eq_false_iff] at hq
              obtain ⟨hq1, hq2⟩ := hq
              clear hm hl hzz
              go_upto_region 4 with (fail)
              refine wp_region_gr (by kernel_rfl) (by kernel_rfl) ?_
              repeat (go_big_quiet_step (first | (go_at_call 16; exact Calls.gr_same (cM _))))
              refine wpQuiet_nil ?_
              rintro _ ⟨y, rfl⟩
              clear hi0 hi1 hi2 hi3 k0
              go_wp2_with fail
              go_roundw
              case rel => exact ⟨hg.trans y.g, i + 1, by go_num, by omega, fun j hj => by
                rcases (by omega : j < i ∨ j = i) with h3 | rfl
                · exact HA.out j h3
                · exact HO.out⟩
              case measure => simp [intOf]; omega
      · have HO := Lib.hid (show tagsB l = true by unfold tagsB; rw [allTo_yes (fun j hj => HA.out j (by omega)), decide_eq_true h4]; rfl)
        have hlt' : ¬ (i : Int) < l.length := by omega
        clear h
        go_wp2_with fail
        go_ret
        exact ⟨ret_bool (by rw [HO.out]), hg⟩
  · have h4' : ¬ (l.length : Int) ≤ 4 := by omega
    have HO := Lib.hid (show tagsB l = false by unfold tagsB; rw [decide_eq_false h4]; simp)
    clear h
    go_loop [3] (fun v3 => v3 = .int .i64 0) (fun _ => 0)
    case atStart => rfl
    case round =>
      subst hrel
      have h0 : (0 : Int) < l.length := by omega
      go_wp2_with fail
      go_ret
      exact ⟨ret_bool (by rw [HO.out]), Grow.refl _⟩
end Go.Proofs.YtbdbmigkcpgmkaaDoor
set_option linter.unusedVariables false
set_option linter.unusedSimpArgs false
namespace Go.Proofs.YtbdbmigkcpgmkaaDoor
open Go.RowKit Go.Lib
def bookHead (s : Shelf) (i : Nat) : Bool :=
  (decide (1 ≤ (bookAt s i).id) && decide ((bookAt s i).id ≤ s.nb - 1)) && (i == 0 || decide ((bookAt s (i - 1)).id < (bookAt s i).id)) && mayB (bookAt s i).name
theorem bookOk_head (s : Shelf) (i : Nat) : bookOk s i = (bookHead s i && decide (idx (fun b => b.name.toList == (bookAt s i).name.toList) (s.books.take i) < 0)) := rfl
theorem idx_neg {α : Type} {p : α → Bool} : ∀ {l : List α}, idx p l < 0 → ∀ x ∈ l, p x = false
  | [], _, x, hx => by cases hx
  | y :: l, h, x, hx => by
    unfold idx at h
    split at h
    · omega
    · rename_i hp
      split at h
      · rename_i hq
        rcases List.mem_cons.1 hx with rfl | hx
        · simpa using hp
        · exact idx_neg (l := l) (by omega) x hx
      · have := idx_bd p l; omega
def refBooksB (s : Shelf) : Bool := decide (s.books.length ≤ 6) && (decide (1 ≤ s.nb) && decide (s.nb ≤ 65536)) && allTo s.books.length (bookOk s)
set_option maxRecDepth 100000 in
set_option maxHeartbeats 4000000 in
theorem refBooks_any (s : Shelf) (bv nv : Value) (w : World) (h : ShelfR w s bv nv) (hz : TameS s) :
    Calls Tryd.prog 56 #[shelfV s bv nv] w fun e w' => e = .returned (.bool (refBooksB s)) ∧ Grow w w' := by
  obtain ⟨a1, c1, rfl⟩ := h.1.mk
  obtain ⟨a2, c2, rfl⟩ := h.2.mk
  have HH := Lib.hid h
  have HZ := Lib.hid hz
  have hlc1 : s.books.length ≤ c1 := h.1.len.2
  clear h hz
  unfold shelfV
  go_enter Tryd.func56, Tryd.ntmps56
  go_upto_region 1 with (fail)
  generalize hV : w.alloc (.cells #[.int .i64 s.nb, .int .i64 s.nn, .int .i64 s.ns, .slice a1 s.books.length c1, .slice a2 s.notes.length c2] 36) = V
  have gV : Grow w V := by rw [← hV]; exact (Grow.refl w).alloc _
  have hsz : w.heap.size < V.heap.size := by rw [← hV]; simp
  have Q : V.cell? ⟨w.heap.size, 0, none⟩ = some (.int .i64 s.nb) ∧ V.cell? ⟨w.heap.size, 3, none⟩ = some (.slice a1 s.books.length c1) := by rw [← hV]; simp [go_sem]
  obtain ⟨q0, q3⟩ := Q
  clear hV
  by_cases e1 : s.books.length ≤ 6
  case neg =>
    have e1' : (6 : Int) < s.books.length := by omega
    have HN := Lib.hid (show refBooksB s = false by unfold refBooksB; rw [decide_eq_false e1]; rfl)
    go_wp2_with fail
    go_ret
    exact ⟨ret_bool HN.out.symm, gV⟩
  have e1' : ¬ (6 : Int) < s.books.length := by omega
  by_cases e2 : 1 ≤ s.nb
  case neg =>
    have e2' : s.nb < 1 := by omega
    have HN := Lib.hid (show refBooksB s = false by unfold refBooksB; rw [decide_eq_false e2]; simp)
    go_wp2_with fail
    go_ret
    exact ⟨ret_bool HN.out.symm, gV⟩
  have e2' : ¬ s.nb < 1 := by omega
  by_cases e3 : s.nb ≤ 65536
  case neg =>
    have e3' : 65536 < s.nb := by omega
    have HN := Lib.hid (show refBooksB s = false by unfold refBooksB; rw [decide_eq_false e3]; simp)
    go_wp2_with fail
    go_ret
    exact ⟨ret_bool HN.out.symm, gV⟩
  have e3' : ¬ 65536 < s.nb := by omega
  have HP := Lib.hid (show refBooksB s = allTo s.books.length (bookOk s) by unfold refBooksB; rw [decide_eq_true e1, decide_eq_true e2, decide_eq_true e3]; rfl)
  go_wp2_with fail
  go_loopw [3] (fun v3 wx => Grow V wx ∧ ∃ j : Nat, v3 = .int .i64 j ∧ j ≤ s.books.length ∧ ∀ k, k < j → bookOk s k = true) (fun v3 _ => s.books.length - (intOf v3).toNat)
  case atStart => exact ⟨Grow.refl _, 0, rfl, by omega, fun k h => absurd h (by omega)⟩
  case round =>
    obtain ⟨hgr, j, rfl, hj, hall⟩ := hrel
    have HA := Lib.hid hall
    clear hall
    have gw := gV.trans hgr
    replace q0 := (hgr.cells _ _ hsz).trans q0
    replace q3 := (hgr.cells _ _ hsz).trans q3
    have hsr : w.heap.size < wr.heap.size := by have := hgr.size; omega
    by_cases hlt : j < s.books.length
    case neg =>
      have hlt' : ¬ (j : Int) < s.books.length := by omega
      have HR := Lib.hid (show refBooksB s = true by rw [HP.out]; exact allTo_yes (fun k hk => HA.out k (by omega)))
      go_wp2_with fail
      go_ret
      exact ⟨ret_bool HR.out.symm, gw⟩
    have hlt' : (j : Int) < s.books.length := by omega
    obtain ⟨x, hx, -⟩ := lt_get hlt
    have HR := HH.out.1.grow gw
    obtain ⟨bb, off, rfl, hbb, p0, p1⟩ := HR.at hx
    have ho : ((j : Int) ≤ 0 ∧ j = 0) ∨ ((0 : Int) < j ∧ ∃ z : Book, bookAt s (j - 1) = z ∧ wr.cell? ⟨bb, off + (j - 1) * 2, none⟩ = some (.int .i64 z.id)) := by
      rcases Nat.eq_zero_or_pos j with h0 | h0
      · exact .inl ⟨by omega, h0⟩
      · obtain ⟨z, hz, -⟩ := lt_get (l := s.books) (i := j - 1) (by omega)
        obtain ⟨b', off', e', hb', k0, -⟩ := HR.at hz
        injection e' with e'
        injection e' with e1 e2
        subst e1 e2
        exact .inr ⟨by omega, z, getD_of hz, k0⟩
    have hns := HZ.out.1.book hx
    have HX := Lib.hid (getD_of (d := (default : Book)) hx)
    clear hx HR
    go_upto_region 7 with (fail)
    generalize hU : wr.alloc (.cells #[.int .i64 x.id, .string x.name] 57) = U
    have gU : Grow wr U := by rw [← hU]; exact (Grow.refl wr).alloc _
    have hszU : wr.heap.size < U.heap.size := by rw [← hU]; simp
    have QU : U.cell? ⟨wr.heap.size, 0, none⟩ = some (.int .i64 x.id) ∧ U.cell? ⟨wr.heap.size, 1, none⟩ = some (.string x.name) := by rw [← hU]; simp [go_sem]
    obtain ⟨r0, r1⟩ := QU
    clear hU p0 p1
    have u0 := (gU.cells _ 0 hsr).trans q0
    have u3 := (gU.cells _ 3 hsr).trans q3
    have hbU : bb < U.heap.size := by omega
    have hsU : w.heap.size < U.heap.size := by omega
    replace ho : ((j : Int) ≤ 0 ∧ j = 0) ∨ ((0 : Int) < j ∧ ∃ z : Book, bookAt s (j - 1) = z ∧ U.cell? ⟨bb, off + (j - 1) * 2, none⟩ = some (.int .i64 z.id)) := by
      rcases ho with h0 | ⟨h0, z, h1, h2⟩
      · exact .inl h0
      · exact .inr ⟨h0, z, h1, (gU.cells _ _ hbb).trans h2⟩
    have cM := fun W => ref_may x.name W (by omega)
    have HD := Lib.hid (show bookHead s j = ((decide (1 ≤ x.id) && decide (x.id ≤ s.nb - 1)) && (j == 0 || decide ((bookAt s (j - 1)).id < x.id)) && mayB x.name) by unfold bookHead bookAt; rw [HX.out])
    clear q0 q3
    go_cut [63] (fun v63 wc => v63 = .bool (!bookHead s j) ∧ Grow U wc)
    case first =>
      have H' := HD.out
      clear HD HA HH HZ HP hgr gw HX gU hns
      by_cases f1 : 1 ≤ x.id
      case neg =>
        have HN := Lib.hid (show bookHead s j = false by rw [H', decide_eq_false f1]; rfl)
        have f1' : decide (x.id < 1) = true := decide_eq_true (by omega)
        clear H' f1 cM
        refine wp_region_gr (by kernel_rfl) (by kernel_rfl) ?_
        repeat (go_big_quiet_step (first | (go_at_call 16; exact Calls.gr_same (cM _))))
        refine wpQuiet_nil ?_
        rintro _ ⟨y, rfl⟩
        go_wp2_with fail
        go_meet
        exact ⟨by rw [HN.out]; rfl, y.g⟩
      have f1' : decide (x.id < 1) = false := decide_eq_false (by omega)
      by_cases f2 : x.id ≤ s.nb - 1
      case neg =>
        have HN := Lib.hid (show bookHead s j = false by rw [H', decide_eq_false f2]; simp)
        have f2' : decide (s.nb ≤ x.id) = true := decide_eq_true (by omega)
        clear H' f1 f2 cM
        refine wp_region_gr (by kernel_rfl) (by kernel_rfl) ?_
        repeat (go_big_quiet_step (first | (go_at_call 16; exact Calls.gr_same (cM _))))
        refine wpQuiet_nil ?_
        rintro _ ⟨y, rfl⟩
        go_wp2_with fail
        go_meet
        exact ⟨by rw [HN.out]; rfl, y.g⟩
      have f2' : decide (s.nb ≤ x.id) = false := decide_eq_false (by omega)
      rw [decide_eq_true f1, decide_eq_true f2] at H'
      clear f1 f2
      by_cases hord : (0 : Int) < j ∧ x.id ≤ (bookAt s (j - 1)).id
      · obtain ⟨i0, hord⟩ := hord
        rcases ho with ⟨h0, -⟩ | ⟨h0, z, hz, k0⟩
        · omega
        rw [hz] at hord H'
        have HN := Lib.hid (show bookHead s j = false by
          rw [H', decide_eq_false (show ¬ z.id < x.id by omega), show (j == 0) = false by rw [beq_eq_false_iff_ne]; omega]; rfl)
        clear H' hz cM
        have hd : decide (0 < j) = true := decide_eq_true (by omega)
        have hd' : decide ((0 : Int) < j) = true := decide_eq_true h0
        have hi0 : IntKind.i64.wrap ((j : Int) - 1) = (j : Int) - 1 := IntWalk.i64_in _ (by omega)
        have hi1 : (0 : Int) ≤ (j : Int) - 1 := by omega
        have hi2 : (j : Int) - 1 < s.books.length := by omega
        have hd8 : decide (x.id ≤ z.id) = true := decide_eq_true hord
        have hi3 : ((j : Int) - 1).toNat = j - 1 := by omega
        refine wp_region_gr (by kernel_rfl) (by kernel_rfl) ?_
        repeat (go_big_quiet_step (first | (go_at_call 16; exact Calls.gr_same (cM _))))
        refine wpQuiet_nil ?_
        rintro _ ⟨y, rfl⟩
        go_wp2_with fail
        go_meet
        exact ⟨by rw [HN.out]; rfl, y.g⟩
      have H2 : bookHead s j = mayB x.name := by
        rw [H', show (j == 0 || decide ((bookAt s (j - 1)).id < x.id)) = true by
          rw [Bool.or_eq_true, beq_iff_eq, decide_eq_true_eq]; omega]; simp
      clear H'
      have ho2 : ((j : Int) ≤ 0) ∨ ((0 : Int) < j ∧ ∃ z : Book, z.id < x.id ∧ U.cell? ⟨bb, off + (j - 1) * 2, none⟩ = some (.int .i64 z.id)) := by
        rcases ho with ⟨h0, -⟩ | ⟨h0, z, hz, k0⟩
        · exact .inl h0
        · exact .inr ⟨h0, z, by rw [← hz]; omega, k0⟩
      clear ho hord
      cases e3 : mayB x.name
      · have HN := Lib.hid (show bookHead s j = false by rw [H2, e3])
        rw [e3] at cM
        clear H2 e3
        rcases ho2 with h0 | ⟨h0, z, hzi, k0⟩
        · have hd : decide (0 < j) = false := decide_eq_false (by omega)
          have hd' : decide ((0 : Int) < j) = false := decide_eq_false (by omega)
          refine wp_region_gr (by kernel_rfl) (by kernel_rfl) ?_
          repeat (go_big_quiet_step (first | (go_at_call 16; exact Calls.gr_same (cM _))))
          refine wpQuiet_nil ?_
          rintro _ ⟨y, rfl⟩
          go_wp2_with fail
          go_meet
          exact ⟨by rw [HN.out]; rfl, y.g⟩
        · have hd : decide (0 < j) = true := decide_eq_true (by omega)
          have hd' : decide ((0 : Int) < j) = true := decide_eq_true h0
          have hi0 : IntKind.i64.wrap ((j : Int) - 1) = (j : Int) - 1 := IntWalk.i64_in _ (by omega)
          have hi1 : (0 : Int) ≤ (j : Int) - 1 := by omega
          have hi2 : (j : Int) - 1 < s.books.length := by omega
          have hd8 : decide (x.id ≤ z.id) = false := decide_eq_false (by omega)
          have hi3 : ((j : Int) - 1).toNat = j - 1 := by omega
          refine wp_region_gr (by kernel_rfl) (by kernel_rfl) ?_
          repeat (go_big_quiet_step (first | (go_at_call 16; exact Calls.gr_same (cM _))))
          refine wpQuiet_nil ?_
          rintro _ ⟨y, rfl⟩
          go_wp2_with fail
          go_meet
          exact ⟨by rw [HN.out]; rfl, y.g⟩
      · have HN := Lib.hid (show bookHead s j = true by rw [H2, e3])
        rw [e3] at cM
        clear H2 e3
        rcases ho2 with h0 | ⟨h0, z, hzi, k0⟩
        · have hd : decide (0 < j) = false := decide_eq_false (by omega)
          have hd' : decide ((0 : Int) < j) = false := decide_eq_false (by omega)
          refine wp_region_gr (by kernel_rfl) (by kernel_rfl) ?_
          repeat (go_big_quiet_step (first | (go_at_call 16; exact Calls.gr_same (cM _))))
          refine wpQuiet_nil ?_
          rintro _ ⟨y, rfl⟩
          go_wp2_with fail
          go_meet
          exact ⟨by rw [HN.out]; rfl, y.g⟩
        · have hd : decide (0 < j) = true := decide_eq_true (by omega)
          have hd' : decide ((0 : Int) < j) = true := decide_eq_true h0
          have hi0 : IntKind.i64.wrap ((j : Int) - 1) = (j : Int) - 1 := IntWalk.i64_in _ (by omega)
          have hi1 : (0 : Int) ≤ (j : Int) - 1 := by omega
          have hi2 : (j : Int) - 1 < s.books.length := by omega
          have hd8 : decide (x.id ≤ z.id) = false := decide_eq_false (by omega)
          have hi3 : ((j : Int) - 1).toNat = j - 1 := by omega
          refine wp_region_gr (by kernel_rfl) (by kernel_rfl) ?_
          repeat (go_big_quiet_step (first | (go_at_call 16; exact Calls.gr_same (cM _))))
          refine wpQuiet_nil ?_
          rintro _ ⟨y, rfl⟩
          go_wp2_with fail
          go_meet
          exact ⟨by rw [HN.out]; rfl, y.g⟩
    case rest =>
      obtain ⟨rfl, gc⟩ := hcut
      have gcU := gU.trans gc
      have gwc := gw.trans gcU
      clear cM HD
      cases hh : bookHead s j
      · have HN := Lib.hid (show refBooksB s = false by
          rw [HP.out]; exact allTo_no hlt (by rw [bookOk_head, hh]; rfl))
        clear hh
        go_wp2_with fail
        go_ret
        exact ⟨ret_bool HN.out.symm, gwc⟩
      have HK := Lib.hid (show bookOk s j = decide (idx (fun b => b.name.toList == x.name.toList) (s.books.take j) < 0) by rw [bookOk_head, hh, show bookAt s j = x from HX.out]; rfl)
      clear hh
      replace u3 := (gc.cells _ _ hsU).trans u3
      replace r1 := (gc.cells _ _ hszU).trans r1
      have y1 : w.heap.size < wc.heap.size := by have := gc.size; omega
      have y2 : wr.heap.size < wc.heap.size := by have := gc.size; omega
      clear u0 r0 ho hbU
      generalize hwb : wr.heap.size = wb at *
      go_wp2_with fail
      go_loopw [5] (fun v5 wx => Grow wc wx ∧ ∃ k : Nat, v5 = .int .i64 k ∧ k ≤ j ∧ ∀ (m : Nat) z, m < k → s.books[m]? = some z → (z.name.toList == x.name.toList) = false) (fun v5 _ => j - (intOf v5).toNat)
      case atStart => exact ⟨Grow.refl _, 0, rfl, by omega, fun m z h => absurd h (by omega)⟩
      case round =>
        obtain ⟨hg2, k, rfl, hk, hall2⟩ := hrel
        have HB := Lib.hid hall2
        clear hall2
        have gw2 := gwc.trans hg2
        replace u3 := (hg2.cells _ _ y1).trans u3
        replace r1 := (hg2.cells _ _ y2).trans r1
        have y3 : w.heap.size < wr.heap.size := by have := hg2.size; omega
        have y4 : wb < wr.heap.size := by have := hg2.size; omega
        by_cases hkj : k < j
        case neg =>
          have hkj' : ¬ (k : Int) < j := by omega
          have HO := Lib.hid (show bookOk s j = true by
            rw [HK.out, idx_none (fun m z hm => ?_)]
            · rfl
            · rw [List.getElem?_take] at hm
              split at hm
              · exact HB.out m z (by omega) hm
              · cases hm)
          go_wp2_with fail
          go_roundw
          case rel => exact ⟨(hgr.trans gcU).trans hg2, j + 1, by go_num, by omega, fun m hm => by
            rcases (by omega : m < j ∨ m = j) with h3 | rfl
            · exact HA.out m h3
            · exact HO.out⟩
          case measure => simp [intOf]; omega
        have hkj' : (k : Int) < j := by omega
        have hks : (k : Int) < s.books.length := by omega
        obtain ⟨z, hz, -⟩ := lt_get (l := s.books) (i := k) (by omega)
        obtain ⟨b2, off2, e', hb2, k0, k1⟩ := (HH.out.1.grow gw2).at hz
        injection e' with e'
        injection e' with e1 e2
        subst e1 e2
        have HZ2 := Lib.hid hz
        clear hz
        cases hp : (z.name.toList == x.name.toList)
        · have HQ := Lib.hid hp
          go_upto_region 12 with (fail)
          refine wp_region_gr (by kernel_rfl) (by kernel_rfl) ?_
          repeat (go_big_quiet_step (fail))
          refine wpQuiet_nil ?_
          rintro _ ⟨y, rfl⟩
          go_wp2_with fail
          go_roundw
          case rel => exact ⟨hg2.trans y.g, k + 1, by go_num, by omega, fun m z' hm hz' => by
            rcases (by omega : m < k ∨ m = k) with h3 | rfl
            · exact HB.out m z' h3 hz'
            · rw [HZ2.out] at hz'; injection hz' with hz'; rw [← hz']; exact HQ.out⟩
          case measure => simp [intOf]; omega
        · have HN := Lib.hid (show refBooksB s = false by
            rw [HP.out]
            refine allTo_no hlt ?_
            rw [HK.out, decide_eq_false_iff_not]
            intro hneg
            have := idx_neg hneg z (List.mem_of_getElem? (i := k) (by rw [List.getElem?_take, if_pos hkj]; exact HZ2.out))
            rw [hp] at this; cases this)
          go_upto_region 12 with (fail)
          refine wp_region_gr (by kernel_rfl) (by kernel_rfl) ?_
          repeat (go_big_quiet_step (fail))
          refine wpQuiet_nil ?_
          rintro _ ⟨y, rfl⟩
          go_wp2_with fail
          go_ret
          exact ⟨ret_bool HN.out.symm, gw2.trans y.g⟩
end Go.Proofs.YtbdbmigkcpgmkaaDoor
set_option linter.unusedVariables false
set_option linter.unusedSimpArgs false
namespace Go.Proofs.YtbdbmigkcpgmkaaDoor
open Go.RowKit Go.Lib
def refNotesB (s : Shelf) : Bool := decide (s.notes.length ≤ 12) && (decide (1 ≤ s.nn) && decide (s.nn ≤ 65536)) && allTo s.notes.length (noteOk s)
theorem lt_not_le {a : Nat} : decide ((8 : Int) < (a : Int)) = !decide (a ≤ 8) := by
  by_cases h : a ≤ 8
  · rw [decide_eq_true h, decide_eq_false (by omega)]; rfl
  · rw [decide_eq_false h, decide_eq_true (by omega)]; rfl
set_option maxRecDepth 100000 in
set_option maxHeartbeats 4000000 in
theorem refNotes_any (s : Shelf) (bv nv : Value) (w : World) (h : ShelfR w s bv nv) (hz : TameS s) :
    Calls Tryd.prog 57 #[shelfV s bv nv] w fun e w' => e = .returned (.bool (refNotesB s)) ∧ Grow w w' := by
  obtain ⟨a1, c1, rfl⟩ := h.1.mk
  obtain ⟨a2, c2, rfl⟩ := h.2.mk
  have HH := Lib.hid h
  have HZ := Lib.hid hz
  have hlc1 : s.notes.length ≤ c2 := h.2.len.2
  clear h hz
  unfold shelfV
  go_enter Tryd.func57, Tryd.ntmps57
  go_upto_region 1 with (fail)
  generalize hV : w.alloc (.cells #[.int .i64 s.nb, .int .i64 s.nn, .int .i64 s.ns, .slice a1 s.books.length c1, .slice a2 s.notes.length c2] 36) = V
  have gV : Grow w V := by rw [← hV]; exact (Grow.refl w).alloc _
  have hsz : w.heap.size < V.heap.size := by rw [← hV]; simp
  have Q : V.cell? ⟨w.heap.size, 0, none⟩ = some (.int .i64 s.nb) ∧ V.cell? ⟨w.heap.size, 1, none⟩ = some (.int .i64 s.nn) ∧ V.cell? ⟨w.heap.size, 2, none⟩ = some (.int .i64 s.ns) ∧ V.cell? ⟨w.heap.size, 3, none⟩ = some (.slice a1 s.books.length c1) ∧ V.cell? ⟨w.heap.size, 4, none⟩ = some (.slice a2 s.notes.length c2) := by rw [← hV]; simp [go_sem]
  obtain ⟨q0, q1, q2, q3, q4⟩ := Q
  clear hV
  by_cases e1 : s.notes.length ≤ 12
  case neg =>
    have e1' : (12 : Int) < s.notes.length := by omega
    have HN := Lib.hid (show refNotesB s = false by unfold refNotesB; rw [decide_eq_false e1]; rfl)
    go_wp2_with fail
    go_ret
    exact ⟨ret_bool HN.out.symm, gV⟩
  have e1' : ¬ (12 : Int) < s.notes.length := by omega
  by_cases e2 : 1 ≤ s.nn
  case neg =>
    have e2' : s.nn < 1 := by omega
    have HN := Lib.hid (show refNotesB s = false by unfold refNotesB; rw [decide_eq_false e2]; simp)
    go_wp2_with fail
    go_ret
    exact ⟨ret_bool HN.out.symm, gV⟩
  have e2' : ¬ s.nn < 1 := by omega
  by_cases e3 : s.nn ≤ 65536
  case neg =>
    have e3' : 65536 < s.nn := by omega
    have HN := Lib.hid (show refNotesB s = false by unfold refNotesB; rw [decide_eq_false e3]; simp)
    go_wp2_with fail
    go_ret
    exact ⟨ret_bool HN.out.symm, gV⟩
  have e3' : ¬ 65536 < s.nn := by omega
  have HP := Lib.hid (show refNotesB s = allTo s.notes.length (noteOk s) by unfold refNotesB; rw [decide_eq_true e1, decide_eq_true e2, decide_eq_true e3]; rfl)
  go_wp2_with fail
  go_loopw [3] (fun v3 wx => Grow V wx ∧ ∃ j : Nat, v3 = .int .i64 j ∧ j ≤ s.notes.length ∧ ∀ k, k < j → noteOk s k = true) (fun v3 _ => s.notes.length - (intOf v3).toNat)
  case atStart => exact ⟨Grow.refl _, 0, rfl, by omega, fun k h => absurd h (by omega)⟩
  case round =>
    obtain ⟨hgr, j, rfl, hj, hall⟩ := hrel
    have HA := Lib.hid hall
    clear hall
    have gw := gV.trans hgr
    replace q0 := (hgr.cells _ _ hsz).trans q0
    replace q1 := (hgr.cells _ _ hsz).trans q1
    replace q2 := (hgr.cells _ _ hsz).trans q2
    replace q3 := (hgr.cells _ _ hsz).trans q3
    replace q4 := (hgr.cells _ _ hsz).trans q4
    have hsr : w.heap.size < wr.heap.size := by have := hgr.size; omega
    by_cases hlt : j < s.notes.length
    case neg =>
      have hlt' : ¬ (j : Int) < s.notes.length := by omega
      have HR := Lib.hid (show refNotesB s = true by rw [HP.out]; exact allTo_yes (fun k hk => HA.out k (by omega)))
      go_wp2_with fail
      go_ret
      exact ⟨ret_bool HR.out.symm, gw⟩
    have hlt' : (j : Int) < s.notes.length := by omega
    obtain ⟨x, hx, -⟩ := lt_get hlt
    have HR := HH.out.2.grow gw
    obtain ⟨bb, off, tv, sv, rfl, hbb, p0, p1, p2, p3, p4, htv, hsv⟩ := HR.at hx
    obtain ⟨at_, ct, rfl⟩ := htv.mk
    obtain ⟨as_, cs, rfl⟩ := hsv.mk
    have ho : (0 : Int) < j → ∃ z : Note, noteAt s (j - 1) = z ∧ wr.cell? ⟨bb, off + (j - 1) * 5, none⟩ = some (.int .i64 z.id) := by
      intro h0
      obtain ⟨z, hz, -⟩ := lt_get (l := s.notes) (i := j - 1) (by omega)
      obtain ⟨b', off', _, _, e', hb', k0, -⟩ := HR.at hz
      injection e' with e'
      injection e' with e1 e2
      subst e1 e2
      exact ⟨z, getD_of hz, k0⟩
    obtain ⟨t1, t2, t3, t4, t5⟩ := HZ.out.note hx
    have HX := Lib.hid (getD_of (d := (default : Note)) hx)
    clear hx HR
    go_upto_region 7 with (fail)
    generalize hU : wr.alloc (.cells #[.int .i64 x.id, .int .i64 x.book, .string x.name, .slice at_ x.tags.length ct, .slice as_ x.sheets.length cs] 60) = U
    have gU : Grow wr U := by rw [← hU]; exact (Grow.refl wr).alloc _
    have hszU : wr.heap.size < U.heap.size := by rw [← hU]; simp
    have QU : U.cell? ⟨wr.heap.size, 0, none⟩ = some (.int .i64 x.id) ∧ U.cell? ⟨wr.heap.size, 1, none⟩ = some (.int .i64 x.book) ∧ U.cell? ⟨wr.heap.size, 2, none⟩ = some (.string x.name) ∧ U.cell? ⟨wr.heap.size, 3, none⟩ = some (.slice at_ x.tags.length ct) ∧ U.cell? ⟨wr.heap.size, 4, none⟩ = some (.slice as_ x.sheets.length cs) := by rw [← hU]; simp [go_sem]
    obtain ⟨r0, r1, r2, r3, r4⟩ := QU
    clear hU p0 p1 p2 p3 p4
    have u0 := (gU.cells _ 0 hsr).trans q0
    have u1 := (gU.cells _ 1 hsr).trans q1
    have u2 := (gU.cells _ 2 hsr).trans q2
    have u3 := (gU.cells _ 3 hsr).trans q3
    have u4 := (gU.cells _ 4 hsr).trans q4
    have hbU : bb < U.heap.size := by omega
    have hsU : w.heap.size < U.heap.size := by omega
    replace ho : (0 : Int) < j → ∃ z : Note, noteAt s (j - 1) = z ∧ U.cell? ⟨bb, off + (j - 1) * 5, none⟩ = some (.int .i64 z.id) := by
      intro h0
      obtain ⟨z, h1, h2⟩ := ho h0
      exact ⟨z, h1, (gU.cells _ _ hbb).trans h2⟩
    have cM := fun W => ref_may x.name W (by omega)
    have cB := fun y : Gr U => refBook_any s _ _ x.book y.W ((HH.out.grow (gw.trans gU)).grow y.g) HZ.out.1.1
    have cT := fun y : Gr U => refTags_any _ x.tags y.W (Texts.grow (Texts.grow htv gU) y.g) t2 t4
    unfold shelfV at cB
    have HD := Lib.hid (show noteHead s j = ((decide (1 ≤ x.id) && decide (x.id ≤ s.nn - 1)) && (j == 0 || decide ((noteAt s (j - 1)).id < x.id)) && mayB x.name && decide (0 ≤ idx (fun b => b.id == x.book) s.books) && tagsB x.tags && decide (x.sheets.length ≤ 8)) by unfold noteHead noteAt; rw [HX.out])
    clear q0 q1 q2 q3 q4
    go_cut [82] (fun v82 wc => v82 = .bool (!noteHead s j) ∧ Grow U wc)
    case first =>
      clear HA HH HZ HP hgr gw HX gU htv hsv t1 t2 t3 t4 t5
      refine wp_region_gr (by kernel_rfl) (by kernel_rfl) ?_
      repeat (go_big_quiet_step (first | (go_at_call 16; exact Calls.gr_same (cM _)) | (go_at_call 67; exact Calls.gr (cB _)) | (go_at_call 68; exact Calls.gr (cT _))))
      by_cases f1 : x.id < 1
      · rw [decide_eq_true f1]
        repeat (go_big_quiet_step (first | (go_at_call 16; exact Calls.gr_same (cM _)) | (go_at_call 67; exact Calls.gr (cB _)) | (go_at_call 68; exact Calls.gr (cT _))))
        refine wpQuiet_nil ?_
        rintro _ ⟨y, rfl⟩
        go_wp2_with fail
        go_meet
        exact ⟨by rw [HD.out, decide_eq_false (show ¬ 1 ≤ x.id by omega)]; simp, y.g⟩
      rw [decide_eq_false f1]
      repeat (go_big_quiet_step (first | (go_at_call 16; exact Calls.gr_same (cM _)) | (go_at_call 67; exact Calls.gr (cB _)) | (go_at_call 68; exact Calls.gr (cT _))))
      by_cases f2 : s.nn ≤ x.id
      · rw [decide_eq_true f2]
        repeat (go_big_quiet_step (first | (go_at_call 16; exact Calls.gr_same (cM _)) | (go_at_call 67; exact Calls.gr (cB _)) | (go_at_call 68; exact Calls.gr (cT _))))
        refine wpQuiet_nil ?_
        rintro _ ⟨y, rfl⟩
        go_wp2_with fail
        go_meet
        exact ⟨by rw [HD.out, decide_eq_false (show ¬ x.id ≤ s.nn - 1 by omega)]; simp, y.g⟩
      rw [decide_eq_false f2]
      repeat (go_big_quiet_step (first | (go_at_call 16; exact Calls.gr_same (cM _)) | (go_at_call 67; exact Calls.gr (cB _)) | (go_at_call 68; exact Calls.gr (cT _))))
      by_cases f3 : (0 : Int) < j
      · obtain ⟨z, hz, k0⟩ := ho f3
        have hi0 : IntKind.i64.wrap ((j : Int) - 1) = (j : Int) - 1 := IntWalk.i64_in _ (by omega)
        have hi1 : (0 : Int) ≤ (j : Int) - 1 := by omega
        have hi2 : (j : Int) - 1 < s.notes.length := by omega
        have hi3 : ((j : Int) - 1).toNat = j - 1 := by omega
        first | rw [decide_eq_true f3] | rw [decide_eq_true (show 0 < j by omega)]
        repeat (go_big_quiet_step (first | (go_at_call 16; exact Calls.gr_same (cM _)) | (go_at_call 67; exact Calls.gr (cB _)) | (go_at_call 68; exact Calls.gr (cT _))))
        by_cases f4 : x.id ≤ z.id
        · rw [decide_eq_true f4]
          repeat (go_big_quiet_step (first | (go_at_call 16; exact Calls.gr_same (cM _)) | (go_at_call 67; exact Calls.gr (cB _)) | (go_at_call 68; exact Calls.gr (cT _))))
          refine wpQuiet_nil ?_
          rintro _ ⟨y, rfl⟩
          go_wp2_with fail
          go_meet
          exact ⟨by rw [HD.out, hz, decide_eq_false (show ¬ z.id < x.id by omega), show (j == 0) = false by rw [beq_eq_false_iff_ne]; omega]; simp, y.g⟩
        rw [decide_eq_false f4]
        repeat (go_big_quiet_step (first | (go_at_call 16; exact Calls.gr_same (cM _)) | (go_at_call 67; exact Calls.gr (cB _)) | (go_at_call 68; exact Calls.gr (cT _))))
        cases e3 : mayB x.name
        · rw [Bool.not_false]
          repeat (go_big_quiet_step (first | (go_at_call 16; exact Calls.gr_same (cM _)) | (go_at_call 67; exact Calls.gr (cB _)) | (go_at_call 68; exact Calls.gr (cT _))))
          refine wpQuiet_nil ?_
          rintro _ ⟨y, rfl⟩
          go_wp2_with fail
          go_meet
          exact ⟨by rw [HD.out, decide_eq_true (show 1 ≤ x.id by omega), decide_eq_true (show x.id ≤ s.nn - 1 by omega), hz, decide_eq_true (show z.id < x.id by omega), Bool.or_true, e3]; simp, y.g⟩
        rw [Bool.not_true]
        repeat (go_big_quiet_step (first | (go_at_call 16; exact Calls.gr_same (cM _)) | (go_at_call 67; exact Calls.gr (cB _)) | (go_at_call 68; exact Calls.gr (cT _))))
        by_cases e4 : idx (fun b : Book => b.id == x.book) s.books < 0
        · rw [decide_eq_true e4]
          repeat (go_big_quiet_step (first | (go_at_call 16; exact Calls.gr_same (cM _)) | (go_at_call 67; exact Calls.gr (cB _)) | (go_at_call 68; exact Calls.gr (cT _))))
          refine wpQuiet_nil ?_
          rintro _ ⟨y, rfl⟩
          go_wp2_with fail
          go_meet
          exact ⟨by rw [HD.out, decide_eq_true (show 1 ≤ x.id by omega), decide_eq_true (show x.id ≤ s.nn - 1 by omega), hz, decide_eq_true (show z.id < x.id by omega), Bool.or_true, decide_eq_false (show ¬ 0 ≤ idx (fun b : Book => b.id == x.book) s.books by omega)]; simp, y.g⟩
        rw [decide_eq_false e4]
        repeat (go_big_quiet_step (first | (go_at_call 16; exact Calls.gr_same (cM _)) | (go_at_call 67; exact Calls.gr (cB _)) | (go_at_call 68; exact Calls.gr (cT _))))
        cases e5 : tagsB x.tags
        · rw [Bool.not_false]
          repeat (go_big_quiet_step (first | (go_at_call 16; exact Calls.gr_same (cM _)) | (go_at_call 67; exact Calls.gr (cB _)) | (go_at_call 68; exact Calls.gr (cT _))))
          refine wpQuiet_nil ?_
          rintro _ ⟨y, rfl⟩
          go_wp2_with fail
          go_meet
          exact ⟨by rw [HD.out, decide_eq_true (show 1 ≤ x.id by omega), decide_eq_true (show x.id ≤ s.nn - 1 by omega), hz, decide_eq_true (show z.id < x.id by omega), Bool.or_true, e5]; simp, y.g⟩
        rw [Bool.not_true]
        repeat (go_big_quiet_step (first | (go_at_call 16; exact Calls.gr_same (cM _)) | (go_at_call 67; exact Calls.gr (cB _)) | (go_at_call 68; exact Calls.gr (cT _))))
        refine wpQuiet_nil ?_
        rintro _ ⟨y, rfl⟩
        go_wp2_with fail
        go_meet
        exact ⟨by rw [HD.out, decide_eq_true (show 1 ≤ x.id by omega), decide_eq_true (show x.id ≤ s.nn - 1 by omega), hz, decide_eq_true (show z.id < x.id by omega), Bool.or_true, e3, e5, decide_eq_true (show 0 ≤ idx (fun b : Book => b.id == x.book) s.books by omega)]; simp; exact lt_not_le, y.g⟩
      first | rw [decide_eq_false f3] | rw [decide_eq_false (show ¬ 0 < j by omega)]
      repeat (go_big_quiet_step (first | (go_at_call 16; exact Calls.gr_same (cM _)) | (go_at_call 67; exact Calls.gr (cB _)) | (go_at_call 68; exact Calls.gr (cT _))))
      cases e3 : mayB x.name
      · rw [Bool.not_false]
        repeat (go_big_quiet_step (first | (go_at_call 16; exact Calls.gr_same (cM _)) | (go_at_call 67; exact Calls.gr (cB _)) | (go_at_call 68; exact Calls.gr (cT _))))
        refine wpQuiet_nil ?_
        rintro _ ⟨y, rfl⟩
        go_wp2_with fail
        go_meet
        exact ⟨by rw [HD.out, decide_eq_true (show 1 ≤ x.id by omega), decide_eq_true (show x.id ≤ s.nn - 1 by omega), show (j == 0) = true by rw [beq_iff_eq]; omega, Bool.true_or, e3]; simp, y.g⟩
      rw [Bool.not_true]
      repeat (go_big_quiet_step (first | (go_at_call 16; exact Calls.gr_same (cM _)) | (go_at_call 67; exact Calls.gr (cB _)) | (go_at_call 68; exact Calls.gr (cT _))))
      by_cases e4 : idx (fun b : Book => b.id == x.book) s.books < 0
      · rw [decide_eq_true e4]
        repeat (go_big_quiet_step (first | (go_at_call 16; exact Calls.gr_same (cM _)) | (go_at_call 67; exact Calls.gr (cB _)) | (go_at_call 68; exact Calls.gr (cT _))))
        refine wpQuiet_nil ?_
        rintro _ ⟨y, rfl⟩
        go_wp2_with fail
        go_meet
        exact ⟨by rw [HD.out, decide_eq_true (show 1 ≤ x.id by omega), decide_eq_true (show x.id ≤ s.nn - 1 by omega), show (j == 0) = true by rw [beq_iff_eq]; omega, Bool.true_or, decide_eq_false (show ¬ 0 ≤ idx (fun b : Book => b.id == x.book) s.books by omega)]; simp, y.g⟩
      rw [decide_eq_false e4]
      repeat (go_big_quiet_step (first | (go_at_call 16; exact Calls.gr_same (cM _)) | (go_at_call 67; exact Calls.gr (cB _)) | (go_at_call 68; exact Calls.gr (cT _))))
      cases e5 : tagsB x.tags
      · rw [Bool.not_false]
        repeat (go_big_quiet_step (first | (go_at_call 16; exact Calls.gr_same (cM _)) | (go_at_call 67; exact Calls.gr (cB _)) | (go_at_call 68; exact Calls.gr (cT _))))
        refine wpQuiet_nil ?_
        rintro _ ⟨y, rfl⟩
        go_wp2_with fail
        go_meet
        exact ⟨by rw [HD.out, decide_eq_true (show 1 ≤ x.id by omega), decide_eq_true (show x.id ≤ s.nn - 1 by omega), show (j == 0) = true by rw [beq_iff_eq]; omega, Bool.true_or, e5]; simp, y.g⟩
      rw [Bool.not_true]
      repeat (go_big_quiet_step (first | (go_at_call 16; exact Calls.gr_same (cM _)) | (go_at_call 67; exact Calls.gr (cB _)) | (go_at_call 68; exact Calls.gr (cT _))))
      refine wpQuiet_nil ?_
      rintro _ ⟨y, rfl⟩
      go_wp2_with fail
      go_meet
      exact ⟨by rw [HD.out, decide_eq_true (show 1 ≤ x.id by omega), decide_eq_true (show x.id ≤ s.nn - 1 by omega), show (j == 0) = true by rw [beq_iff_eq]; omega, Bool.true_or, e3, e5, decide_eq_true (show 0 ≤ idx (fun b : Book => b.id == x.book) s.books by omega)]; simp; exact lt_not_le, y.g⟩
    case rest =>
      obtain ⟨rfl, gc⟩ := hcut
      have gcU := gU.trans gc
      have gwc := gw.trans gcU
      clear cM cB cT HD
      cases hh : noteHead s j
      · have HN := Lib.hid (show refNotesB s = false by
          rw [HP.out]; exact allTo_no hlt (by unfold noteOk; rw [hh]; rfl))
        clear hh
        go_wp2_with fail
        go_ret
        exact ⟨ret_bool HN.out.symm, gwc⟩
      have HK := Lib.hid (show noteOk s j = allTo j fun k => !((noteAt s k).book == x.book && (noteAt s k).name.toList == x.name.toList) by unfold noteOk; rw [hh, Bool.true_and]; unfold noteNew; rw [show noteAt s j = x from HX.out])
      clear hh
      replace u4 := (gc.cells _ _ hsU).trans u4
      replace r1 := (gc.cells _ _ hszU).trans r1
      replace r2 := (gc.cells _ _ hszU).trans r2
      have y1 : w.heap.size < wc.heap.size := by have := gc.size; omega
      have y2 : wr.heap.size < wc.heap.size := by have := gc.size; omega
      clear u0 u1 u2 u3 r0 r3 r4 ho hbU htv hsv
      generalize hwb : wr.heap.size = wb at *
      go_wp2_with fail
      go_loopw [5] (fun v5 wx => Grow wc wx ∧ ∃ k : Nat, v5 = .int .i64 k ∧ k ≤ j ∧ ∀ m, m < k → (!((noteAt s m).book == x.book && (noteAt s m).name.toList == x.name.toList)) = true) (fun v5 _ => j - (intOf v5).toNat)
      case atStart => exact ⟨Grow.refl _, 0, rfl, by omega, fun m h => absurd h (by omega)⟩
      case round =>
        obtain ⟨hg2, k, rfl, hk, hall2⟩ := hrel
        have HB := Lib.hid hall2
        clear hall2
        have gw2 := gwc.trans hg2
        replace u4 := (hg2.cells _ _ y1).trans u4
        replace r1 := (hg2.cells _ _ y2).trans r1
        replace r2 := (hg2.cells _ _ y2).trans r2
        have y3 : w.heap.size < wr.heap.size := by have := hg2.size; omega
        have y4 : wb < wr.heap.size := by have := hg2.size; omega
        by_cases hkj : k < j
        case neg =>
          have hkj' : ¬ (k : Int) < j := by omega
          have HO := Lib.hid (show noteOk s j = true by
            rw [HK.out]; exact allTo_yes (fun m hm => HB.out m (by omega)))
          go_wp2_with fail
          go_roundw
          case rel => exact ⟨(hgr.trans gcU).trans hg2, j + 1, by go_num, by omega, fun m hm => by
            rcases (by omega : m < j ∨ m = j) with h3 | rfl
            · exact HA.out m h3
            · exact HO.out⟩
          case measure => simp [intOf]; omega
        have hkj' : (k : Int) < j := by omega
        have hks : (k : Int) < s.notes.length := by omega
        obtain ⟨z, hz, -⟩ := lt_get (l := s.notes) (i := k) (by omega)
        obtain ⟨b2, off2, _, _, e', hb2, k0, k1, k2, -⟩ := (HH.out.2.grow gw2).at hz
        injection e' with e'
        injection e' with e1 e2
        subst e1 e2
        have HZ2 := Lib.hid (getD_of (d := (default : Note)) hz)
        clear hz
        go_upto_region 12 with (fail)
        refine wp_region_gr (by kernel_rfl) (by kernel_rfl) ?_
        repeat (go_big_quiet_step (fail))
        cases hp : (z.name.toList == x.name.toList)
        · have HQ := Lib.hid (show (!((noteAt s k).book == x.book && (noteAt s k).name.toList == x.name.toList)) = true by rw [show noteAt s k = z from HZ2.out, hp]; simp)
          repeat (go_big_quiet_step (fail))
          refine wpQuiet_nil ?_
          rintro _ ⟨y, rfl⟩
          go_wp2_with fail
          go_roundw
          case rel => exact ⟨hg2.trans y.g, k + 1, by go_num, by omega, fun m hm => by
            rcases (by omega : m < k ∨ m = k) with h3 | rfl
            · exact HB.out m h3
            · exact HQ.out⟩
          case measure => simp [intOf]; omega
        repeat (go_big_quiet_step (fail))
        by_cases hq : z.book = x.book
        · have HN := Lib.hid (show refNotesB s = false by
            rw [HP.out]
            refine allTo_no hlt ?_
            rw [HK.out]
            exact allTo_no hkj (by rw [show noteAt s k = z from HZ2.out, hp, hq]; simp))
          refine wpQuiet_nil ?_
          rintro _ ⟨y, rfl⟩
          go_wp2_with fail
          go_ret
          exact ⟨ret_bool HN.out.symm, gw2.trans y.g⟩
        · have HQ := Lib.hid (show (!((noteAt s k).book == x.book && (noteAt s k).name.toList == x.name.toList)) = true by rw [show noteAt s k = z from HZ2.out, hp, show (z.book == x.book) = false by rw [beq_eq_false_iff_ne]; exact hq]; simp)
          refine wpQuiet_nil ?_
          rintro _ ⟨y, rfl⟩
          go_wp2_with fail
          go_roundw
          case rel => exact ⟨hg2.trans y.g, k + 1, by go_num, by omega, fun m hm => by
            rcases (by omega : m < k ∨ m = k) with h3 | rfl
            · exact HB.out m h3
            · exact HQ.out⟩
          case measure => simp [intOf]; omega
end Go.Proofs.YtbdbmigkcpgmkaaDoor
set_option linter.unusedVariables false
set_option linter.unusedSimpArgs false
namespace Go.Proofs.YtbdbmigkcpgmkaaDoor
open Go.RowKit Go.Lib
def allSheets (s : Shelf) : List Int := s.notes.flatMap (·.sheets)
def FewSheets (s : Shelf) : Prop := s.notes.length ≤ 1000 ∧ ∀ n ∈ s.notes, n.sheets.length ≤ 1000
theorem FewSheets.le {s : Shelf} (h : FewSheets s) (j : Nat) : ((s.notes.take j).flatMap (·.sheets)).length ≤ 1000000 := by
  have := flat_le (fun n : Note => n.sheets) 1000 (s.notes.take j) (fun x hx => h.2 x (List.mem_of_mem_take hx))
  have h2 : (s.notes.take j).length ≤ 1000 := by rw [List.length_take]; have := h.1; omega
  have := Nat.mul_le_mul_right 1000 h2
  omega
theorem take_fm {α β : Type} (f : α → List β) {l : List α} {i : Nat} {x : α} (hx : l[i]? = some x) : (l.take (i + 1)).flatMap f = (l.take i).flatMap f ++ f x := by
  obtain ⟨hi, e⟩ := List.getElem?_eq_some_iff.1 hx
  rw [List.take_succ_eq_append_getElem hi, e, List.flatMap_append]; simp
def RetInts (l : List Int) (w : World) (e : Ending) (w' : World) : Prop := ∃ v, e = .returned v ∧ Ints w' v l ∧ Grow w w'
set_option maxRecDepth 100000 in
set_option maxHeartbeats 1000000 in
theorem refSheets_all (s : Shelf) (bv nv : Value) (w : World) (h : ShelfR w s bv nv) (hz : FewSheets s) :
    Calls Tryd.prog 69 #[shelfV s bv nv] w (RetInts (allSheets s) w) := by
  obtain ⟨a1, c1, rfl⟩ := h.1.mk
  obtain ⟨a2, c2, rfl⟩ := h.2.mk
  have HH := Lib.hid h
  have HZ := Lib.hid hz
  have hn : s.notes.length ≤ 1000 := hz.1
  clear h hz
  unfold shelfV
  go_enter Tryd.func69, Tryd.ntmps69
  go_upto_region 1 with (fail)
  generalize hV : w.alloc (.cells #[.int .i64 s.nb, .int .i64 s.nn, .int .i64 s.ns, .slice a1 s.books.length c1, .slice a2 s.notes.length c2] 36) = V
  have gV : Grow w V := by rw [← hV]; exact (Grow.refl w).alloc _
  have hbox : V.heap[w.heap.size]? = some (.cells #[.int .i64 s.nb, .int .i64 s.nn, .int .i64 s.ns, .slice a1 s.books.length c1, .slice a2 s.notes.length c2] 36 (0, 0)) := by rw [← hV]; exact heap_alloc_new w _
  clear hV
  have HB := Lib.hid hbox
  have hO : OwnL IntR 3 1 w (.slice none 0 0) [] V := OwnL.start gV
  have HO := Lib.hid hO
  clear hO hbox
  go_wp2_with fail
  go_loopw [3, 4] (fun v3 v4 wx => ∃ j : Nat, v4 = .int .i64 j ∧ j ≤ s.notes.length ∧ OwnL IntR 3 1 w v3 ((s.notes.take j).flatMap (·.sheets)) wx ∧ Kept 3 V wx) (fun _ v4 _ => s.notes.length - (intOf v4).toNat)
  case atStart => exact ⟨0, rfl, by omega, by simpa using HO.out, Kept.refl _ _⟩
  case round =>
    obtain ⟨j, rfl, hj, ho, hk⟩ := hrel
    have HO2 := Lib.hid ho
    have gr := ho.grow
    have HK := Lib.hid hk
    have q4 : wr.cell? ⟨w.heap.size, 4, none⟩ = some (.slice a2 s.notes.length c2) := hk.cell (by decide) HB.out 4 _ rfl
    clear ho hk HO
    by_cases hlt : j < s.notes.length
    · have hlt' : (j : Int) < s.notes.length := by omega
      obtain ⟨x, hx, -⟩ := lt_get hlt
      obtain ⟨bb, off, tv, sv, rfl, hbb, p0, p1, p2, p3, p4, htv, hsv⟩ := HH.out.2.at hx
      replace p4 := (gr.cells _ _ hbb).trans p4
      obtain ⟨as_, cs, rfl⟩ := hsv.mk
      have HS := Lib.hid (hsv.grow gr)
      have HF := Lib.hid (take_fm (·.sheets) hx)
      have hle := HZ.out.le j
      have hxl := HZ.out.2 x (List.mem_of_getElem? hx)
      obtain ⟨xs, hxs⟩ := HO2.out
      have HXS := Lib.hid hxs
      obtain ⟨i0, hi0, hz0, hz1, hz2⟩ := info_parts info_int
      clear hx hsv htv p0 p1 p2 p3 hxs
      go_wp2_with (at_builtin; refine app_reads rfl _ _ 58 rfl 3 i0 (.int .i64 0) 8 Tryd.underlying58 hi0 hz0 hz1 hz2 rfl (by decide) _ (.slice as_ x.sheets.length cs) _ xs rfl HXS.out.1 rfl HS.out (one_int _) (by omega) (by decide) ?_; intro v' w' hout; have HOUT := Lib.hid hout; clear hout)
      go_roundw
      case rel => exact ⟨j + 1, by go_num, by omega, by rw [HF.out]; exact HO2.out.app HXS.out HOUT.out (fun _ _ _ h => h), HK.out.trans (AppOut.kept HXS.out.1 HOUT.out)⟩
      case measure => simp [intOf]; omega
    · have hlt' : ¬ (j : Int) < s.notes.length := by omega
      have HR : Hid (OwnL IntR 3 1 w u3 (allSheets s) wr) := by
        have := HO2.out
        rw [List.take_of_length_le (by omega)] at this
        exact Lib.hid this
      go_wp2_with fail
      go_ret
      have hrd := HR.out.reads' (fun _ _ _ _ h => h)
      exact ⟨_, rfl, hrd, gr⟩
/-! sheets -/
def sheetAt (l : List Int) (i : Nat) : Int := l.getD i 0
def refSheetOk (ns : Int) (l : List Int) (i : Nat) : Bool := (decide (1 ≤ sheetAt l i) && decide (sheetAt l i ≤ ns - 1)) && allTo i fun k => !(sheetAt l k == sheetAt l i)
def refSheetsB (s : Shelf) : Bool := (decide (1 ≤ s.ns) && decide (s.ns ≤ 4096)) && allTo (allSheets s).length (refSheetOk s.ns (allSheets s))
set_option maxRecDepth 100000 in
set_option maxHeartbeats 2000000 in
theorem refSheets_any (s : Shelf) (bv nv : Value) (w : World) (h : ShelfR w s bv nv) (hz : FewSheets s) :
    Calls Tryd.prog 58 #[shelfV s bv nv] w fun e w' => e = .returned (.bool (refSheetsB s)) ∧ Grow w w' := by
  obtain ⟨a1, c1, rfl⟩ := h.1.mk
  obtain ⟨a2, c2, rfl⟩ := h.2.mk
  have HH := Lib.hid h
  have HZ := Lib.hid hz
  clear h hz
  unfold shelfV
  go_enter Tryd.func58, Tryd.ntmps58
  go_upto_region 1 with (fail)
  generalize hV : w.alloc (.cells #[.int .i64 s.nb, .int .i64 s.nn, .int .i64 s.ns, .slice a1 s.books.length c1, .slice a2 s.notes.length c2] 36) = V
  have gV : Grow w V := by rw [← hV]; exact (Grow.refl w).alloc _
  have hsz : w.heap.size < V.heap.size := by rw [← hV]; simp
  have Q : V.cell? ⟨w.heap.size, 0, none⟩ = some (.int .i64 s.nb) ∧ V.cell? ⟨w.heap.size, 1, none⟩ = some (.int .i64 s.nn) ∧ V.cell? ⟨w.heap.size, 2, none⟩ = some (.int .i64 s.ns) ∧ V.cell? ⟨w.heap.size, 3, none⟩ = some (.slice a1 s.books.length c1) ∧ V.cell? ⟨w.heap.size, 4, none⟩ = some (.slice a2 s.notes.length c2) := by rw [← hV]; simp [go_sem]
  obtain ⟨q0, q1, q2, q3, q4⟩ := Q
  clear hV
  by_cases e2 : 1 ≤ s.ns
  case neg =>
    have e2' : s.ns < 1 := by omega
    have HN := Lib.hid (show refSheetsB s = false by unfold refSheetsB; rw [decide_eq_false e2]; simp)
    go_wp2_with fail
    go_ret
    exact ⟨ret_bool HN.out.symm, gV⟩
  have e2' : ¬ s.ns < 1 := by omega
  by_cases e3 : s.ns ≤ 4096
  case neg =>
    have e3' : 4096 < s.ns := by omega
    have HN := Lib.hid (show refSheetsB s = false by unfold refSheetsB; rw [decide_eq_false e3]; simp)
    go_wp2_with fail
    go_ret
    exact ⟨ret_bool HN.out.symm, gV⟩
  have e3' : ¬ 4096 < s.ns := by omega
  have HP := Lib.hid (show refSheetsB s = allTo (allSheets s).length (refSheetOk s.ns (allSheets s)) by unfold refSheetsB; rw [decide_eq_true e2, decide_eq_true e3]; rfl)
  have cA := refSheets_all s _ _ V (HH.out.grow gV) HZ.out
  unfold shelfV at cA
  go_wp2_with fail
  refine cA.mono ?_
  rintro e V1 ⟨v, rfl, hv, g1⟩
  have hll : (allSheets s).length ≤ 1000000 := by have := HZ.out.le s.notes.length; rw [List.take_of_length_le (by omega)] at this; exact this
  generalize allSheets s = L at *
  obtain ⟨al, cl, rfl⟩ := hv.mk
  have HV := Lib.hid hv
  have gV1 := gV.trans g1
  replace q2 := (g1.cells _ _ hsz).trans q2
  have hsz1 : w.heap.size < V1.heap.size := by have := g1.size; omega
  clear hv cA q0 q1 q3 q4 g1 gV
  go_wp2_with fail
  go_loopw [4] (fun v4 wx => Grow V1 wx ∧ ∃ j : Nat, v4 = .int .i64 j ∧ j ≤ L.length ∧ ∀ k, k < j → refSheetOk s.ns L k = true) (fun v4 _ => L.length - (intOf v4).toNat)
  case atStart => exact ⟨Grow.refl _, 0, rfl, by omega, fun k h => absurd h (by omega)⟩
  case round =>
    obtain ⟨hgr, j, rfl, hj, hall⟩ := hrel
    have HA := Lib.hid hall
    clear hall
    have gw := gV1.trans hgr
    replace q2 := (hgr.cells _ _ hsz1).trans q2
    have hsr : w.heap.size < wr.heap.size := by have := hgr.size; omega
    by_cases hlt : j < L.length
    case neg =>
      have hlt' : ¬ (j : Int) < L.length := by omega
      have HR := Lib.hid (show refSheetsB s = true by rw [HP.out]; exact allTo_yes (fun k hk => HA.out k (by omega)))
      go_wp2_with fail
      go_ret
      exact ⟨ret_bool HR.out.symm, gw⟩
    have hlt' : (j : Int) < L.length := by omega
    obtain ⟨x, hx, -⟩ := lt_get hlt
    obtain ⟨bb, off, rfl, hbb, p0⟩ := (HV.out.grow hgr).at hx
    have HX := Lib.hid (show sheetAt L j = x from getD_of hx)
    clear hx
    go_upto_region 7 with (fail)
    refine wp_region_gr (by kernel_rfl) (by kernel_rfl) ?_
    repeat (go_big_quiet_step (fail))
    by_cases f1 : x < 1
    · rw [decide_eq_true f1]
      have HN := Lib.hid (show refSheetsB s = false by
        rw [HP.out]; exact allTo_no hlt (by unfold refSheetOk; rw [HX.out, decide_eq_false (show ¬ 1 ≤ x by omega)]; rfl))
      repeat (go_big_quiet_step (fail))
      refine wpQuiet_nil ?_
      rintro _ ⟨y, rfl⟩
      go_wp2_with fail
      go_ret
      exact ⟨ret_bool HN.out.symm, gw.trans y.g⟩
    rw [decide_eq_false f1]
    repeat (go_big_quiet_step (fail))
    by_cases f2 : s.ns ≤ x
    · rw [decide_eq_true f2]
      have HN := Lib.hid (show refSheetsB s = false by
        rw [HP.out]; exact allTo_no hlt (by unfold refSheetOk; rw [HX.out, decide_eq_false (show ¬ x ≤ s.ns - 1 by omega)]; simp))
      refine wpQuiet_nil ?_
      rintro _ ⟨y, rfl⟩
      go_wp2_with fail
      go_ret
      exact ⟨ret_bool HN.out.symm, gw.trans y.g⟩
    rw [decide_eq_false f2]
    refine wpQuiet_nil ?_
    rintro _ ⟨y, rfl⟩
    have HK := Lib.hid (show refSheetOk s.ns L j = allTo j fun k => !(sheetAt L k == x) by unfold refSheetOk; rw [HX.out, decide_eq_true (show 1 ≤ x by omega), decide_eq_true (show x ≤ s.ns - 1 by omega)]; rfl)
    generalize hyW : y.W = wy
    have gy : Grow wr wy := by rw [← hyW]; exact y.g
    replace q2 := (gy.cells _ _ hsr).trans q2
    replace p0 := (gy.cells _ _ hbb).trans p0
    have hbby : bb < wy.heap.size := by have := gy.size; omega
    have hszy : w.heap.size < wy.heap.size := by have := gy.size; omega
    clear hyW y
    go_wp2_with fail
    go_loopw [5] (fun v5 wx => Grow wy wx ∧ ∃ k : Nat, v5 = .int .i64 k ∧ k ≤ j ∧ ∀ m, m < k → (!(sheetAt L m == x)) = true) (fun v5 _ => j - (intOf v5).toNat)
    case atStart => exact ⟨Grow.refl _, 0, rfl, by omega, fun m h => absurd h (by omega)⟩
    case round =>
      obtain ⟨hg2, k, rfl, hk, hall2⟩ := hrel
      have HB := Lib.hid hall2
      clear hall2
      have gw2 := (gw.trans gy).trans hg2
      replace q2 := (hg2.cells _ _ hszy).trans q2
      replace p0 := (hg2.cells _ _ hbby).trans p0
      by_cases hkj : k < j
      case neg =>
        have hkj' : ¬ (k : Int) < j := by omega
        have HO := Lib.hid (show refSheetOk s.ns L j = true by
          rw [HK.out]; exact allTo_yes (fun m hm => HB.out m (by omega)))
        go_wp2_with fail
        go_roundw
        case rel => exact ⟨(hgr.trans gy).trans hg2, j + 1, by go_num, by omega, fun m hm => by
          rcases (by omega : m < j ∨ m = j) with h3 | rfl
          · exact HA.out m h3
          · exact HO.out⟩
        case measure => simp [intOf]; omega
      have hkj' : (k : Int) < j := by omega
      have hks : (k : Int) < L.length := by omega
      obtain ⟨z, hz, -⟩ := lt_get (l := L) (i := k) (by omega)
      obtain ⟨b2, off2, e', hb2, k0⟩ := (HV.out.grow ((hgr.trans gy).trans hg2)).at hz
      injection e' with e'
      injection e' with e1 e2
      subst e1 e2
      have HZ2 := Lib.hid (show sheetAt L k = z from getD_of hz)
      clear hz
      go_upto_region 12 with (fail)
      refine wp_region_gr (by kernel_rfl) (by kernel_rfl) ?_
      repeat (go_big_quiet_step (fail))
      refine wpQuiet_nil ?_
      rintro _ ⟨y, rfl⟩
      by_cases hq : z = x
      · have HN := Lib.hid (show refSheetsB s = false by
          rw [HP.out]
          refine allTo_no hlt ?_
          rw [HK.out]
          exact allTo_no hkj (by rw [HZ2.out, hq]; simp))
        go_wp2_with fail
        go_ret
        exact ⟨ret_bool HN.out.symm, gw2.trans y.g⟩
      · have HQ := Lib.hid (show (!(sheetAt L k == x)) = true by rw [HZ2.out, show (z == x) = false by rw [beq_eq_false_iff_ne]; exact hq]; rfl)
        go_wp2_with fail
        go_roundw
        case rel => exact ⟨hg2.trans y.g, k + 1, by go_num, by omega, fun m hm => by
          rcases (by omega : m < k ∨ m = k) with h3 | rfl
          · exact HB.out m h3
          · exact HQ.out⟩
        case measure => simp [intOf]; omega
end Go.Proofs.YtbdbmigkcpgmkaaDoor
set_option linter.unusedVariables false
set_option linter.unusedSimpArgs false
namespace Go.Proofs.YtbdbmigkcpgmkaaDoor
open Go.RowKit Go.Lib
theorem sheetsOk_iff (ns : Int) : ∀ (L S : List Int), sheetsOk ns S L = true ↔ (∀ y ∈ L, 1 ≤ y ∧ y ≤ ns - 1) ∧ L.Nodup ∧ ∀ y ∈ L, y ∉ S
  | [], S => by simp [sheetsOk]
  | x :: L, S => by
    have ih := sheetsOk_iff ns L (x :: S)
    unfold sheetsOk
    rw [Bool.and_eq_true, Bool.and_eq_true, Bool.and_eq_true, ih, decide_eq_true_eq, decide_eq_true_eq, Bool.not_eq_true', decide_eq_false_iff_not, List.nodup_cons]
    constructor
    · rintro ⟨⟨h1, h2, h3⟩, h4, h5, h6⟩
      refine ⟨fun y hy => ?_, ⟨fun hx => h6 x hx (List.mem_cons_self), h5⟩, fun y hy => ?_⟩
      · rcases List.mem_cons.1 hy with rfl | hy
        · exact ⟨h2, h3⟩
        · exact h4 y hy
      · rcases List.mem_cons.1 hy with rfl | hy
        · exact h1
        · exact fun h => h6 y hy (List.mem_cons_of_mem _ h)
    · rintro ⟨h1, ⟨h2, h3⟩, h4⟩
      have hx := h1 x List.mem_cons_self
      refine ⟨⟨h4 x List.mem_cons_self, hx.1, hx.2⟩, fun y hy => h1 y (List.mem_cons_of_mem _ hy), h3, fun y hy hm => ?_⟩
      rcases List.mem_cons.1 hm with rfl | hm
      · exact h2 hy
      · exact h4 y (List.mem_cons_of_mem _ hy) hm
theorem sheetAt_get {L : List Int} {i : Nat} (h : i < L.length) : sheetAt L i = L[i] := getD_of (List.getElem?_eq_getElem h)
theorem refSheetsOk_iff (ns : Int) (L : List Int) : allTo L.length (refSheetOk ns L) = true ↔ (∀ y ∈ L, 1 ≤ y ∧ y ≤ ns - 1) ∧ L.Nodup := by
  rw [allTo_iff]
  constructor
  · intro h
    refine ⟨fun y hy => ?_, ?_⟩
    · obtain ⟨i, hi, rfl⟩ := List.getElem_of_mem hy
      have h2 := h i hi
      unfold refSheetOk at h2
      rw [Bool.and_eq_true, Bool.and_eq_true, decide_eq_true_eq, decide_eq_true_eq, sheetAt_get hi] at h2
      exact h2.1
    · refine List.pairwise_iff_getElem.2 fun i j hi hj hij => ?_
      have h2 := h j hj
      unfold refSheetOk at h2
      rw [Bool.and_eq_true, allTo_iff] at h2
      have h3 := h2.2 i hij
      rw [Bool.not_eq_true', beq_eq_false_iff_ne, sheetAt_get hi, sheetAt_get hj] at h3
      exact h3
  · rintro ⟨h1, h2⟩ j hj
    unfold refSheetOk
    rw [Bool.and_eq_true, Bool.and_eq_true, decide_eq_true_eq, decide_eq_true_eq, allTo_iff, sheetAt_get hj]
    refine ⟨h1 _ (List.getElem_mem hj), fun k hk => ?_⟩
    rw [Bool.not_eq_true', beq_eq_false_iff_ne, sheetAt_get (by omega)]
    exact List.pairwise_iff_getElem.1 h2 k j (by omega) hj hk
theorem refSheetsOk_eq (ns : Int) (L : List Int) : allTo L.length (refSheetOk ns L) = sheetsOk ns [] L := by
  rw [Bool.eq_iff_iff, refSheetsOk_iff, sheetsOk_iff]
  simp
theorem refMay_eq (s : Shelf) : (refBooksB s && refNotesB s && refSheetsB s) = mayS s := by
  unfold refBooksB refNotesB refSheetsB mayS mayHead
  rw [refSheetsOk_eq, show allSheets s = s.notes.flatMap (·.sheets) from rfl]
  generalize allTo s.books.length (bookOk s) = A
  generalize allTo s.notes.length (noteOk s) = B
  generalize sheetsOk s.ns [] (s.notes.flatMap (·.sheets)) = C
  generalize (decide (1 ≤ s.nb) && decide (s.nb ≤ 65536)) = D
  generalize (decide (1 ≤ s.nn) && decide (s.nn ≤ 65536)) = E
  generalize (decide (1 ≤ s.ns) && decide (s.ns ≤ 4096)) = F
  generalize decide (s.books.length ≤ 6) = G
  generalize decide (s.notes.length ≤ 12) = H
  cases A <;> cases B <;> cases C <;> cases D <;> cases E <;> cases F <;> cases G <;> cases H <;> rfl
theorem few_of {s : Shelf} (h : refNotesB s = true) : FewSheets s := by
  unfold refNotesB at h
  rw [Bool.and_eq_true, Bool.and_eq_true, decide_eq_true_eq, allTo_iff] at h
  obtain ⟨⟨h1, -⟩, h2⟩ := h
  refine ⟨by omega, fun n hn => ?_⟩
  obtain ⟨i, hi, rfl⟩ := List.getElem_of_mem hn
  have h3 := h2 i hi
  unfold noteOk at h3
  rw [Bool.and_eq_true] at h3
  have h4 := h3.1
  unfold noteHead at h4
  rw [Bool.and_eq_true, decide_eq_true_eq, show noteAt s i = s.notes[i] from getD_of (List.getElem?_eq_getElem hi)] at h4
  have := h4.2
  omega
set_option maxRecDepth 100000 in
set_option maxHeartbeats 1000000 in
theorem refMay_any (s : Shelf) (bv nv : Value) (w : World) (h : ShelfR w s bv nv) (hz : TameS s) :
    Calls Tryd.prog 43 #[shelfV s bv nv] w fun e w' => e = .returned (.bool (mayS s)) ∧ Grow w w' := by
  have g0 : Grow w (w.alloc (.cells #[.int .i64 s.nb, .int .i64 s.nn, .int .i64 s.ns, bv, nv] 36)) := (Grow.refl w).alloc _
  have c1 := refBooks_any s bv nv _ (h.grow g0) hz
  have cN := fun W (g : Grow w W) => refNotes_any s bv nv W (h.grow g) hz
  have cS := fun W (g : Grow w W) (hf : FewSheets s) => refSheets_any s bv nv W (h.grow g) hf
  have HE := Lib.hid (refMay_eq s)
  have hbox : (w.alloc (.cells #[.int .i64 s.nb, .int .i64 s.nn, .int .i64 s.ns, bv, nv] 36)).heap[w.heap.size]? = some (.cells #[.int .i64 s.nb, .int .i64 s.nn, .int .i64 s.ns, bv, nv] 36 (0, 0)) := heap_alloc_new w _
  obtain ⟨a1, k1, rfl⟩ := h.1.mk
  obtain ⟨a2, k2, rfl⟩ := h.2.mk
  clear h hz
  unfold shelfV at c1 cN cS ⊢
  have HB := Lib.hid hbox
  have hlt : w.heap.size < (w.alloc (.cells #[.int .i64 s.nb, .int .i64 s.nn, .int .i64 s.ns, .slice a1 s.books.length k1, .slice a2 s.notes.length k2] 36)).heap.size := by simp
  have HL := Lib.hid hlt
  clear hbox hlt
  cases e1 : refBooksB s
  · rw [e1] at c1
    have HN := Lib.hid (show mayS s = false by rw [← HE.out, e1]; rfl)
    clear e1 HE
    go_enter Tryd.func43, Tryd.ntmps43
    go_wp2_with fail
    refine c1.mono ?_
    rintro e w1 ⟨rfl, g1⟩
    go_wp2_with fail
    go_ret
    exact ⟨ret_bool HN.out.symm, g0.trans g1⟩
  rw [e1] at c1
  cases e2 : refNotesB s
  · have HN := Lib.hid (show mayS s = false by rw [← HE.out, e2]; simp)
    rw [e2] at cN
    clear e1 e2 HE
    go_enter Tryd.func43, Tryd.ntmps43
    go_wp2_with fail
    refine c1.mono ?_
    rintro e w1 ⟨rfl, g1⟩
    have hb1 := (Below.block g1 _ HL.out).trans HB.out
    have x0 := (cell_of_row w1 w.heap.size 0 _ _ _ hb1).trans rfl
    have x1 := (cell_of_row w1 w.heap.size 1 _ _ _ hb1).trans rfl
    have x2 := (cell_of_row w1 w.heap.size 2 _ _ _ hb1).trans rfl
    have x3 := (cell_of_row w1 w.heap.size 3 _ _ _ hb1).trans rfl
    have x4 := (cell_of_row w1 w.heap.size 4 _ _ _ hb1).trans rfl
    clear hb1
    go_wp2_with fail
    refine (cN w1 (g0.trans g1)).mono ?_
    rintro e w2 ⟨rfl, g2⟩
    go_wp2_with fail
    go_ret
    exact ⟨ret_bool HN.out.symm, (g0.trans g1).trans g2⟩
  have HF := Lib.hid (few_of e2)
  have HN := Lib.hid (show refSheetsB s = mayS s by rw [← HE.out, e1, e2]; rfl)
  rw [e2] at cN
  clear e1 e2 HE
  go_enter Tryd.func43, Tryd.ntmps43
  go_wp2_with fail
  refine c1.mono ?_
  rintro e w1 ⟨rfl, g1⟩
  have hb1 := (Below.block g1 _ HL.out).trans HB.out
  have HB1 := Lib.hid hb1
  have x0 := (cell_of_row w1 w.heap.size 0 _ _ _ hb1).trans rfl
  have x1 := (cell_of_row w1 w.heap.size 1 _ _ _ hb1).trans rfl
  have x2 := (cell_of_row w1 w.heap.size 2 _ _ _ hb1).trans rfl
  have x3 := (cell_of_row w1 w.heap.size 3 _ _ _ hb1).trans rfl
  have x4 := (cell_of_row w1 w.heap.size 4 _ _ _ hb1).trans rfl
  clear hb1
  go_wp2_with fail
  refine (cN w1 (g0.trans g1)).mono ?_
  rintro e w2 ⟨rfl, g2⟩
  clear x0 x1 x2 x3 x4
  have hb2 := (Below.block g2 _ (Array.getElem?_eq_some_iff.1 HB1.out).1).trans HB1.out
  have x0 := (cell_of_row w2 w.heap.size 0 _ _ _ hb2).trans rfl
  have x1 := (cell_of_row w2 w.heap.size 1 _ _ _ hb2).trans rfl
  have x2 := (cell_of_row w2 w.heap.size 2 _ _ _ hb2).trans rfl
  have x3 := (cell_of_row w2 w.heap.size 3 _ _ _ hb2).trans rfl
  have x4 := (cell_of_row w2 w.heap.size 4 _ _ _ hb2).trans rfl
  clear hb2
  go_wp2_with fail
  refine (cS w2 ((g0.trans g1).trans g2) HF.out).mono ?_
  rintro e w3 ⟨rfl, g3⟩
  go_wp2_with fail
  go_ret
  exact ⟨ret_bool HN.out, ((g0.trans g1).trans g2).trans g3⟩
end Go.Proofs.YtbdbmigkcpgmkaaDoor
set_option linter.unusedVariables false
set_option linter.unusedSimpArgs false
namespace Go.Proofs.YtbdbmigkcpgmkaaDoor
open Go.RowKit Go.Lib
set_option maxRecDepth 100000 in
set_option maxHeartbeats 1000000 in
theorem rput_any (v : Value) (l : List UInt8) (n : Int) (size : Nat) (W0 w : World) (h : Buf W0 v l w) (hs : size ≤ 8) (hl : l.length ≤ 100000000000) :
    Calls Tryd.prog 44 #[v, .int .i64 n, .int .i64 size] w (Grown W0 l (putB n size) w) := by
  have hB := Lib.hid h
  clear h
  go_enter Tryd.func44, Tryd.ntmps44
  go_wp2
  go_loopw [0, 7] (fun v0 v7 wx => ∃ (j : Nat) (m : List UInt8), v7 = .int .i64 ((j : Int) - 1) ∧ j ≤ size ∧ Buf W0 v0 (l ++ m) wx ∧ Kept 5 w wx ∧ m ++ putB n j = putB n size) (fun _ v7 _ => (intOf v7 + 1).toNat)
  case atStart => exact ⟨size, [], by go_num, by omega, by rw [List.append_nil]; exact hB.out, Kept.refl _ _, rfl⟩
  case round =>
    obtain ⟨j, m, rfl, hj, hb, hk, hm⟩ := hrel
    have HB := Lib.hid hb
    have HM := Lib.hid hm
    clear hb hm hB
    cases j with
    | zero =>
      rw [show ((0 : Nat) : Int) - 1 = -1 from rfl]
      go_wp2_with fail
      go_ret
      exact ⟨_, rfl, by have := HB.out; rw [← HM.out, putB, List.append_nil]; exact this, hk⟩
    | succ j =>
      have hml : m.length ≤ 8 := by
        have := congrArg List.length HM.out
        rw [List.length_append, putB_length, putB_length] at this; omega
      go_wp2_with (at_builtin; refine app_byte rfl _ _ rfl _ (l ++ m) rfl W0 wr ?_ _ ?_ rfl ?_ ?_; exact HB.out; exact ⟨Int.emod_nonneg _ (by decide), Int.emod_lt_of_pos _ (by decide)⟩; rw [List.length_append]; omega; intro v' w' hb' hk'; have HB' := Lib.hid hb'; clear hb')
      go_roundw
      case rel => exact ⟨j, m ++ [byteN n j], by go_num, by omega, by rw [← List.append_assoc]; exact HB'.out, hk.trans hk', by rw [List.append_assoc]; exact HM.out⟩
      case measure => simp [intOf]
set_option maxRecDepth 100000 in
theorem rtext_any (v : Value) (l : List UInt8) (s : ByteArray) (W0 w : World) (h : Buf W0 v l w) (hs : s.size ≤ 1000000) (hl : l.length ≤ 10000000000) :
    Calls Tryd.prog 45 #[v, .string s] w (Grown W0 l (putB s.size 1 ++ s.data.toList) w) := by
  have c1 := rput_any v l s.size 1 W0 w h (by omega) (by omega)
  clear h
  go_enter Tryd.func45, Tryd.ntmps45
  go_wp2_with fail
  refine c1.mono ?_
  rintro e w1 ⟨v1, rfl, hb1, hk1⟩
  have HB := Lib.hid hb1
  clear hb1
  go_wp2_with (at_builtin; refine app_str rfl _ _ rfl _ (l ++ putB s.size 1) rfl W0 ?_ s rfl ?_ ?_; exact HB.out; rw [List.length_append, putB_length]; omega; intro v' w' hb' hk'; have HB' := Lib.hid hb'; clear hb')
  go_ret
  exact grown_ret rfl (by rw [← List.append_assoc]; exact HB'.out) (hk1.trans hk')
end Go.Proofs.YtbdbmigkcpgmkaaDoor
set_option linter.unusedVariables false
set_option linter.unusedSimpArgs false
namespace Go.Proofs.YtbdbmigkcpgmkaaDoor
open Go.RowKit Go.Lib
theorem bx {w V w1 : World} {B bb off j : Nat} {u0 u1 u2 u3 u4 : Value} {i : Int} {n : ByteArray} (hX : V.heap[B]? = some (.cells #[u0, u1, u2, u3, u4] 36 (0, 0))) (hk : Kept 5 V w1) (hg : Grow w w1) (hbb : bb < w.heap.size)
    (p0 : w.cell? ⟨bb, off + j * 2, none⟩ = some (.int .i64 i)) (p1 : w.cell? ⟨bb, off + j * 2 + 1, none⟩ = some (.string n)) :
    w1.cell? ⟨B, 3, none⟩ = some u3 ∧ w1.cell? ⟨bb, off + j * 2, none⟩ = some (.int .i64 i) ∧ w1.cell? ⟨bb, off + j * 2 + 1, none⟩ = some (.string n) :=
  ⟨hk.cell (by decide) hX 3 _ rfl, (hg.cells _ _ hbb).trans p0, (hg.cells _ _ hbb).trans p1⟩
set_option maxRecDepth 100000 in
set_option maxHeartbeats 4000000 in
theorem rlay_any (s : Shelf) (bv nv : Value) (w : World) (h : ShelfR w s bv nv) (hz : TameS s) :
    Calls Tryd.prog 24 #[shelfV s bv nv] w (LayPost s w) := by
  have c0 := refMay_any s bv nv (w.alloc (.cells #[.int .i64 s.nb, .int .i64 s.nn, .int .i64 s.ns, bv, nv] 36)) (h.grow ((Grow.refl w).alloc _)) hz
  obtain ⟨a1, c1, rfl⟩ := h.1.mk
  obtain ⟨a2, c2, rfl⟩ := h.2.mk
  have HH := Lib.hid h
  have HZ := Lib.hid hz
  clear h hz
  unfold shelfV at c0 ⊢
  go_enter Tryd.func24, Tryd.ntmps24
  go_wp2_with fail
  refine c0.mono ?_
  rintro e V ⟨rfl, gM⟩
  have gV : Grow w V := ((Grow.refl w).alloc _).trans gM
  have hbox : V.heap[w.heap.size]? = some (.cells #[.int .i64 s.nb, .int .i64 s.nn, .int .i64 s.ns, .slice a1 s.books.length c1, .slice a2 s.notes.length c2] 36 (0, 0)) :=
    (Below.block gM w.heap.size (by simp)).trans (heap_alloc_new w _)
  clear gM
  cases hm : mayS s
  · have HM := Lib.hid hm
    clear hm
    go_wp2_with fail
    go_ret2
    exact .inl ⟨HM.out, rfl, gV⟩
  · have HM := Lib.hid hm
    have HS := Lib.hid (mayS_small hm)
    clear hm
    have n1 : s.books.length ≤ 6 := HS.out.1
    have n2 : s.notes.length ≤ 12 := HS.out.2.1
    have HX := Lib.hid hbox
    have p1 := rput_any (.slice none 0 0) [] s.nb 3 w V.drew (Own.start (e := 5) (k := 1) (gV.drew)) (by decide) (by decide)
    clear hbox
    go_upto_region 3 with (fail)
    have tok1 : True := trivial
    have tok2 : True := trivial
    have s0 := (Kept.refl 5 V.drew).box3 (by decide) HX.out
    go_region_held3 (fun w' => w'.cell? ⟨w.heap.size, 0, none⟩ = some (.int .i64 s.nb) ∧ w'.cell? ⟨w.heap.size, 1, none⟩ = some (.int .i64 s.nn) ∧ w'.cell? ⟨w.heap.size, 2, none⟩ = some (.int .i64 s.ns))
      (with_reducible (first | exact s3 | exact s2 | exact s1 | exact s0))
      (first
        | (go_at_call 44; have _t := tok1; refine p1.mono ?_; rintro e w1 ⟨v1, rfl, hb1, hk1⟩; have s1 := hk1.box3 (by decide) HX.out; have p2 := rput_any v1 _ s.nn 3 w w1 hb1 (by decide) (by simp [putB_length]); clear tok1)
        | (go_at_call 44; have _t := tok2; refine p2.mono ?_; rintro e w2 ⟨v2, rfl, hb2, hk2⟩; have s2 := (hk1.trans hk2).box3 (by decide) HX.out; have p3 := rput_any v2 _ s.ns 3 w w2 hb2 (by decide) (by simp [putB_length]); clear tok2)
        | (go_at_call 44; refine p3.mono ?_; rintro e w3 ⟨v3, rfl, hb3, hk3⟩; have s3 := ((hk1.trans hk2).trans hk3).box3 (by decide) HX.out))
    have K3 : Kept 5 V w3 := (hk1.trans hk2).trans hk3
    have HB := Lib.hid hb3
    have hg3 := hb3.grow
    obtain ⟨r3, r4⟩ := K3.box34 (by decide) HX.out
    clear s0 s1 s2 s3 p1 p2 p3 hb1 hb2 hb3 hk1 hk2 hk3 gV
    have c4 := rput_any v3 _ s.books.length 1 w w3 HB.out (by decide) (by simp [putB_length])
    go_wp2_with fail
    refine c4.mono ?_
    rintro e w4 ⟨v4, rfl, hb4, hk4⟩
    have K4 : Kept 5 V w4 := K3.trans hk4
    have HB4 := Lib.hid hb4
    obtain ⟨r3', r4'⟩ := K4.box34 (by decide) HX.out
    clear r3 r4 HB hk4 K3 c4 hg3 hb4
    go_wp2_with fail
    go_loopw [4, 5] (fun u4 x33 wx => ∃ j : Nat, x33 = .int .i64 j ∧ j ≤ s.books.length ∧ Buf w u4 (headB s ++ (s.books.take j).flatMap bookB) wx ∧ Kept 5 V wx) (fun _ x33 _ => s.books.length - (intOf x33).toNat)
    case atStart => exact ⟨0, rfl, by omega, by have := HB4.out; rw [List.take_zero, List.flatMap_nil, List.append_nil]; exact this, K4⟩
    case round =>
      obtain ⟨j, rfl, hj, hb, hk⟩ := hrel
      have HB := Lib.hid hb
      have hg := hb.grow
      have HK := Lib.hid hk
      clear HB4 K4 r3' r4'
      have hlen : (headB s ++ (s.books.take j).flatMap bookB).length ≤ 10000000 := by
        have := flat_le bookB 1000004 (s.books.take j) (fun x hm => bookB_le (HZ.out.1.2.2.1 x (List.mem_of_mem_take hm)))
        have h2 : (headB s).length = 10 := by unfold headB; simp [putB_length]
        rw [List.length_append, h2]
        have h3 : (s.books.take j).length ≤ 6 := by rw [List.length_take]; omega
        have h4 := Nat.mul_le_mul_right 1000004 h3
        omega
      have HL := Lib.hid hlen
      clear hb hlen
      obtain ⟨r3, r4⟩ := hk.box34 (by decide) HX.out
      clear hk
      by_cases hlt : j < s.books.length
      · have hlt' : (j : Int) < s.books.length := by omega
        obtain ⟨x, hx, -⟩ := lt_get hlt
        obtain ⟨bb, off, rfl, hbb, p0, p1⟩ := HH.out.1.at hx
        have hns := HZ.out.1.book hx
        have HXX := Lib.hid (show (s.books.take (j + 1)).flatMap bookB = (s.books.take j).flatMap bookB ++ bookB x by
          obtain ⟨hi, e⟩ := List.getElem?_eq_some_iff.1 hx
          rw [List.take_succ_eq_append_getElem hi, e, List.flatMap_append]; simp)
        clear hx
        go_upto_region 8 with (fail)
        have z1 : (0 : Int) ≤ (j : Int) := by omega
        have HP0 := Lib.hid p0
        have HP1 := Lib.hid p1
        have kd : Kept 5 V wr.drew := HK.out.trans (Kept.of_grow (Grow.refl wr).drew)
        have HKD := Lib.hid kd
        have tok1 : True := trivial
        have s0 := bx HX.out kd hg.drew hbb p0 p1
        have cc1 := rput_any u4 _ x.id 3 w wr.drew HB.out.drew (by decide) (by have := HL.out; omega)
        clear r3 r4 hg p0 p1 kd
        go_region_held3 (fun w' => w'.cell? ⟨w.heap.size, 3, none⟩ = some (.slice (some ⟨bb, off, none⟩) s.books.length c1) ∧ w'.cell? ⟨bb, off + j * 2, none⟩ = some (.int .i64 x.id) ∧ w'.cell? ⟨bb, off + j * 2 + 1, none⟩ = some (.string x.name))
          (with_reducible (first | exact s2 | exact s1 | exact s0))
          (first
            | (go_at_call 44; have _t := tok1; refine cc1.mono ?_; rintro e w1 ⟨v1, rfl, hb1, hk1⟩; have s1 := bx HX.out (HKD.out.trans hk1) hb1.grow hbb HP0.out HP1.out; have p2 := rtext_any v1 _ x.name w w1 hb1 hns (by rw [List.length_append, putB_length]; have := HL.out; omega); clear tok1)
            | (go_at_call 45; refine p2.mono ?_; rintro e w2 ⟨v2, rfl, hb2, hk2⟩; have s2 := bx HX.out ((HKD.out.trans hk1).trans hk2) hb2.grow hbb HP0.out HP1.out))
        have HB2 := Lib.hid hb2
        have kU : Kept 5 V w2 := (HKD.out.trans hk1).trans hk2
        clear s0 s1 s2 cc1 p2 hb1 hb2 hk1 hk2
        go_wp2_with fail
        go_roundw
        case rel => exact ⟨j + 1, by go_num, by omega, by rw [HXX.out]; have := HB2.out; unfold bookB textB; rw [List.append_assoc] at this; rw [← List.append_assoc (headB s)]; exact this, kU⟩
        case measure => simp [intOf]; omega
      · have hlt' : ¬ (j : Int) < s.books.length := by omega
        have HB5 : Hid (Buf w u4 (headB s ++ s.books.flatMap bookB) wr) := by
          have := HB.out
          rw [List.take_of_length_le (by omega)] at this
          exact Lib.hid this
        have HL5 : Hid ((headB s ++ s.books.flatMap bookB).length ≤ 10000000) := by
          have := HL.out
          rw [List.take_of_length_le (by omega)] at this
          exact Lib.hid this
        clear HB HL
        have c5 := rput_any u4 _ s.notes.length 1 w wr HB5.out (by decide) (by have := HL5.out; omega)
        go_wp2_with fail
        refine c5.mono ?_
        rintro e w5 ⟨v5, rfl, hb5, hk5⟩
        have K5 : Kept 5 V w5 := HK.out.trans hk5
        have HB6 := Lib.hid hb5
        clear r3 r4 hk5 HK c5 hg hb5 HB5
        obtain ⟨r3, r4⟩ := K5.box34 (by decide) HX.out
        generalize hP : headB s ++ s.books.flatMap bookB ++ putB s.notes.length 1 = Pre at *
        have HLL := Lib.hid (show Pre.length ≤ 10000001 by rw [← hP, List.length_append, putB_length]; have := HL5.out; omega)
        have HPP := Lib.hid hP
        clear hP HL5 hj hlt hlt'
        go_wp2_with fail
        go_loopw [4, 6] (fun u4 x53 wx => ∃ j : Nat, x53 = .int .i64 j ∧ j ≤ s.notes.length ∧ Buf w u4 (Pre ++ (s.notes.take j).flatMap noteB) wx ∧ Kept 5 V wx) (fun _ x53 _ => s.notes.length - (intOf x53).toNat)
        case atStart => exact ⟨0, rfl, by omega, by have := HB6.out; rw [List.take_zero, List.flatMap_nil, List.append_nil]; exact this, K5⟩
        case round =>
          obtain ⟨j, rfl, hj, hb, hk⟩ := hrel
          have HB := Lib.hid hb
          have hg := hb.grow
          have HK := Lib.hid hk
          clear HB6 K5 r3 r4
          have hlen : (Pre ++ (s.notes.take j).flatMap noteB).length ≤ 100000000 := by
            have := flat_le noteB 6000000 (s.notes.take j) (fun x hm => by
              have hm' := List.mem_of_mem_take hm
              obtain ⟨i, hi, e⟩ := List.getElem_of_mem hm'
              have := HS.out.2.2 x hm'
              exact noteB_le (HZ.out.note (i := i) (by rw [List.getElem?_eq_getElem hi, e])) this.1 this.2)
            have h2 := HLL.out
            rw [List.length_append]
            have h3 : (s.notes.take j).length ≤ 12 := by rw [List.length_take]; omega
            have h4 := Nat.mul_le_mul_right 6000000 h3
            omega
          have HL := Lib.hid hlen
          clear hb hlen
          obtain ⟨r3, r4⟩ := hk.box34 (by decide) HX.out
          clear hk
          by_cases hlt : j < s.notes.length
          · have hlt' : (j : Int) < s.notes.length := by omega
            obtain ⟨x, hx, -⟩ := lt_get hlt
            obtain ⟨bb, off, tv, sv, rfl, hbb, p0, p1, p2, p3, p4, htx, hsx⟩ := HH.out.2.at hx
            replace p0 := (hg.cells _ _ hbb).trans p0
            replace p1 := (hg.cells _ _ hbb).trans p1
            replace p2 := (hg.cells _ _ hbb).trans p2
            replace p3 := (hg.cells _ _ hbb).trans p3
            replace p4 := (hg.cells _ _ hbb).trans p4
            obtain ⟨ta, tc, rfl⟩ := htx.mk
            obtain ⟨sa, sc, rfl⟩ := hsx.mk
            have HTX := Lib.hid htx
            have HSX := Lib.hid hsx
            obtain ⟨hns, -, -, hts, -⟩ := HZ.out.note hx
            have HTS := Lib.hid hts
            have hsm := HS.out.2.2 x (List.mem_of_getElem? hx)
            have m1 : x.tags.length ≤ 4 := hsm.1
            have m2 : x.sheets.length ≤ 8 := hsm.2
            have HXX := Lib.hid (show (s.notes.take (j + 1)).flatMap noteB = (s.notes.take j).flatMap noteB ++ noteB x by
              obtain ⟨hi, e⟩ := List.getElem?_eq_some_iff.1 hx
              rw [List.take_succ_eq_append_getElem hi, e, List.flatMap_append]; simp)
            clear hx htx hsx hts hsm
            go_upto_region 14 with (fail)
            generalize hU : wr.alloc (.cells #[.int .i64 x.id, .int .i64 x.book, .string x.name, .slice ta x.tags.length tc, .slice sa x.sheets.length sc] 60) = U
            have gU : Grow wr U := by rw [← hU]; exact (Grow.refl wr).alloc _
            have hbox : U.heap[wr.heap.size]? = some (.cells #[.int .i64 x.id, .int .i64 x.book, .string x.name, .slice ta x.tags.length tc, .slice sa x.sheets.length sc] 60 (0, 0)) := by rw [← hU]; exact heap_alloc_new wr _
            clear hU
            have HU := Lib.hid hbox
            have tok1 : True := trivial
            have tok2 : True := trivial
            have s0 := (Kept.refl 5 U.drew).box3 (by decide) HU.out
            clear hbox r3 r4 hg p0 p1 p2 p3 p4
            have p1 := rput_any u4 _ x.id 3 w U.drew (HB.out.grow' gU.drew) (by decide) (by have := HL.out; omega)
            go_region_held3 (fun w' => w'.cell? ⟨wr.heap.size, 0, none⟩ = some (.int .i64 x.id) ∧ w'.cell? ⟨wr.heap.size, 1, none⟩ = some (.int .i64 x.book) ∧ w'.cell? ⟨wr.heap.size, 2, none⟩ = some (.string x.name))
              (with_reducible (first | exact s3 | exact s2 | exact s1 | exact s0))
              (first
                | (go_at_call 44; have _t := tok1; refine p1.mono ?_; rintro e w1 ⟨v1, rfl, hb1, hk1⟩; have s1 := hk1.box3 (by decide) HU.out; have p2 := rput_any v1 _ x.book 3 w w1 hb1 (by decide) (by rw [List.length_append, putB_length]; have := HL.out; omega); clear tok1)
                | (go_at_call 44; have _t := tok2; refine p2.mono ?_; rintro e w2 ⟨v2, rfl, hb2, hk2⟩; have s2 := (hk1.trans hk2).box3 (by decide) HU.out; have p3 := rtext_any v2 _ x.name w w2 hb2 hns (by rw [List.length_append, List.length_append, putB_length, putB_length]; have := HL.out; omega); clear tok2)
                | (go_at_call 45; refine p3.mono ?_; rintro e w3 ⟨v3, rfl, hb3, hk3⟩; have s3 := ((hk1.trans hk2).trans hk3).box3 (by decide) HU.out))
            have kU : Kept 5 U w3 := (hk1.trans hk2).trans hk3
            have kV : Kept 5 V w3 := (HK.out.trans (Kept.of_grow gU)).trans kU
            have hb3' : Buf w v3 (Pre ++ (s.notes.take j).flatMap noteB ++ (putB x.id 3 ++ putB x.book 3 ++ textB x.name)) w3 := by
              have := hb3; simp only [List.append_assoc, textB] at this ⊢; exact this
            have HB3 := Lib.hid hb3'
            have HL3 := Lib.hid (show (Pre ++ (s.notes.take j).flatMap noteB ++ (putB x.id 3 ++ putB x.book 3 ++ textB x.name)).length ≤ 110000000 by
              have := HL.out; have := textB_le hns; simp only [List.length_append, putB_length] at *; omega)
            clear s0 s1 s2 s3 p1 p2 p3 hb1 hb2 hb3 hk1 hk2 hk3 hb3' HB HK
            obtain ⟨r3, r4⟩ := kU.box34 (by decide) HU.out
            have c6 := rput_any v3 _ x.tags.length 1 w w3 HB3.out (by decide) (by have := HL3.out; omega)
            go_wp2_with fail
            refine c6.mono ?_
            rintro e w6 ⟨v6, rfl, hb6, hk6⟩
            replace kU := kU.trans hk6
            replace kV := kV.trans hk6
            have HB6 := Lib.hid hb6
            have HL6 := Lib.hid (show (Pre ++ (s.notes.take j).flatMap noteB ++ (putB x.id 3 ++ putB x.book 3 ++ textB x.name) ++ putB x.tags.length 1).length ≤ 110000001 by
              have := HL3.out; rw [List.length_append, putB_length]; omega)
            clear r3 r4 c6 hb6 hk6 HB3 HL3
            obtain ⟨r3, r4⟩ := kU.box34 (by decide) HU.out
            generalize hQ : Pre ++ (s.notes.take j).flatMap noteB ++ (putB x.id 3 ++ putB x.book 3 ++ textB x.name) ++ putB x.tags.length 1 = Pr2 at *
            have HQ := Lib.hid hQ
            clear hQ
            generalize hwb : wr.heap.size = wb at *
            clear hwb
            go_wp2_with fail
            go_loopw [4, 8] (fun u4 x75 wx => ∃ k : Nat, x75 = .int .i64 k ∧ k ≤ x.tags.length ∧ Buf w u4 (Pr2 ++ (x.tags.take k).flatMap textB) wx ∧ Kept 5 U wx ∧ Kept 5 V wx) (fun _ x75 _ => x.tags.length - (intOf x75).toNat)
            case atStart => exact ⟨0, rfl, by omega, by have := HB6.out; rw [List.take_zero, List.flatMap_nil, List.append_nil]; exact this, kU, kV⟩
            case round =>
              obtain ⟨k, rfl, hk, hb, hkU, hkV⟩ := hrel
              have HB := Lib.hid hb
              have hg := hb.grow
              clear HB6 kU kV r3 r4
              obtain ⟨r3, r4⟩ := hkU.box34 (by decide) HU.out
              have HL := Lib.hid (show (Pr2 ++ (x.tags.take k).flatMap textB).length ≤ 120000001 by
                have := flat_le textB 1000001 (x.tags.take k) (fun t hm => textB_le (HTS.out t (List.mem_of_mem_take hm)))
                have h2 := HL6.out
                rw [List.length_append]
                have h3 : (x.tags.take k).length ≤ 4 := by rw [List.length_take]; omega
                have h4 := Nat.mul_le_mul_right 1000001 h3
                omega)
              clear hb
              by_cases hlt2 : k < x.tags.length
              · have hlt2' : (k : Int) < x.tags.length := by omega
                obtain ⟨t, ht, -⟩ := lt_get hlt2
                obtain ⟨tb, tf, rfl, htb, pc⟩ := HTX.out.at ht
                replace pc := (hg.cells _ _ htb).trans pc
                have hts := HTS.out t (List.mem_of_getElem? ht)
                have HXT := Lib.hid (show (x.tags.take (k + 1)).flatMap textB = (x.tags.take k).flatMap textB ++ textB t by
                  obtain ⟨hi, e⟩ := List.getElem?_eq_some_iff.1 ht
                  rw [List.take_succ_eq_append_getElem hi, e, List.flatMap_append]; simp)
                have c7 := rtext_any u4 _ t w wr HB.out hts (by have := HL.out; omega)
                clear ht hg
                go_wp2_with fail
                refine c7.mono ?_
                rintro e w7 ⟨v7, rfl, hb7, hk7⟩
                have HB7 := Lib.hid hb7
                clear hb7 c7
                go_wp2_with fail
                go_roundw
                case rel => exact ⟨k + 1, by go_num, by omega, by rw [HXT.out, ← List.append_assoc]; exact HB7.out, hkU.trans hk7, hkV.trans hk7⟩
                case measure => simp [intOf]; omega
              · have hlt2' : ¬ (k : Int) < x.tags.length := by omega
                have HB7 : Hid (Buf w u4 (Pr2 ++ x.tags.flatMap textB) wr) := by
                  have := HB.out
                  rw [List.take_of_length_le (by omega)] at this
                  exact Lib.hid this
                have HL7 : Hid ((Pr2 ++ x.tags.flatMap textB).length ≤ 120000001) := by
                  have := HL.out
                  rw [List.take_of_length_le (by omega)] at this
                  exact Lib.hid this
                clear HB HL hg HL6
                have c8 := rput_any u4 _ x.sheets.length 1 w wr HB7.out (by decide) (by have := HL7.out; omega)
                go_wp2_with fail
                refine c8.mono ?_
                rintro e w8 ⟨v8, rfl, hb8, hk8⟩
                have hkU8 := hkU.trans hk8
                have hkV8 := hkV.trans hk8
                have HB8 := Lib.hid hb8
                clear r3 r4 c8 hb8 hk8 HB7 hkU hkV hlt2 hlt2' hk
                obtain ⟨r3, r4⟩ := hkU8.box34 (by decide) HU.out
                go_wp2_with fail
                go_loopw [4, 9] (fun u4 x91 wx => ∃ k : Nat, x91 = .int .i64 k ∧ k ≤ x.sheets.length ∧ Buf w u4 (Pr2 ++ x.tags.flatMap textB ++ putB x.sheets.length 1 ++ (x.sheets.take k).flatMap fun y => putB y 2) wx ∧ Kept 5 U wx ∧ Kept 5 V wx) (fun _ x91 _ => x.sheets.length - (intOf x91).toNat)
                case atStart => exact ⟨0, rfl, by omega, by have := HB8.out; rw [List.take_zero, List.flatMap_nil, List.append_nil]; exact this, hkU8, hkV8⟩
                case round =>
                  obtain ⟨k, rfl, hk, hb, hkU, hkV⟩ := hrel
                  have HB := Lib.hid hb
                  have hg := hb.grow
                  clear HB8 hkU8 hkV8 r3 r4
                  obtain ⟨r3, r4⟩ := hkU.box34 (by decide) HU.out
                  have HL := Lib.hid (show (Pr2 ++ x.tags.flatMap textB ++ putB x.sheets.length 1 ++ (x.sheets.take k).flatMap fun y => putB y 2).length ≤ 130000001 by
                    have := flat_le (fun y : Int => putB y 2) 2 (x.sheets.take k) (fun y hm => by rw [putB_length]; omega)
                    have h2 := HL7.out
                    simp only [List.length_append, putB_length] at h2 ⊢
                    have h3 : (x.sheets.take k).length ≤ 8 := by rw [List.length_take]; omega
                    omega)
                  clear hb
                  by_cases hlt2 : k < x.sheets.length
                  · have hlt2' : (k : Int) < x.sheets.length := by omega
                    obtain ⟨y, hy, -⟩ := lt_get hlt2
                    obtain ⟨tb, tf, rfl, htb, pc⟩ := HSX.out.at hy
                    replace pc := (hg.cells _ _ htb).trans pc
                    have HXT := Lib.hid (show ((x.sheets.take (k + 1)).flatMap fun y => putB y 2) = ((x.sheets.take k).flatMap fun y => putB y 2) ++ putB y 2 by
                      obtain ⟨hi, e⟩ := List.getElem?_eq_some_iff.1 hy
                      rw [List.take_succ_eq_append_getElem hi, e, List.flatMap_append]; simp)
                    have c9 := rput_any u4 _ y 2 w wr HB.out (by decide) (by have := HL.out; omega)
                    clear hy hg
                    go_wp2_with fail
                    refine c9.mono ?_
                    rintro e w9 ⟨v9, rfl, hb9, hk9⟩
                    have HB9 := Lib.hid hb9
                    clear hb9 c9
                    go_wp2_with fail
                    go_roundw
                    case rel => exact ⟨k + 1, by go_num, by omega, by rw [HXT.out, ← List.append_assoc]; exact HB9.out, hkU.trans hk9, hkV.trans hk9⟩
                    case measure => simp [intOf]; omega
                  · have hlt2' : ¬ (k : Int) < x.sheets.length := by omega
                    have HB9 : Hid (Buf w u4 (Pre ++ ((s.notes.take (j + 1)).flatMap noteB)) wr) := by
                      have := HB.out
                      rw [List.take_of_length_le (by omega), ← HQ.out] at this
                      rw [HXX.out]
                      refine Lib.hid ?_
                      rw [show noteB x = putB x.id 3 ++ putB x.book 3 ++ textB x.name ++ putB x.tags.length 1 ++ x.tags.flatMap textB ++ putB x.sheets.length 1 ++ x.sheets.flatMap (fun y => putB y 2) from rfl]
                      simp only [List.append_assoc] at this ⊢
                      exact this
                    clear HB HL hg
                    go_wp2_with fail
                    go_roundw
                    case rel => exact ⟨j + 1, by go_num, by omega, HB9.out, hkV⟩
                    case measure => simp [intOf]; omega
          · have hlt' : ¬ (j : Int) < s.notes.length := by omega
            have HB7 : Hid (Buf w u4 (layB s) wr) := by
              have := HB.out
              rw [List.take_of_length_le (by omega), ← HPP.out] at this
              exact Lib.hid this
            clear HB HL hg
            go_wp2_with fail
            go_ret2
            exact .inr ⟨HM.out, _, rfl, HB7.out⟩
end Go.Proofs.YtbdbmigkcpgmkaaDoor
