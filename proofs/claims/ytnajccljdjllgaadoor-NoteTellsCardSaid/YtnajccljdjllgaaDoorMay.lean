/- The walk of shelf.May. -/
import Derived.Test.YtnajccljdjllgaaDoorMayn
set_option linter.unusedVariables false
set_option linter.unusedSimpArgs false
namespace Go.Proofs.YtnajccljdjllgaaDoor
open Go.RowKit Go.Lib
theorem Reads.take {α : Type} {R : World → α → List Value → Prop} {k : Nat} {w : World} {a : Option Addr} {n c : Nat} {l : List α} (h : Reads R k w (.slice a n c) l) {i : Nat} (hi : i ≤ l.length) : Reads R k w (.slice a i c) (l.take i) := by
  obtain ⟨a', c', e, hc, hr⟩ := h
  injection e with e1 e2 e3
  subst e1 e3
  have e4 : (l.take i).length = i := by rw [List.length_take]; omega
  refine ⟨a, c, by rw [e4], by omega, ?_⟩
  rw [e4]
  exact (hr.take hi).imp fun j hj cs hh x hx => hh x (by rw [List.getElem?_take] at hx; split at hx <;> first | exact hx | cases hx)
abbrev bookAt (s : Shelf) (i : Nat) : Book := s.books.getD i default
def bookOk (s : Shelf) (i : Nat) : Bool :=
  (decide (1 ≤ (bookAt s i).id) && decide ((bookAt s i).id ≤ s.nb - 1)) && (i == 0 || decide ((bookAt s (i - 1)).id < (bookAt s i).id)) && mayB (bookAt s i).name && decide (idx (fun b => b.name.toList == (bookAt s i).name.toList) (s.books.take i) < 0)
def mayHead (s : Shelf) : Bool := (decide (1 ≤ s.nb) && decide (s.nb ≤ 65536)) && (decide (1 ≤ s.nn) && decide (s.nn ≤ 65536)) && (decide (1 ≤ s.ns) && decide (s.ns ≤ 4096)) && decide (s.books.length ≤ 6) && decide (s.notes.length ≤ 12)
def mayS (s : Shelf) : Bool := mayHead s && allTo s.books.length (bookOk s) && allTo s.notes.length (noteOk s) && sheetsOk s.ns [] (s.notes.flatMap (·.sheets))
def TameS (s : Shelf) : Prop := Tame s ∧ ∀ n ∈ s.notes, ∀ y ∈ n.sheets, Wf y
theorem TameS.note {s : Shelf} (h : TameS s) {i : Nat} {x : Note} (hx : s.notes[i]? = some x) : TameN x := by
  obtain ⟨h1, h2, h3, h4⟩ := h.1.note hx
  exact ⟨h1, h2, h3, h4, h.2 x (List.mem_of_getElem? hx)⟩
theorem sheetsOk_append (ns : Int) : ∀ (a S b : List Int), sheetsOk ns S (a ++ b) = (sheetsOk ns S a && sheetsOk ns (a.reverse ++ S) b)
  | [], _, _ => rfl
  | x :: a, S, b => by
    rw [List.cons_append, sheetsOk, sheetsOk, sheetsOk_append ns a (x :: S) b]; simp [Bool.and_assoc]
theorem drop_flat {s : Shelf} {i : Nat} {x : Note} (hx : s.notes[i]? = some x) : (s.notes.drop i).flatMap (·.sheets) = x.sheets ++ (s.notes.drop (i + 1)).flatMap (·.sheets) := by
  obtain ⟨hi, e⟩ := List.getElem?_eq_some_iff.1 hx
  rw [List.drop_eq_getElem_cons hi, e]; rfl
set_option maxRecDepth 100000 in
set_option maxHeartbeats 4000000 in
theorem mayS_any (s : Shelf) (bv nv : Value) (w : World) (h : ShelfR w s bv nv) (hz : TameS s) (hT : Tabs w) :
    Calls Tryd.prog 12 #[shelfV s bv nv] w fun e w' => e = .returned (.bool (mayS s)) ∧ Grow w w' := by
  obtain ⟨a1, c1, rfl⟩ := h.1.mk
  obtain ⟨a2, c2, rfl⟩ := h.2.mk
  have HH := Lib.hid h
  have HZ := Lib.hid hz
  have HTB := Lib.hid hT
  have hlc1 : s.books.length ≤ c1 := h.1.len.2
  have hlc2 : s.notes.length ≤ c2 := h.2.len.2
  clear h hz hT
  have hmm := @run_makeMap Tryd.prog
  unfold shelfV
  go_enter Tryd.func12, Tryd.ntmps12
  go_upto_region 1 with (fail)
  generalize hV : w.alloc (.cells #[.int .i64 s.nb, .int .i64 s.nn, .int .i64 s.ns, .slice a1 s.books.length c1, .slice a2 s.notes.length c2] 28) = V
  have gV : Grow w V := by rw [← hV]; exact (Grow.refl w).alloc _
  have hsz : w.heap.size < V.heap.size := by rw [← hV]; simp
  have Q : V.cell? ⟨w.heap.size, 0, none⟩ = some (.int .i64 s.nb) ∧ V.cell? ⟨w.heap.size, 1, none⟩ = some (.int .i64 s.nn) ∧ V.cell? ⟨w.heap.size, 2, none⟩ = some (.int .i64 s.ns) ∧ V.cell? ⟨w.heap.size, 3, none⟩ = some (.slice a1 s.books.length c1) ∧
      V.cell? ⟨w.heap.size, 4, none⟩ = some (.slice a2 s.notes.length c2) := by rw [← hV]; simp [go_sem]
  obtain ⟨q0, q1, q2, q3, q4⟩ := Q
  clear hV
  go_cut [34] (fun v34 wc => v34 = .bool (!mayHead s) ∧ wc = V)
  case first =>
    have HM := Lib.hid (show mayHead s = _ from rfl)
    have k1 := fun W => in_any s.nb 1 65536 W
    have k2 := fun W => in_any s.nn 1 65536 W
    have k3 := fun W => in_any s.ns 1 4096 W
    cases e1 : (decide (1 ≤ s.nb) && decide (s.nb ≤ 65536))
    · rw [e1] at k1
      have HN := Lib.hid (show mayHead s = false by rw [HM.out]; unfold mayHead; rw [e1]; rfl)
      clear e1
      go_wp2_with fail
      refine (k1 _).mono ?_
      rintro e w1 ⟨rfl, rfl⟩
      go_wp2_with fail
      go_meet
      exact ⟨by rw [HN.out]; rfl, rfl⟩
    rw [e1] at k1
    cases e2 : (decide (1 ≤ s.nn) && decide (s.nn ≤ 65536))
    · rw [e2] at k2
      have HN := Lib.hid (show mayHead s = false by unfold mayHead; rw [e1, e2]; rfl)
      clear e1 e2
      go_wp2_with fail
      refine (k1 _).mono ?_
      rintro e w1 ⟨rfl, rfl⟩
      go_wp2_with fail
      refine (k2 _).mono ?_
      rintro e w1 ⟨rfl, rfl⟩
      go_wp2_with fail
      go_meet
      exact ⟨by rw [HN.out]; rfl, rfl⟩
    rw [e2] at k2
    cases e3 : (decide (1 ≤ s.ns) && decide (s.ns ≤ 4096))
    · rw [e3] at k3
      have HN := Lib.hid (show mayHead s = false by unfold mayHead; rw [e1, e2, e3]; rfl)
      clear e1 e2 e3
      go_wp2_with fail
      refine (k1 _).mono ?_
      rintro e w1 ⟨rfl, rfl⟩
      go_wp2_with fail
      refine (k2 _).mono ?_
      rintro e w1 ⟨rfl, rfl⟩
      go_wp2_with fail
      refine (k3 _).mono ?_
      rintro e w1 ⟨rfl, rfl⟩
      go_wp2_with fail
      go_meet
      exact ⟨by rw [HN.out]; rfl, rfl⟩
    rw [e3] at k3
    have HL := Lib.hid (show mayHead s = (decide (s.books.length ≤ 6) && decide (s.notes.length ≤ 12)) by unfold mayHead; rw [e1, e2, e3]; rfl)
    clear e1 e2 e3
    by_cases e4 : s.books.length ≤ 6
    · have e4' : decide ((6 : Int) < s.books.length) = false := decide_eq_false (by omega)
      have e4'' : ¬ (6 : Int) < s.books.length := by omega
      by_cases e5 : s.notes.length ≤ 12
      · have e5' : decide ((12 : Int) < s.notes.length) = false := decide_eq_false (by omega)
        have e5'' : ¬ (12 : Int) < s.notes.length := by omega
        have HN := Lib.hid (show mayHead s = true by rw [HL.out, decide_eq_true e4, decide_eq_true e5]; rfl)
        go_wp2_with fail
        refine (k1 _).mono ?_
        rintro e w1 ⟨rfl, rfl⟩
        go_wp2_with fail
        refine (k2 _).mono ?_
        rintro e w1 ⟨rfl, rfl⟩
        go_wp2_with fail
        refine (k3 _).mono ?_
        rintro e w1 ⟨rfl, rfl⟩
        go_wp2_with fail
        go_meet
        exact ⟨by rw [HN.out]; simp, rfl⟩
      · have e5' : (12 : Int) < s.notes.length := by omega
        have HN := Lib.hid (show mayHead s = false by rw [HL.out, decide_eq_true e4, decide_eq_false e5]; rfl)
        go_wp2_with fail
        refine (k1 _).mono ?_
        rintro e w1 ⟨rfl, rfl⟩
        go_wp2_with fail
        refine (k2 _).mono ?_
        rintro e w1 ⟨rfl, rfl⟩
        go_wp2_with fail
        refine (k3 _).mono ?_
        rintro e w1 ⟨rfl, rfl⟩
        go_wp2_with fail
        go_meet
        exact ⟨by rw [HN.out]; simp, rfl⟩
    · have e4' : (6 : Int) < s.books.length := by omega
      have HN := Lib.hid (show mayHead s = false by rw [HL.out, decide_eq_false e4]; rfl)
      go_wp2_with fail
      refine (k1 _).mono ?_
      rintro e w1 ⟨rfl, rfl⟩
      go_wp2_with fail
      refine (k2 _).mono ?_
      rintro e w1 ⟨rfl, rfl⟩
      go_wp2_with fail
      refine (k3 _).mono ?_
      rintro e w1 ⟨rfl, rfl⟩
      go_wp2_with fail
      go_meet
      exact ⟨by rw [HN.out]; simp, rfl⟩
  case rest =>
    obtain ⟨rfl, rfl⟩ := hcut
    cases hm : mayHead s
    · have HN := Lib.hid (show mayS s = false by unfold mayS; rw [hm]; rfl)
      clear hm
      go_wp2_with fail
      go_ret
      exact ⟨ret_bool HN.out.symm, gV⟩
    have hm2 := hm
    unfold mayHead at hm2
    simp only [Bool.and_eq_true, decide_eq_true_eq] at hm2
    obtain ⟨⟨⟨⟨⟨n1, n2⟩, n3, n4⟩, n5, n6⟩, n7⟩, n8⟩ := hm2
    have HMM := Lib.hid hm
    clear hm
    have n7' : (s.books.length : Int) ≤ 6 := by omega
    have n8' : (s.notes.length : Int) ≤ 12 := by omega
    go_wp2_with fail
    go_loopw [3, 4, 38] (fun _ _ v38 wx => Grow wc wx ∧ ∃ j : Nat, v38 = .int .i64 j ∧ j ≤ s.books.length ∧ ∀ k, k < j → bookOk s k = true) (fun _ _ v38 _ => s.books.length - (intOf v38).toNat)
    case atStart => exact ⟨Grow.refl _, 0, rfl, by omega, fun k h => absurd h (by omega)⟩
    case round =>
      obtain ⟨hgr, j, rfl, hj, hall⟩ := hrel
      have HA := Lib.hid hall
      clear hall
      have gw := gV.trans hgr
      replace q0 := (hgr.cells _ _ hsz).trans q0
      replace q1 := (hgr.cells _ _ hsz).trans q1
      replace q2 := (hgr.cells _ _ hsz).trans q2
      replace q3 := (hgr.cells _ _ hsz).trans q3
      replace q4 := (hgr.cells _ _ hsz).trans q4
      have hsr : w.heap.size < wr.heap.size := by have := hgr.size; omega
      by_cases hlt : j < s.books.length
      · have hlt' : (j : Int) < s.books.length := by omega
        obtain ⟨x, hx, -⟩ := lt_get hlt
        have HR := HH.out.1.grow gw
        obtain ⟨bb, off, rfl, hbb, p0, p1⟩ := HR.at hx
        have ho : ((j : Int) ≤ 0 ∧ j = 0) ∨ ((0 : Int) < j ∧ ∃ z : Book, bookAt s (j - 1) = z ∧ wr.cell? ⟨bb, off + (j - 1) * 2, none⟩ = some (.int .i64 z.id)) := by
          rcases Nat.eq_zero_or_pos j with h0 | h0
          · exact .inl ⟨by omega, h0⟩
          · obtain ⟨z, hz, -⟩ := lt_get (l := s.books) (i := j - 1) (by omega)
            obtain ⟨b', off', e', hb', k0, -⟩ := HR.at hz
            injection e' with e'
            injection e' with e1 e2
            subst e1 e2
            exact .inr ⟨by omega, z, getD_of hz, k0⟩
        have hns := HZ.out.1.book hx
        have HX := Lib.hid (getD_of (d := (default : Book)) hx)
        have HRT := Lib.hid (Reads.take HR (i := j) (by omega))
        clear hx HR
        go_upto_region 6 with (fail)
        generalize hU : wr.alloc (.cells #[.int .i64 x.id, .string x.name] 37) = U
        have gU : Grow wr U := by rw [← hU]; exact (Grow.refl wr).alloc _
        have hszU : wr.heap.size < U.heap.size := by rw [← hU]; simp
        have QU : U.cell? ⟨wr.heap.size, 0, none⟩ = some (.int .i64 x.id) ∧ U.cell? ⟨wr.heap.size, 1, none⟩ = some (.string x.name) := by rw [← hU]; simp [go_sem]
        obtain ⟨r0, r1⟩ := QU
        clear hU p0 p1
        have u0 := (gU.cells _ 0 hsr).trans q0
        have u3 := (gU.cells _ 3 hsr).trans q3
        have hbU : bb < U.heap.size := by omega
        have hsU : w.heap.size < U.heap.size := by omega
        replace ho : ((j : Int) ≤ 0 ∧ j = 0) ∨ ((0 : Int) < j ∧ ∃ z : Book, bookAt s (j - 1) = z ∧ U.cell? ⟨bb, off + (j - 1) * 2, none⟩ = some (.int .i64 z.id)) := by
          rcases ho with h0 | ⟨h0, z, h1, h2⟩
          · exact .inl h0
          · exact .inr ⟨h0, z, h1, (gU.cells _ _ hbb).trans h2⟩
        have cI := fun W => in_any x.id 1 (s.nb - 1) W
        have cM := fun y : Gr U => may_any x.name y.W (by omega) (HTB.out.below ((gw.trans gU).trans y.g))
        have cB := fun y : Gr U => named_any _ _ x.name y.W (Books.grow (Books.grow HRT.out gU) y.g) (by rw [List.length_take]; omega)
        have HD := Lib.hid (show bookOk s j = ((decide (1 ≤ x.id) && decide (x.id ≤ s.nb - 1)) && (j == 0 || decide ((bookAt s (j - 1)).id < x.id)) && mayB x.name && decide (idx (fun b => b.name.toList == x.name.toList) (s.books.take j) < 0)) by unfold bookOk bookAt; rw [HX.out])
        go_cut [81] (fun v81 wc => v81 = .bool (!bookOk s j) ∧ Grow U wc)
        case first =>
          have H' := HD.out
          clear HD HA HMM HH HZ HTB q0 q1 q2 q3 q4 hgr gw HX HRT gU hns
          cases e1 : (decide (1 ≤ x.id) && decide (x.id ≤ s.nb - 1))
          · have HN := Lib.hid (show bookOk s j = false by rw [H', e1]; rfl)
            rw [e1] at cI
            clear H' e1 cM cB
            refine wp_region_gr (by kernel_rfl) (by kernel_rfl) ?_
            repeat (go_big_quiet_step (first | (go_at_call 39; exact Calls.gr_same (cI _)) | (go_at_call 40; exact Calls.gr (cM _)) | (go_at_call 41; exact Calls.gr (cB _))))
            refine wpQuiet_nil ?_
            rintro _ ⟨y, rfl⟩
            go_wp2_with fail
            go_meet
            exact ⟨by rw [HN.out]; rfl, y.g⟩
          rw [e1] at cI H'
          clear e1
          by_cases hord : (0 : Int) < j ∧ x.id ≤ (bookAt s (j - 1)).id
          · obtain ⟨i0, hord⟩ := hord
            rcases ho with ⟨h0, -⟩ | ⟨h0, z, hz, k0⟩
            · omega
            rw [hz] at hord H'
            have HN := Lib.hid (show bookOk s j = false by
              rw [H', decide_eq_false (show ¬ z.id < x.id by omega), show (j == 0) = false by rw [beq_eq_false_iff_ne]; omega]; rfl)
            clear H' hz cM cB
            have hd : decide (0 < j) = true := decide_eq_true (by omega)
            have hd' : decide ((0 : Int) < j) = true := decide_eq_true h0
            have hi0 : IntKind.i64.wrap ((j : Int) - 1) = (j : Int) - 1 := IntWalk.i64_in _ (by omega)
            have hi1 : (0 : Int) ≤ (j : Int) - 1 := by omega
            have hi2 : (j : Int) - 1 < s.books.length := by omega
            have hd8 : decide (x.id ≤ z.id) = true := decide_eq_true hord
            have hi3 : ((j : Int) - 1).toNat = j - 1 := by omega
            refine wp_region_gr (by kernel_rfl) (by kernel_rfl) ?_
            repeat (go_big_quiet_step (first | (go_at_call 39; exact Calls.gr_same (cI _)) | (go_at_call 40; exact Calls.gr (cM _)) | (go_at_call 41; exact Calls.gr (cB _))))
            refine wpQuiet_nil ?_
            rintro _ ⟨y, rfl⟩
            go_wp2_with fail
            go_meet
            exact ⟨by rw [HN.out]; rfl, y.g⟩
          have H2 : bookOk s j = (mayB x.name && decide (idx (fun b => b.name.toList == x.name.toList) (s.books.take j) < 0)) := by
            rw [H', show (j == 0 || decide ((bookAt s (j - 1)).id < x.id)) = true by
              rw [Bool.or_eq_true, beq_iff_eq, decide_eq_true_eq]; omega]; simp
          clear H'
          have ho2 : ((j : Int) ≤ 0) ∨ ((0 : Int) < j ∧ ∃ z : Book, z.id < x.id ∧ U.cell? ⟨bb, off + (j - 1) * 2, none⟩ = some (.int .i64 z.id)) := by
            rcases ho with ⟨h0, -⟩ | ⟨h0, z, hz, k0⟩
            · exact .inl h0
            · exact .inr ⟨h0, z, by rw [← hz]; omega, k0⟩
          clear ho hord
          cases e3 : mayB x.name
          · have HN := Lib.hid (show bookOk s j = false by rw [H2, e3]; rfl)
            rw [e3] at cM
            clear H2 e3 cB
            rcases ho2 with h0 | ⟨h0, z, hzi, k0⟩
            · have hd : decide (0 < j) = false := decide_eq_false (by omega)
              have hd' : decide ((0 : Int) < j) = false := decide_eq_false (by omega)
              refine wp_region_gr (by kernel_rfl) (by kernel_rfl) ?_
              repeat (go_big_quiet_step (first | (go_at_call 39; exact Calls.gr_same (cI _)) | (go_at_call 40; exact Calls.gr (cM _)) | (go_at_call 41; exact Calls.gr (cB _))))
              refine wpQuiet_nil ?_
              rintro _ ⟨y, rfl⟩
              go_wp2_with fail
              go_meet
              exact ⟨by rw [HN.out]; rfl, y.g⟩
            · have hd : decide (0 < j) = true := decide_eq_true (by omega)
              have hd' : decide ((0 : Int) < j) = true := decide_eq_true h0
              have hi0 : IntKind.i64.wrap ((j : Int) - 1) = (j : Int) - 1 := IntWalk.i64_in _ (by omega)
              have hi1 : (0 : Int) ≤ (j : Int) - 1 := by omega
              have hi2 : (j : Int) - 1 < s.books.length := by omega
              have hd8 : decide (x.id ≤ z.id) = false := decide_eq_false (by omega)
              have hi3 : ((j : Int) - 1).toNat = j - 1 := by omega
              refine wp_region_gr (by kernel_rfl) (by kernel_rfl) ?_
              repeat (go_big_quiet_step (first | (go_at_call 39; exact Calls.gr_same (cI _)) | (go_at_call 40; exact Calls.gr (cM _)) | (go_at_call 41; exact Calls.gr (cB _))))
              refine wpQuiet_nil ?_
              rintro _ ⟨y, rfl⟩
              go_wp2_with fail
              go_meet
              exact ⟨by rw [HN.out]; rfl, y.g⟩
          rw [e3] at cM H2
          clear e3
          have hjc : (j : Int) ≤ c1 := by omega
          have hj0 : (0 : Int) ≤ j := by omega
          generalize idx (fun b : Book => b.name.toList == x.name.toList) (s.books.take j) = I at *
          by_cases e4 : I < 0
          · have HN := Lib.hid (show bookOk s j = true by rw [H2, decide_eq_true e4]; rfl)
            have hd4 : decide (0 ≤ I) = false := decide_eq_false (by omega)
            clear H2
            rcases ho2 with h0 | ⟨h0, z, hzi, k0⟩
            · have hd : decide (0 < j) = false := decide_eq_false (by omega)
              have hd' : decide ((0 : Int) < j) = false := decide_eq_false (by omega)
              refine wp_region_gr (by kernel_rfl) (by kernel_rfl) ?_
              repeat (go_big_quiet_step (first | (go_at_call 39; exact Calls.gr_same (cI _)) | (go_at_call 40; exact Calls.gr (cM _)) | (go_at_call 41; exact Calls.gr (cB _))))
              refine wpQuiet_nil ?_
              rintro _ ⟨y, rfl⟩
              go_wp2_with fail
              go_meet
              exact ⟨by rw [HN.out]; rfl, y.g⟩
            · have hd : decide (0 < j) = true := decide_eq_true (by omega)
              have hd' : decide ((0 : Int) < j) = true := decide_eq_true h0
              have hi0 : IntKind.i64.wrap ((j : Int) - 1) = (j : Int) - 1 := IntWalk.i64_in _ (by omega)
              have hi1 : (0 : Int) ≤ (j : Int) - 1 := by omega
              have hi2 : (j : Int) - 1 < s.books.length := by omega
              have hd8 : decide (x.id ≤ z.id) = false := decide_eq_false (by omega)
              have hi3 : ((j : Int) - 1).toNat = j - 1 := by omega
              refine wp_region_gr (by kernel_rfl) (by kernel_rfl) ?_
              repeat (go_big_quiet_step (first | (go_at_call 39; exact Calls.gr_same (cI _)) | (go_at_call 40; exact Calls.gr (cM _)) | (go_at_call 41; exact Calls.gr (cB _))))
              refine wpQuiet_nil ?_
              rintro _ ⟨y, rfl⟩
              go_wp2_with fail
              go_meet
              exact ⟨by rw [HN.out]; rfl, y.g⟩
          · have HN := Lib.hid (show bookOk s j = false by rw [H2, decide_eq_false e4]; rfl)
            have hd4 : decide (0 ≤ I) = true := decide_eq_true (by omega)
            clear H2
            rcases ho2 with h0 | ⟨h0, z, hzi, k0⟩
            · have hd : decide (0 < j) = false := decide_eq_false (by omega)
              have hd' : decide ((0 : Int) < j) = false := decide_eq_false (by omega)
              refine wp_region_gr (by kernel_rfl) (by kernel_rfl) ?_
              repeat (go_big_quiet_step (first | (go_at_call 39; exact Calls.gr_same (cI _)) | (go_at_call 40; exact Calls.gr (cM _)) | (go_at_call 41; exact Calls.gr (cB _))))
              refine wpQuiet_nil ?_
              rintro _ ⟨y, rfl⟩
              go_wp2_with fail
              go_meet
              exact ⟨by rw [HN.out]; rfl, y.g⟩
            · have hd : decide (0 < j) = true := decide_eq_true (by omega)
              have hd' : decide ((0 : Int) < j) = true := decide_eq_true h0
              have hi0 : IntKind.i64.wrap ((j : Int) - 1) = (j : Int) - 1 := IntWalk.i64_in _ (by omega)
              have hi1 : (0 : Int) ≤ (j : Int) - 1 := by omega
              have hi2 : (j : Int) - 1 < s.books.length := by omega
              have hd8 : decide (x.id ≤ z.id) = false := decide_eq_false (by omega)
              have hi3 : ((j : Int) - 1).toNat = j - 1 := by omega
              refine wp_region_gr (by kernel_rfl) (by kernel_rfl) ?_
              repeat (go_big_quiet_step (first | (go_at_call 39; exact Calls.gr_same (cI _)) | (go_at_call 40; exact Calls.gr (cM _)) | (go_at_call 41; exact Calls.gr (cB _))))
              refine wpQuiet_nil ?_
              rintro _ ⟨y, rfl⟩
              go_wp2_with fail
              go_meet
              exact ⟨by rw [HN.out]; rfl, y.g⟩
        case rest =>
          obtain ⟨rfl, gc⟩ := hcut
          clear cI cM cB
          cases hok : bookOk s j
          · have HN := Lib.hid (show mayS s = false by unfold mayS; rw [allTo_no hlt hok]; simp)
            clear hok
            go_wp2_with fail
            go_ret
            exact ⟨ret_bool HN.out.symm, (gw.trans gU).trans gc⟩
          · have HK := Lib.hid hok
            clear hok
            go_wp2_with fail
            go_roundw
            case rel => exact ⟨(hgr.trans gU).trans gc, j + 1, by go_num, by omega, fun k hk => by
              rcases (by omega : k < j ∨ k = j) with h3 | rfl
              · exact HA.out k h3
              · exact HK.out⟩
            case measure => simp [intOf]; omega
      · have hlt' : ¬ (j : Int) < s.books.length := by omega
        have HB := Lib.hid (allTo_yes (n := s.books.length) (p := bookOk s) (fun k hk => HA.out k (by omega)))
        clear HA hj hgr
        go_wp2_with fail
        have gM : Grow w (wr.alloc (.map #[] 0)) := gw.alloc _
        have hSM := Seen.made wr
        have hlM : wr.heap.size < (wr.alloc (.map #[] 0)).heap.size := by simp
        have Q : (wr.alloc (.map #[] 0)).cell? ⟨w.heap.size, 0, none⟩ = some (.int .i64 s.nb) ∧ (wr.alloc (.map #[] 0)).cell? ⟨w.heap.size, 1, none⟩ = some (.int .i64 s.nn) ∧ (wr.alloc (.map #[] 0)).cell? ⟨w.heap.size, 2, none⟩ = some (.int .i64 s.ns) ∧ (wr.alloc (.map #[] 0)).cell? ⟨w.heap.size, 3, none⟩ = some (.slice a1 s.books.length c1) ∧
            (wr.alloc (.map #[] 0)).cell? ⟨w.heap.size, 4, none⟩ = some (.slice a2 s.notes.length c2) := by
          have gA : Grow wr (wr.alloc (.map #[] 0)) := (Grow.refl wr).alloc _
          exact ⟨(gA.cells _ _ hsr).trans q0, (gA.cells _ _ hsr).trans q1, (gA.cells _ _ hsr).trans q2, (gA.cells _ _ hsr).trans q3, (gA.cells _ _ hsr).trans q4⟩
        clear q0 q1 q2 q3 q4 gw
        obtain ⟨q0, q1, q2, q3, q4⟩ := Q
        generalize hM : wr.alloc (.map #[] 0) = M at *
        generalize hbM : wr.heap.size = bM at *
        clear hM hbM
        go_loopw [6, 87] (fun _ v87 wx => Turned bM M wx ∧ ∃ (j n : Nat) (S : List Int), v87 = .int .i64 j ∧ j ≤ s.notes.length ∧ n ≤ j * 1000000 ∧ Seen wx bM n S ∧ (∀ k, k < j → noteOk s k = true) ∧ sheetsOk s.ns [] (s.notes.flatMap (·.sheets)) = sheetsOk s.ns S ((s.notes.drop j).flatMap (·.sheets))) (fun _ v87 _ => s.notes.length - (intOf v87).toNat)
        case atStart => exact ⟨Turned.refl _ _, 0, 0, [], rfl, by omega, by omega, hSM, fun k h => absurd h (by omega), rfl⟩
        case round =>
          obtain ⟨ht, j, n, S, rfl, hj, hnj, hSn, hall, hso⟩ := hrel
          have HA := Lib.hid hall
          have HS := Lib.hid hSn
          have HO := Lib.hid hso
          clear hall hSn hso hSM
          have hne : w.heap.size ≠ bM := by omega
          have hwM : w.heap.size < M.heap.size := by omega
          replace q0 := (ht.cell hwM hne).trans q0
          replace q1 := (ht.cell hwM hne).trans q1
          replace q2 := (ht.cell hwM hne).trans q2
          replace q3 := (ht.cell hwM hne).trans q3
          replace q4 := (ht.cell hwM hne).trans q4
          have g9 : Grow w wr := Turned.grow ht gM (by omega)
          by_cases hlt : j < s.notes.length
          · have hlt' : (j : Int) < s.notes.length := by omega
            obtain ⟨x, hx, -⟩ := lt_get hlt
            have HXX := Lib.hid hx
            have cN := mayNote_any s _ _ j x bM n S w wr hx HH.out g9 (by omega) HS.out (by omega) HTB.out HZ.out.1.1 HZ.out.1.2.1 (HZ.out.note hx) (by omega) (by omega) (by omega) (by omega)
            have hxl : x.sheets.length ≤ 1000000 := (HZ.out.note hx).2.2.1
            have HD := Lib.hid (drop_flat hx)
            clear hx
            unfold shelfV at cN
            go_wp2_with fail
            refine cN.mono ?_
            rintro e w1 ⟨t1, hr⟩
            rcases hr with ⟨hno, rfl⟩ | ⟨hyes, rfl, hS1⟩
            · have HN := Lib.hid (show mayS s = false by
                unfold mayS
                cases hok : noteOk s j
                · rw [allTo_no hlt hok]; simp
                · rw [hok, Bool.true_and] at hno
                  rw [HO.out, HD.out, sheetsOk_append, hno]; simp)
              clear hno
              go_wp2_with fail
              go_ret
              exact ⟨ret_bool HN.out.symm, Turned.grow (ht.trans t1) gM (by omega)⟩
            · rw [Bool.and_eq_true] at hyes
              have HK := Lib.hid hyes.1
              have HO2 := Lib.hid (show sheetsOk s.ns [] (s.notes.flatMap (·.sheets)) = sheetsOk s.ns (x.sheets.reverse ++ S) ((s.notes.drop (j + 1)).flatMap (·.sheets)) by
                rw [HO.out, HD.out, sheetsOk_append, hyes.2, Bool.true_and])
              have HS1 := Lib.hid hS1
              clear hyes hS1
              go_wp2_with fail
              go_roundw
              case rel => exact ⟨ht.trans t1, j + 1, n + x.sheets.length, _, by go_num, by omega, by omega, HS1.out, fun k hk => by
                rcases (by omega : k < j ∨ k = j) with h3 | rfl
                · exact HA.out k h3
                · exact HK.out, HO2.out⟩
              case measure => simp [intOf]; omega
          · have hlt' : ¬ (j : Int) < s.notes.length := by omega
            have HR := Lib.hid (show mayS s = true by
              unfold mayS
              rw [HMM.out, HB.out, allTo_yes (fun k hk => HA.out k (by omega)), HO.out, List.drop_of_length_le (by omega)]; rfl)
            go_wp2_with fail
            go_ret
            exact ⟨ret_bool HR.out.symm, g9⟩
end Go.Proofs.YtnajccljdjllgaaDoor
