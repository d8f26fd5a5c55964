/- The walk of shelf.May. Which shelves may be, told with quantifiers. The changes of a shelf, in plain words, and that they keep it good. slices.IndexFunc over notes; shelf.note. shelf.Find. The state of a shelf that is changed: its box, the result's cell, the rows; and what a change answers. The walk of jotterlaw0.GreatShelf. -/
import Derived.Test.YtnajccljdjllgaaGreatDoorJShelfTellsb
import Derived.Sort.Row
import Derived.Test.YtnajccljdjllgaaGreatDoorJShelfTellsa
set_option linter.unusedVariables false
set_option linter.unusedSimpArgs false
namespace Go.Proofs.YtnajccljdjllgaaGreatDoor
open Go.RowKit Go.Lib
theorem Reads.take {α : Type} {R : World → α → List Value → Prop} {k : Nat} {w : World} {a : Option Addr} {n c : Nat} {l : List α} (h : Reads R k w (.slice a n c) l) {i : Nat} (hi : i ≤ l.length) : Reads R k w (.slice a i c) (l.take i) := by
  obtain ⟨a', c', e, hc, hr⟩ := h
  injection e with e1 e2 e3
  subst e1 e3
  have e4 : (l.take i).length = i := by rw [List.length_take]; omega
  refine ⟨a, c, by rw [e4], by omega, ?_⟩
  rw [e4]
  exact (hr.take hi).imp fun j hj cs hh x hx => hh x (by rw [List.getElem?_take] at hx; split at hx <;> first | exact hx | cases hx)
abbrev bookAt (s : Shelf) (i : Nat) : Book := s.books.getD i default
def bookOk (s : Shelf) (i : Nat) : Bool :=
  (decide (1 ≤ (bookAt s i).id) && decide ((bookAt s i).id ≤ s.nb - 1)) && (i == 0 || decide ((bookAt s (i - 1)).id < (bookAt s i).id)) && mayB (bookAt s i).name && decide (idx (fun b => b.name.toList == (bookAt s i).name.toList) (s.books.take i) < 0)
def mayHead (s : Shelf) : Bool := (decide (1 ≤ s.nb) && decide (s.nb ≤ 65536)) && (decide (1 ≤ s.nn) && decide (s.nn ≤ 65536)) && (decide (1 ≤ s.ns) && decide (s.ns ≤ 4096)) && decide (s.books.length ≤ 6) && decide (s.notes.length ≤ 12)
def mayS (s : Shelf) : Bool := mayHead s && allTo s.books.length (bookOk s) && allTo s.notes.length (noteOk s) && sheetsOk s.ns [] (s.notes.flatMap (·.sheets))
def TameS (s : Shelf) : Prop := Tame s ∧ ∀ n ∈ s.notes, ∀ y ∈ n.sheets, Wf y
theorem TameS.note {s : Shelf} (h : TameS s) {i : Nat} {x : Note} (hx : s.notes[i]? = some x) : TameN x := by
  obtain ⟨h1, h2, h3, h4⟩ := h.1.note hx
  exact ⟨h1, h2, h3, h4, h.2 x (List.mem_of_getElem? hx)⟩
theorem sheetsOk_append (ns : Int) : ∀ (a S b : List Int), sheetsOk ns S (a ++ b) = (sheetsOk ns S a && sheetsOk ns (a.reverse ++ S) b)
  | [], _, _ => rfl
  | x :: a, S, b => by
    rw [List.cons_append, sheetsOk, sheetsOk, sheetsOk_append ns a (x :: S) b]; simp [Bool.and_assoc]
theorem drop_flat {s : Shelf} {i : Nat} {x : Note} (hx : s.notes[i]? = some x) : (s.notes.drop i).flatMap (·.sheets) = x.sheets ++ (s.notes.drop (i + 1)).flatMap (·.sheets) := by
  obtain ⟨hi, e⟩ := List.getElem?_eq_some_iff.1 hx
  rw [List.drop_eq_getElem_cons hi, e]; rfl
set_option maxRecDepth 100000 in
set_option maxHeartbeats 4000000 in
theorem mayS_any (s : Shelf) (bv nv : Value) (w : World) (h : ShelfR w s bv nv) (hz : TameS s) (hT : Tabs w) :
    Calls Tryz.prog 9 #[shelfV s bv nv] w fun e w' => e = .returned (.bool (mayS s)) ∧ Grow w w' := by
  obtain ⟨a1, c1, rfl⟩ := h.1.mk
  obtain ⟨a2, c2, rfl⟩ := h.2.mk
  have HH := Lib.hid h
  have HZ := Lib.hid hz
  have HTB := Lib.hid hT
  have hlc1 : s.books.length ≤ c1 := h.1.len.2
  have hlc2 : s.notes.length ≤ c2 := h.2.len.2
  clear h hz hT
  have hmm := @run_makeMap Tryz.prog
  unfold shelfV
  go_enter Tryz.func9, Tryz.ntmps9
  go_upto_region 1 with (fail)
  generalize hV : w.alloc (.cells #[.int .i64 s.nb, .int .i64 s.nn, .int .i64 s.ns, .slice a1 s.books.length c1, .slice a2 s.notes.length c2] 25) = V
  have gV : Grow w V := by rw [← hV]; exact (Grow.refl w).alloc _
  have hsz : w.heap.size < V.heap.size := by rw [← hV]; simp
  have Q : V.cell? ⟨w.heap.size, 0, none⟩ = some (.int .i64 s.nb) ∧ V.cell? ⟨w.heap.size, 1, none⟩ = some (.int .i64 s.nn) ∧ V.cell? ⟨w.heap.size, 2, none⟩ = some (.int .i64 s.ns) ∧ V.cell? ⟨w.heap.size, 3, none⟩ = some (.slice a1 s.books.length c1) ∧
      V.cell? ⟨w.heap.size, 4, none⟩ = some (.slice a2 s.notes.length c2) := by rw [← hV]; simp [go_sem]
  obtain ⟨q0, q1, q2, q3, q4⟩ := Q
  clear hV
  go_cut [34] (fun v34 wc => v34 = .bool (!mayHead s) ∧ wc = V)
  case first =>
    have HM := Lib.hid (show mayHead s = _ from rfl)
    have k1 := fun W => in_any s.nb 1 65536 W
    have k2 := fun W => in_any s.nn 1 65536 W
    have k3 := fun W => in_any s.ns 1 4096 W
    cases e1 : (decide (1 ≤ s.nb) && decide (s.nb ≤ 65536))
    · rw [e1] at k1
      have HN := Lib.hid (show mayHead s = false by rw [HM.out]; unfold mayHead; rw [e1]; rfl)
      clear e1
      go_wp2_with fail
      refine (k1 _).mono ?_
      rintro e w1 ⟨rfl, rfl⟩
      go_wp2_with fail
      go_meet
      exact ⟨by rw [HN.out]; rfl, rfl⟩
    rw [e1] at k1
    cases e2 : (decide (1 ≤ s.nn) && decide (s.nn ≤ 65536))
    · rw [e2] at k2
      have HN := Lib.hid (show mayHead s = false by unfold mayHead; rw [e1, e2]; rfl)
      clear e1 e2
      go_wp2_with fail
      refine (k1 _).mono ?_
      rintro e w1 ⟨rfl, rfl⟩
      go_wp2_with fail
      refine (k2 _).mono ?_
      rintro e w1 ⟨rfl, rfl⟩
      go_wp2_with fail
      go_meet
      exact ⟨by rw [HN.out]; rfl, rfl⟩
    rw [e2] at k2
    cases e3 : (decide (1 ≤ s.ns) && decide (s.ns ≤ 4096))
    · rw [e3] at k3
      have HN := Lib.hid (show mayHead s = false by unfold mayHead; rw [e1, e2, e3]; rfl)
      clear e1 e2 e3
      go_wp2_with fail
      refine (k1 _).mono ?_
      rintro e w1 ⟨rfl, rfl⟩
      go_wp2_with fail
      refine (k2 _).mono ?_
      rintro e w1 ⟨rfl, rfl⟩
      go_wp2_with fail
      refine (k3 _).mono ?_
      rintro e w1 ⟨rfl, rfl⟩
      go_wp2_with fail
      go_meet
      exact ⟨by rw [HN.out]; rfl, rfl⟩
    rw [e3] at k3
    have HL := Lib.hid (show mayHead s = (decide (s.books.length ≤ 6) && decide (s.notes.length ≤ 12)) by unfold mayHead; rw [e1, e2, e3]; rfl)
    clear e1 e2 e3
    by_cases e4 : s.books.length ≤ 6
    · have e4' : decide ((6 : Int) < s.books.length) = false := decide_eq_false (by omega)
      have e4'' : ¬ (6 : Int) < s.books.length := by omega
      by_cases e5 : s.notes.length ≤ 12
      · have e5' : decide ((12 : Int) < s.notes.length) = false := decide_eq_false (by omega)
        have e5'' : ¬ (12 : Int) < s.notes.length := by omega
        have HN := Lib.hid (show mayHead s = true by rw [HL.out, decide_eq_true e4, decide_eq_true e5]; rfl)
        go_wp2_with fail
        refine (k1 _).mono ?_
        rintro e w1 ⟨rfl, rfl⟩
        go_wp2_with fail
        refine (k2 _).mono ?_
        rintro e w1 ⟨rfl, rfl⟩
        go_wp2_with fail
        refine (k3 _).mono ?_
        rintro e w1 ⟨rfl, rfl⟩
        go_wp2_with fail
        go_meet
        exact ⟨by rw [HN.out]; simp, rfl⟩
      · have e5' : (12 : Int) < s.notes.length := by omega
        have HN := Lib.hid (show mayHead s = false by rw [HL.out, decide_eq_true e4, decide_eq_false e5]; rfl)
        go_wp2_with fail
        refine (k1 _).mono ?_
        rintro e w1 ⟨rfl, rfl⟩
        go_wp2_with fail
        refine (k2 _).mono ?_
        rintro e w1 ⟨rfl, rfl⟩
        go_wp2_with fail
        refine (k3 _).mono ?_
        rintro e w1 ⟨rfl, rfl⟩
        go_wp2_with fail
        go_meet
        exact ⟨by rw [HN.out]; simp, rfl⟩
    · have e4' : (6 : Int) < s.books.length := by omega
      have HN := Lib.hid (show mayHead s = false by rw [HL.out, decide_eq_false e4]; rfl)
      go_wp2_with fail
      refine (k1 _).mono ?_
      rintro e w1 ⟨rfl, rfl⟩
      go_wp2_with fail
      refine (k2 _).mono ?_
      rintro e w1 ⟨rfl, rfl⟩
      go_wp2_with fail
      refine (k3 _).mono ?_
      rintro e w1 ⟨rfl, rfl⟩
      go_wp2_with fail
      go_meet
      exact ⟨by rw [HN.out]; simp, rfl⟩
  case rest =>
    obtain ⟨rfl, rfl⟩ := hcut
    cases hm : mayHead s
    · have HN := Lib.hid (show mayS s = false by unfold mayS; rw [hm]; rfl)
      clear hm
      go_wp2_with fail
      go_ret
      exact ⟨ret_bool HN.out.symm, gV⟩
    have hm2 := hm
    unfold mayHead at hm2
    simp only [Bool.and_eq_true, decide_eq_true_eq] at hm2
    obtain ⟨⟨⟨⟨⟨n1, n2⟩, n3, n4⟩, n5, n6⟩, n7⟩, n8⟩ := hm2
    have HMM := Lib.hid hm
    clear hm
    have n7' : (s.books.length : Int) ≤ 6 := by omega
    have n8' : (s.notes.length : Int) ≤ 12 := by omega
    go_wp2_with fail
    go_loopw [3, 4, 38] (fun _ _ v38 wx => Grow wc wx ∧ ∃ j : Nat, v38 = .int .i64 j ∧ j ≤ s.books.length ∧ ∀ k, k < j → bookOk s k = true) (fun _ _ v38 _ => s.books.length - (intOf v38).toNat)
    case atStart => exact ⟨Grow.refl _, 0, rfl, by omega, fun k h => absurd h (by omega)⟩
    case round =>
      obtain ⟨hgr, j, rfl, hj, hall⟩ := hrel
      have HA := Lib.hid hall
      clear hall
      have gw := gV.trans hgr
      replace q0 := (hgr.cells _ _ hsz).trans q0
      replace q1 := (hgr.cells _ _ hsz).trans q1
      replace q2 := (hgr.cells _ _ hsz).trans q2
      replace q3 := (hgr.cells _ _ hsz).trans q3
      replace q4 := (hgr.cells _ _ hsz).trans q4
      have hsr : w.heap.size < wr.heap.size := by have := hgr.size; omega
      by_cases hlt : j < s.books.length
      · have hlt' : (j : Int) < s.books.length := by omega
        obtain ⟨x, hx, -⟩ := lt_get hlt
        have HR := HH.out.1.grow gw
        obtain ⟨bb, off, rfl, hbb, p0, p1⟩ := HR.at hx
        have ho : ((j : Int) ≤ 0 ∧ j = 0) ∨ ((0 : Int) < j ∧ ∃ z : Book, bookAt s (j - 1) = z ∧ wr.cell? ⟨bb, off + (j - 1) * 2, none⟩ = some (.int .i64 z.id)) := by
          rcases Nat.eq_zero_or_pos j with h0 | h0
          · exact .inl ⟨by omega, h0⟩
          · obtain ⟨z, hz, -⟩ := lt_get (l := s.books) (i := j - 1) (by omega)
            obtain ⟨b', off', e', hb', k0, -⟩ := HR.at hz
            injection e' with e'
            injection e' with e1 e2
            subst e1 e2
            exact .inr ⟨by omega, z, getD_of hz, k0⟩
        have hns := HZ.out.1.book hx
        have HX := Lib.hid (getD_of (d := (default : Book)) hx)
        have HRT := Lib.hid (Reads.take HR (i := j) (by omega))
        clear hx HR
        go_upto_region 6 with (fail)
        generalize hU : wr.alloc (.cells #[.int .i64 x.id, .string x.name] 58) = U
        have gU : Grow wr U := by rw [← hU]; exact (Grow.refl wr).alloc _
        have hszU : wr.heap.size < U.heap.size := by rw [← hU]; simp
        have QU : U.cell? ⟨wr.heap.size, 0, none⟩ = some (.int .i64 x.id) ∧ U.cell? ⟨wr.heap.size, 1, none⟩ = some (.string x.name) := by rw [← hU]; simp [go_sem]
        obtain ⟨r0, r1⟩ := QU
        clear hU p0 p1
        have u0 := (gU.cells _ 0 hsr).trans q0
        have u3 := (gU.cells _ 3 hsr).trans q3
        have hbU : bb < U.heap.size := by omega
        have hsU : w.heap.size < U.heap.size := by omega
        replace ho : ((j : Int) ≤ 0 ∧ j = 0) ∨ ((0 : Int) < j ∧ ∃ z : Book, bookAt s (j - 1) = z ∧ U.cell? ⟨bb, off + (j - 1) * 2, none⟩ = some (.int .i64 z.id)) := by
          rcases ho with h0 | ⟨h0, z, h1, h2⟩
          · exact .inl h0
          · exact .inr ⟨h0, z, h1, (gU.cells _ _ hbb).trans h2⟩
        have cI := fun W => in_any x.id 1 (s.nb - 1) W
        have cM := fun y : Gr U => may_any x.name y.W (by omega) (HTB.out.below ((gw.trans gU).trans y.g))
        have cB := fun y : Gr U => named_any _ _ x.name y.W (Books.grow (Books.grow HRT.out gU) y.g) (by rw [List.length_take]; omega)
        have HD := Lib.hid (show bookOk s j = ((decide (1 ≤ x.id) && decide (x.id ≤ s.nb - 1)) && (j == 0 || decide ((bookAt s (j - 1)).id < x.id)) && mayB x.name && decide (idx (fun b => b.name.toList == x.name.toList) (s.books.take j) < 0)) by unfold bookOk bookAt; rw [HX.out])
        go_cut [81] (fun v81 wc => v81 = .bool (!bookOk s j) ∧ Grow U wc)
        case first =>
          have H' := HD.out
          clear HD HA HMM HH HZ HTB q0 q1 q2 q3 q4 hgr gw HX HRT gU hns
          cases e1 : (decide (1 ≤ x.id) && decide (x.id ≤ s.nb - 1))
          · have HN := Lib.hid (show bookOk s j = false by rw [H', e1]; rfl)
            rw [e1] at cI
            clear H' e1 cM cB
            refine wp_region_gr (by kernel_rfl) (by kernel_rfl) ?_
            repeat (go_big_quiet_step (first | (go_at_call 41; exact Calls.gr_same (cI _)) | (go_at_call 42; exact Calls.gr (cM _)) | (go_at_call 43; exact Calls.gr (cB _))))
            refine wpQuiet_nil ?_
            rintro _ ⟨y, rfl⟩
            go_wp2_with fail
            go_meet
            exact ⟨by rw [HN.out]; rfl, y.g⟩
          rw [e1] at cI H'
          clear e1
          by_cases hord : (0 : Int) < j ∧ x.id ≤ (bookAt s (j - 1)).id
          · obtain ⟨i0, hord⟩ := hord
            rcases ho with ⟨h0, -⟩ | ⟨h0, z, hz, k0⟩
            · omega
            rw [hz] at hord H'
            have HN := Lib.hid (show bookOk s j = false by
              rw [H', decide_eq_false (show ¬ z.id < x.id by omega), show (j == 0) = false by rw [beq_eq_false_iff_ne]; omega]; rfl)
            clear H' hz cM cB
            have hd : decide (0 < j) = true := decide_eq_true (by omega)
            have hd' : decide ((0 : Int) < j) = true := decide_eq_true h0
            have hi0 : IntKind.i64.wrap ((j : Int) - 1) = (j : Int) - 1 := IntWalk.i64_in _ (by omega)
            have hi1 : (0 : Int) ≤ (j : Int) - 1 := by omega
            have hi2 : (j : Int) - 1 < s.books.length := by omega
            have hd8 : decide (x.id ≤ z.id) = true := decide_eq_true hord
            have hi3 : ((j : Int) - 1).toNat = j - 1 := by omega
            refine wp_region_gr (by kernel_rfl) (by kernel_rfl) ?_
            repeat (go_big_quiet_step (first | (go_at_call 41; exact Calls.gr_same (cI _)) | (go_at_call 42; exact Calls.gr (cM _)) | (go_at_call 43; exact Calls.gr (cB _))))
            refine wpQuiet_nil ?_
            rintro _ ⟨y, rfl⟩
            go_wp2_with fail
            go_meet
            exact ⟨by rw [HN.out]; rfl, y.g⟩
          have H2 : bookOk s j = (mayB x.name && decide (idx (fun b => b.name.toList == x.name.toList) (s.books.take j) < 0)) := by
            rw [H', show (j == 0 || decide ((bookAt s (j - 1)).id < x.id)) = true by
              rw [Bool.or_eq_true, beq_iff_eq, decide_eq_true_eq]; omega]; simp
          clear H'
          have ho2 : ((j : Int) ≤ 0) ∨ ((0 : Int) < j ∧ ∃ z : Book, z.id < x.id ∧ U.cell? ⟨bb, off + (j - 1) * 2, none⟩ = some (.int .i64 z.id)) := by
            rcases ho with ⟨h0, -⟩ | ⟨h0, z, hz, k0⟩
            · exact .inl h0
            · exact .inr ⟨h0, z, by rw [← hz]; omega, k0⟩
          clear ho hord
          cases e3 : mayB x.name
          · have HN := Lib.hid (show bookOk s j = false by rw [H2, e3]; rfl)
            rw [e3] at cM
            clear H2 e3 cB
            rcases ho2 with h0 | ⟨h0, z, hzi, k0⟩
            · have hd : decide (0 < j) = false := decide_eq_false (by omega)
              have hd' : decide ((0 : Int) < j) = false := decide_eq_false (by omega)
              refine wp_region_gr (by kernel_rfl) (by kernel_rfl) ?_
              repeat (go_big_quiet_step (first | (go_at_call 41; exact Calls.gr_same (cI _)) | (go_at_call 42; exact Calls.gr (cM _)) | (go_at_call 43; exact Calls.gr (cB _))))
              refine wpQuiet_nil ?_
              rintro _ ⟨y, rfl⟩
              go_wp2_with fail
              go_meet
              exact ⟨by rw [HN.out]; rfl, y.g⟩
            · have hd : decide (0 < j) = true := decide_eq_true (by omega)
              have hd' : decide ((0 : Int) < j) = true := decide_eq_true h0
              have hi0 : IntKind.i64.wrap ((j : Int) - 1) = (j : Int) - 1 := IntWalk.i64_in _ (by omega)
              have hi1 : (0 : Int) ≤ (j : Int) - 1 := by omega
              have hi2 : (j : Int) - 1 < s.books.length := by omega
              have hd8 : decide (x.id ≤ z.id) = false := decide_eq_false (by omega)
              have hi3 : ((j : Int) - 1).toNat = j - 1 := by omega
              refine wp_region_gr (by kernel_rfl) (by kernel_rfl) ?_
              repeat (go_big_quiet_step (first | (go_at_call 41; exact Calls.gr_same (cI _)) | (go_at_call 42; exact Calls.gr (cM _)) | (go_at_call 43; exact Calls.gr (cB _))))
              refine wpQuiet_nil ?_
              rintro _ ⟨y, rfl⟩
              go_wp2_with fail
              go_meet
              exact ⟨by rw [HN.out]; rfl, y.g⟩
          rw [e3] at cM H2
          clear e3
          have hjc : (j : Int) ≤ c1 := by omega
          have hj0 : (0 : Int) ≤ j := by omega
          generalize idx (fun b : Book => b.name.toList == x.name.toList) (s.books.take j) = I at *
          by_cases e4 : I < 0
          · have HN := Lib.hid (show bookOk s j = true by rw [H2, decide_eq_true e4]; rfl)
            have hd4 : decide (0 ≤ I) = false := decide_eq_false (by omega)
            clear H2
            rcases ho2 with h0 | ⟨h0, z, hzi, k0⟩
            · have hd : decide (0 < j) = false := decide_eq_false (by omega)
              have hd' : decide ((0 : Int) < j) = false := decide_eq_false (by omega)
              refine wp_region_gr (by kernel_rfl) (by kernel_rfl) ?_
              repeat (go_big_quiet_step (first | (go_at_call 41; exact Calls.gr_same (cI _)) | (go_at_call 42; exact Calls.gr (cM _)) | (go_at_call 43; exact Calls.gr (cB _))))
              refine wpQuiet_nil ?_
              rintro _ ⟨y, rfl⟩
              go_wp2_with fail
              go_meet
              exact ⟨by rw [HN.out]; rfl, y.g⟩
            · have hd : decide (0 < j) = true := decide_eq_true (by omega)
              have hd' : decide ((0 : Int) < j) = true := decide_eq_true h0
              have hi0 : IntKind.i64.wrap ((j : Int) - 1) = (j : Int) - 1 := IntWalk.i64_in _ (by omega)
              have hi1 : (0 : Int) ≤ (j : Int) - 1 := by omega
              have hi2 : (j : Int) - 1 < s.books.length := by omega
              have hd8 : decide (x.id ≤ z.id) = false := decide_eq_false (by omega)
              have hi3 : ((j : Int) - 1).toNat = j - 1 := by omega
              refine wp_region_gr (by kernel_rfl) (by kernel_rfl) ?_
              repeat (go_big_quiet_step (first | (go_at_call 41; exact Calls.gr_same (cI _)) | (go_at_call 42; exact Calls.gr (cM _)) | (go_at_call 43; exact Calls.gr (cB _))))
              refine wpQuiet_nil ?_
              rintro _ ⟨y, rfl⟩
              go_wp2_with fail
              go_meet
              exact ⟨by rw [HN.out]; rfl, y.g⟩
          · have HN := Lib.hid (show bookOk s j = false by rw [H2, decide_eq_false e4]; rfl)
            have hd4 : decide (0 ≤ I) = true := decide_eq_true (by omega)
            clear H2
            rcases ho2 with h0 | ⟨h0, z, hzi, k0⟩
            · have hd : decide (0 < j) = false := decide_eq_false (by omega)
              have hd' : decide ((0 : Int) < j) = false := decide_eq_false (by omega)
              refine wp_region_gr (by kernel_rfl) (by kernel_rfl) ?_
              repeat (go_big_quiet_step (first | (go_at_call 41; exact Calls.gr_same (cI _)) | (go_at_call 42; exact Calls.gr (cM _)) | (go_at_call 43; exact Calls.gr (cB _))))
              refine wpQuiet_nil ?_
              rintro _ ⟨y, rfl⟩
              go_wp2_with fail
              go_meet
              exact ⟨by rw [HN.out]; rfl, y.g⟩
            · have hd : decide (0 < j) = true := decide_eq_true (by omega)
              have hd' : decide ((0 : Int) < j) = true := decide_eq_true h0
              have hi0 : IntKind.i64.wrap ((j : Int) - 1) = (j : Int) - 1 := IntWalk.i64_in _ (by omega)
              have hi1 : (0 : Int) ≤ (j : Int) - 1 := by omega
              have hi2 : (j : Int) - 1 < s.books.length := by omega
              have hd8 : decide (x.id ≤ z.id) = false := decide_eq_false (by omega)
              have hi3 : ((j : Int) - 1).toNat = j - 1 := by omega
              refine wp_region_gr (by kernel_rfl) (by kernel_rfl) ?_
              repeat (go_big_quiet_step (first | (go_at_call 41; exact Calls.gr_same (cI _)) | (go_at_call 42; exact Calls.gr (cM _)) | (go_at_call 43; exact Calls.gr (cB _))))
              refine wpQuiet_nil ?_
              rintro _ ⟨y, rfl⟩
              go_wp2_with fail
              go_meet
              exact ⟨by rw [HN.out]; rfl, y.g⟩
        case rest =>
          obtain ⟨rfl, gc⟩ := hcut
          clear cI cM cB
          cases hok : bookOk s j
          · have HN := Lib.hid (show mayS s = false by unfold mayS; rw [allTo_no hlt hok]; simp)
            clear hok
            go_wp2_with fail
            go_ret
            exact ⟨ret_bool HN.out.symm, (gw.trans gU).trans gc⟩
          · have HK := Lib.hid hok
            clear hok
            go_wp2_with fail
            go_roundw
            case rel => exact ⟨(hgr.trans gU).trans gc, j + 1, by go_num, by omega, fun k hk => by
              rcases (by omega : k < j ∨ k = j) with h3 | rfl
              · exact HA.out k h3
              · exact HK.out⟩
            case measure => simp [intOf]; omega
      · have hlt' : ¬ (j : Int) < s.books.length := by omega
        have HB := Lib.hid (allTo_yes (n := s.books.length) (p := bookOk s) (fun k hk => HA.out k (by omega)))
        clear HA hj hgr
        go_wp2_with fail
        have gM : Grow w (wr.alloc (.map #[] 0)) := gw.alloc _
        have hSM := Seen.made wr
        have hlM : wr.heap.size < (wr.alloc (.map #[] 0)).heap.size := by simp
        have Q : (wr.alloc (.map #[] 0)).cell? ⟨w.heap.size, 0, none⟩ = some (.int .i64 s.nb) ∧ (wr.alloc (.map #[] 0)).cell? ⟨w.heap.size, 1, none⟩ = some (.int .i64 s.nn) ∧ (wr.alloc (.map #[] 0)).cell? ⟨w.heap.size, 2, none⟩ = some (.int .i64 s.ns) ∧ (wr.alloc (.map #[] 0)).cell? ⟨w.heap.size, 3, none⟩ = some (.slice a1 s.books.length c1) ∧
            (wr.alloc (.map #[] 0)).cell? ⟨w.heap.size, 4, none⟩ = some (.slice a2 s.notes.length c2) := by
          have gA : Grow wr (wr.alloc (.map #[] 0)) := (Grow.refl wr).alloc _
          exact ⟨(gA.cells _ _ hsr).trans q0, (gA.cells _ _ hsr).trans q1, (gA.cells _ _ hsr).trans q2, (gA.cells _ _ hsr).trans q3, (gA.cells _ _ hsr).trans q4⟩
        clear q0 q1 q2 q3 q4 gw
        obtain ⟨q0, q1, q2, q3, q4⟩ := Q
        generalize hM : wr.alloc (.map #[] 0) = M at *
        generalize hbM : wr.heap.size = bM at *
        clear hM hbM
        go_loopw [6, 87] (fun _ v87 wx => Turned bM M wx ∧ ∃ (j n : Nat) (S : List Int), v87 = .int .i64 j ∧ j ≤ s.notes.length ∧ n ≤ j * 1000000 ∧ Seen wx bM n S ∧ (∀ k, k < j → noteOk s k = true) ∧ sheetsOk s.ns [] (s.notes.flatMap (·.sheets)) = sheetsOk s.ns S ((s.notes.drop j).flatMap (·.sheets))) (fun _ v87 _ => s.notes.length - (intOf v87).toNat)
        case atStart => exact ⟨Turned.refl _ _, 0, 0, [], rfl, by omega, by omega, hSM, fun k h => absurd h (by omega), rfl⟩
        case round =>
          obtain ⟨ht, j, n, S, rfl, hj, hnj, hSn, hall, hso⟩ := hrel
          have HA := Lib.hid hall
          have HS := Lib.hid hSn
          have HO := Lib.hid hso
          clear hall hSn hso hSM
          have hne : w.heap.size ≠ bM := by omega
          have hwM : w.heap.size < M.heap.size := by omega
          replace q0 := (ht.cell hwM hne).trans q0
          replace q1 := (ht.cell hwM hne).trans q1
          replace q2 := (ht.cell hwM hne).trans q2
          replace q3 := (ht.cell hwM hne).trans q3
          replace q4 := (ht.cell hwM hne).trans q4
          have g9 : Grow w wr := Turned.grow ht gM (by omega)
          by_cases hlt : j < s.notes.length
          · have hlt' : (j : Int) < s.notes.length := by omega
            obtain ⟨x, hx, -⟩ := lt_get hlt
            have HXX := Lib.hid hx
            have cN := mayNote_any s _ _ j x bM n S w wr hx HH.out g9 (by omega) HS.out (by omega) HTB.out HZ.out.1.1 HZ.out.1.2.1 (HZ.out.note hx) (by omega) (by omega) (by omega) (by omega)
            have hxl : x.sheets.length ≤ 1000000 := (HZ.out.note hx).2.2.1
            have HD := Lib.hid (drop_flat hx)
            clear hx
            unfold shelfV at cN
            go_wp2_with fail
            refine cN.mono ?_
            rintro e w1 ⟨t1, hr⟩
            rcases hr with ⟨hno, rfl⟩ | ⟨hyes, rfl, hS1⟩
            · have HN := Lib.hid (show mayS s = false by
                unfold mayS
                cases hok : noteOk s j
                · rw [allTo_no hlt hok]; simp
                · rw [hok, Bool.true_and] at hno
                  rw [HO.out, HD.out, sheetsOk_append, hno]; simp)
              clear hno
              go_wp2_with fail
              go_ret
              exact ⟨ret_bool HN.out.symm, Turned.grow (ht.trans t1) gM (by omega)⟩
            · rw [Bool.and_eq_true] at hyes
              have HK := Lib.hid hyes.1
              have HO2 := Lib.hid (show sheetsOk s.ns [] (s.notes.flatMap (·.sheets)) = sheetsOk s.ns (x.sheets.reverse ++ S) ((s.notes.drop (j + 1)).flatMap (·.sheets)) by
                rw [HO.out, HD.out, sheetsOk_append, hyes.2, Bool.true_and])
              have HS1 := Lib.hid hS1
              clear hyes hS1
              go_wp2_with fail
              go_roundw
              case rel => exact ⟨ht.trans t1, j + 1, n + x.sheets.length, _, by go_num, by omega, by omega, HS1.out, fun k hk => by
                rcases (by omega : k < j ∨ k = j) with h3 | rfl
                · exact HA.out k h3
                · exact HK.out, HO2.out⟩
              case measure => simp [intOf]; omega
          · have hlt' : ¬ (j : Int) < s.notes.length := by omega
            have HR := Lib.hid (show mayS s = true by
              unfold mayS
              rw [HMM.out, HB.out, allTo_yes (fun k hk => HA.out k (by omega)), HO.out, List.drop_of_length_le (by omega)]; rfl)
            go_wp2_with fail
            go_ret
            exact ⟨ret_bool HR.out.symm, g9⟩
end Go.Proofs.YtnajccljdjllgaaGreatDoor
set_option linter.unusedVariables false
set_option linter.unusedSimpArgs false
namespace Go.Proofs.YtnajccljdjllgaaGreatDoor
open Go.RowKit Go.Lib
theorem pair_adj {α : Type} {R : α → α → Prop} (ht : ∀ x y z, R x y → R y z → R x z) : ∀ l : List α, (∀ (i : Nat) x y, l[i]? = some x → l[i + 1]? = some y → R x y) → l.Pairwise R
  | [], _ => .nil
  | [x], _ => by simp
  | x :: y :: l, h => by
    have ih := pair_adj ht (y :: l) (fun i a b ha hb => h (i + 1) a b (by simpa using ha) (by simpa using hb))
    refine List.pairwise_cons.2 ⟨fun z hz => ?_, ih⟩
    rcases List.mem_cons.1 hz with rfl | hz
    · exact h 0 x z rfl rfl
    · exact ht x y z (h 0 x y rfl rfl) ((List.pairwise_cons.1 ih).1 z hz)
theorem pair_get {α : Type} {R : α → α → Prop} {l : List α} (h : l.Pairwise R) {i j : Nat} {x y : α} (hi : l[i]? = some x) (hj : l[j]? = some y) (hij : i < j) : R x y := by
  obtain ⟨h1, rfl⟩ := List.getElem?_eq_some_iff.1 hi
  obtain ⟨h2, rfl⟩ := List.getElem?_eq_some_iff.1 hj
  exact List.pairwise_iff_getElem.1 h i j h1 h2 hij
theorem pair_of {α : Type} {R : α → α → Prop} {l : List α} (h : ∀ (i j : Nat) x y, i < j → l[i]? = some x → l[j]? = some y → R x y) : l.Pairwise R :=
  List.pairwise_iff_getElem.2 fun i j hi hj hij => h i j _ _ hij (List.getElem?_eq_getElem hi) (List.getElem?_eq_getElem hj)
theorem idx_neg {α : Type} {p : α → Bool} {l : List α} : idx p l < 0 ↔ ∀ x ∈ l, p x = false := by
  constructor
  · intro h x hx
    cases e : p x with
    | false => rfl
    | true =>
      exfalso
      induction l with
      | nil => cases hx
      | cons y l ih =>
        unfold idx at h
        have hb := idx_bd p l
        split at h
        · omega
        · rename_i hy
          rcases List.mem_cons.1 hx with rfl | hx
          · exact hy e
          · split at h
            · rename_i hh
              exact ih (by omega) hx
            · omega
  · intro h
    rw [idx_none fun j x hx => h x (List.mem_of_getElem? hx)]
    omega
theorem toList_ne {a b : ByteArray} : (a.toList == b.toList) = false ↔ a ≠ b := by
  rw [beq_eq_false_iff_ne]
  exact ⟨fun h e => h (by rw [e]), fun h e => h (eq_of_tl e)⟩
theorem toList_eq {a b : ByteArray} : (a.toList == b.toList) = true ↔ a = b := by
  rw [beq_iff_eq]
  exact ⟨eq_of_tl, fun e => by rw [e]⟩
theorem sheetsOk_iff (ns : Int) : ∀ (l S : List Int), sheetsOk ns S l = true ↔ l.Nodup ∧ (∀ x ∈ l, x ∉ S) ∧ ∀ x ∈ l, 1 ≤ x ∧ x ≤ ns - 1
  | [], S => by simp [sheetsOk]
  | x :: l, S => by
    rw [sheetsOk, Bool.and_eq_true, Bool.and_eq_true, Bool.and_eq_true, sheetsOk_iff ns l (x :: S)]
    simp only [Bool.not_eq_true', decide_eq_false_iff_not, decide_eq_true_eq, List.nodup_cons, List.mem_cons, forall_eq_or_imp, not_or]
    constructor
    · rintro ⟨⟨h1, h2⟩, h3, h4, h5⟩
      exact ⟨⟨fun hx => (h4 x hx).1 rfl, h3⟩, ⟨h1, fun y hy => (h4 y hy).2⟩, h2, h5⟩
    · rintro ⟨⟨h1, h2⟩, ⟨h3, h4⟩, h5, h6⟩
      exact ⟨⟨h3, h5⟩, h2, fun y hy => ⟨fun e => h1 (e ▸ hy), h4 y hy⟩, h6⟩
structure MayP (s : Shelf) : Prop where
  nb : 1 ≤ s.nb ∧ s.nb ≤ 65536
  nn : 1 ≤ s.nn ∧ s.nn ≤ 65536
  ns : 1 ≤ s.ns ∧ s.ns ≤ 4096
  bl : s.books.length ≤ 6
  nl : s.notes.length ≤ 12
  bid : ∀ b ∈ s.books, 1 ≤ b.id ∧ b.id ≤ s.nb - 1
  bmay : ∀ b ∈ s.books, mayB b.name = true
  binc : s.books.Pairwise fun a b => a.id < b.id
  bnew : s.books.Pairwise fun a b => a.name ≠ b.name
  nid : ∀ n ∈ s.notes, 1 ≤ n.id ∧ n.id ≤ s.nn - 1
  nmay : ∀ n ∈ s.notes, mayB n.name = true
  nbook : ∀ n ∈ s.notes, ∃ b ∈ s.books, b.id = n.book
  ninc : s.notes.Pairwise fun a b => a.id < b.id
  nnew : s.notes.Pairwise fun a b => ¬ (a.book = b.book ∧ a.name = b.name)
  tmay : ∀ n ∈ s.notes, ∀ t ∈ n.tags, mayB t = true
  tinc : ∀ n ∈ s.notes, n.tags.Pairwise fun a b => ltS a b = true
  tl : ∀ n ∈ s.notes, n.tags.length ≤ 4
  sl : ∀ n ∈ s.notes, n.sheets.length ≤ 8
  sid : ∀ x ∈ s.notes.flatMap (·.sheets), 1 ≤ x ∧ x ≤ s.ns - 1
  snew : (s.notes.flatMap (·.sheets)).Nodup
theorem allTo_get {n : Nat} {p : Nat → Bool} (h : allTo n p = true) {i : Nat} (hi : i < n) : p i = true := allTo_iff.1 h i hi
theorem tagsB_iff {l : List ByteArray} : tagsB l = true ↔ (∀ t ∈ l, mayB t = true) ∧ (l.Pairwise fun a b => ltS a b = true) ∧ l.length ≤ 4 := by
  unfold tagsB
  rw [Bool.and_eq_true, decide_eq_true_eq, allTo_iff]
  constructor
  · rintro ⟨h, h4⟩
    refine ⟨fun t ht => ?_, pair_adj (R := fun a b => ltS a b = true) (fun x y z h1 h2 => ltS_trans h1 h2) l fun i x y hx hy => ?_, h4⟩
    · obtain ⟨i, hi⟩ := List.getElem?_of_mem ht
      have := h i (List.getElem?_eq_some_iff.1 hi).1
      unfold tagOk at this
      rw [Bool.and_eq_true, getD_of hi] at this
      exact this.1
    · have := h (i + 1) (List.getElem?_eq_some_iff.1 hy).1
      unfold tagOk at this
      rw [Bool.and_eq_true, getD_of hy, Nat.add_sub_cancel, getD_of hx] at this
      simpa using this.2
  · rintro ⟨h1, h2, h3⟩
    refine ⟨fun i hi => ?_, h3⟩
    obtain ⟨x, hx, -⟩ := lt_get hi
    unfold tagOk
    rw [Bool.and_eq_true, getD_of hx]
    refine ⟨h1 x (List.mem_of_getElem? hx), ?_⟩
    cases i with
    | zero => rfl
    | succ i =>
      obtain ⟨y, hy, -⟩ := lt_get (show i < l.length by omega)
      rw [Nat.add_sub_cancel, getD_of hy, pair_get h2 hy hx (by omega)]; simp
theorem idx_nonneg {α : Type} {p : α → Bool} {l : List α} : 0 ≤ idx p l ↔ ∃ x ∈ l, p x = true := by
  constructor
  · intro h
    apply Classical.byContradiction
    intro hn
    have : idx p l < 0 := idx_neg.2 fun x hx => by
      cases e : p x with
      | false => rfl
      | true => exact absurd ⟨x, hx, e⟩ hn
    omega
  · rintro ⟨x, hx, hp⟩
    apply Classical.byContradiction
    intro hn
    have := idx_neg.1 (show idx p l < 0 by omega) x hx
    rw [hp] at this; cases this
theorem mayS_iff {s : Shelf} : mayS s = true ↔ MayP s := by
  unfold mayS mayHead
  simp only [Bool.and_eq_true, decide_eq_true_eq, sheetsOk_iff, allTo_iff]
  constructor
  · rintro ⟨⟨⟨⟨⟨⟨⟨h1, h2⟩, h3⟩, h4⟩, h5⟩, hB⟩, hN⟩, h6, -, h7⟩
    have gB : ∀ (i : Nat) b, s.books[i]? = some b → ((1 ≤ b.id ∧ b.id ≤ s.nb - 1) ∧ mayB b.name = true) ∧ (∀ j a, j < i → s.books[j]? = some a → a.name ≠ b.name) ∧ (∀ a, s.books[i - 1]? = some a → i ≠ 0 → a.id < b.id) := fun i b hb => by
      have := hB i (List.getElem?_eq_some_iff.1 hb).1
      unfold bookOk at this
      simp only [Bool.and_eq_true, decide_eq_true_eq, bookAt, getD_of hb] at this
      obtain ⟨⟨⟨t1, t2⟩, t3⟩, t4⟩ := this
      refine ⟨⟨t1, t3⟩, fun j a hj ha => ?_, fun a ha h0 => ?_⟩
      · have := idx_neg.1 t4 a (List.mem_of_getElem? (i := j) (by rw [List.getElem?_take_of_lt hj]; exact ha))
        exact toList_ne.1 this
      · rw [getD_of ha] at t2
        simpa [h0] using t2
    have gN : ∀ (i : Nat) n, s.notes[i]? = some n → ((1 ≤ n.id ∧ n.id ≤ s.nn - 1) ∧ mayB n.name = true) ∧ (∃ b ∈ s.books, b.id = n.book) ∧ tagsB n.tags = true ∧ n.sheets.length ≤ 8 ∧ (∀ j a, j < i → s.notes[j]? = some a → ¬ (a.book = n.book ∧ a.name = n.name)) ∧ (∀ a, s.notes[i - 1]? = some a → i ≠ 0 → a.id < n.id) := fun i n hn => by
      have := hN i (List.getElem?_eq_some_iff.1 hn).1
      unfold noteOk noteHead noteNew at this
      simp only [Bool.and_eq_true, decide_eq_true_eq, noteAt, getD_of hn] at this
      obtain ⟨⟨⟨⟨⟨⟨t1, t2⟩, t3⟩, t4⟩, t5⟩, t6⟩, t7⟩ := this
      refine ⟨⟨t1, t3⟩, ?_, t5, t6, fun j a hj ha => ?_, fun a ha h0 => ?_⟩
      · obtain ⟨b, hb, e⟩ := idx_nonneg.1 t4
        exact ⟨b, hb, by simpa using e⟩
      · have := allTo_get t7 hj
        rw [getD_of ha] at this
        rintro ⟨e1, e2⟩
        rw [e1, e2] at this
        simp at this
      · rw [getD_of ha] at t2
        simpa [h0] using t2
    have inc : ∀ {α : Type} {l : List α} {f : α → Int}, (∀ (i : Nat) b, l[i]? = some b → ∀ a, l[i - 1]? = some a → i ≠ 0 → f a < f b) → l.Pairwise fun a b => f a < f b := fun h =>
      pair_adj (fun x y z h1 h2 => by omega) _ fun i x y hx hy => h (i + 1) y hy x (by simpa using hx) (by omega)
    have mB : ∀ {p : Book → Prop}, (∀ (i : Nat) b, s.books[i]? = some b → p b) → ∀ b ∈ s.books, p b := fun h b hb => by
      obtain ⟨i, hi⟩ := List.getElem?_of_mem hb; exact h i b hi
    have mN : ∀ {p : Note → Prop}, (∀ (i : Nat) b, s.notes[i]? = some b → p b) → ∀ b ∈ s.notes, p b := fun h b hb => by
      obtain ⟨i, hi⟩ := List.getElem?_of_mem hb; exact h i b hi
    exact {
      nb := h1, nn := h2, ns := h3, bl := h4, nl := h5
      bid := mB fun i b hb => (gB i b hb).1.1
      bmay := mB fun i b hb => (gB i b hb).1.2
      binc := inc fun i b hb => (gB i b hb).2.2
      bnew := pair_of fun i j x y hij hx hy => (gB j y hy).2.1 i x hij hx
      nid := mN fun i b hb => (gN i b hb).1.1
      nmay := mN fun i b hb => (gN i b hb).1.2
      nbook := mN fun i b hb => (gN i b hb).2.1
      ninc := inc fun i b hb => (gN i b hb).2.2.2.2.2
      nnew := pair_of fun i j x y hij hx hy => (gN j y hy).2.2.2.2.1 i x hij hx
      tmay := mN fun i b hb => (tagsB_iff.1 (gN i b hb).2.2.1).1
      tinc := mN fun i b hb => (tagsB_iff.1 (gN i b hb).2.2.1).2.1
      tl := mN fun i b hb => (tagsB_iff.1 (gN i b hb).2.2.1).2.2
      sl := mN fun i b hb => (gN i b hb).2.2.2.1
      sid := h7, snew := h6 }
  · intro h
    refine ⟨⟨⟨⟨⟨⟨⟨h.nb, h.nn⟩, h.ns⟩, h.bl⟩, h.nl⟩, fun i hi => ?_⟩, fun i hi => ?_⟩, h.snew, fun x _ => by simp, h.sid⟩
    · obtain ⟨b, hb, -⟩ := lt_get hi
      have hm := List.mem_of_getElem? hb
      unfold bookOk
      simp only [Bool.and_eq_true, decide_eq_true_eq, bookAt, getD_of hb]
      refine ⟨⟨⟨h.bid b hm, ?_⟩, h.bmay b hm⟩, idx_neg.2 fun a ha => ?_⟩
      · cases i with
        | zero => rfl
        | succ i =>
          obtain ⟨a, ha, -⟩ := lt_get (show i < s.books.length by omega)
          rw [Nat.add_sub_cancel, getD_of ha]
          have := pair_get h.binc ha hb (by omega)
          simp [this]
      · obtain ⟨j, hj⟩ := List.getElem?_of_mem ha
        rw [List.getElem?_take] at hj
        split at hj
        · rename_i hlt
          exact toList_ne.2 (pair_get h.bnew hj hb hlt)
        · cases hj
    · obtain ⟨n, hn, -⟩ := lt_get hi
      have hm := List.mem_of_getElem? hn
      unfold noteOk noteHead noteNew
      simp only [Bool.and_eq_true, decide_eq_true_eq, noteAt, getD_of hn]
      refine ⟨⟨⟨⟨⟨⟨h.nid n hm, ?_⟩, h.nmay n hm⟩, ?_⟩, tagsB_iff.2 ⟨h.tmay n hm, h.tinc n hm, h.tl n hm⟩⟩, h.sl n hm⟩, allTo_yes fun j hj => ?_⟩
      · cases i with
        | zero => rfl
        | succ i =>
          obtain ⟨a, ha, -⟩ := lt_get (show i < s.notes.length by omega)
          rw [Nat.add_sub_cancel, getD_of ha]
          have := pair_get h.ninc ha hn (by omega)
          simp [this]
      · obtain ⟨b, hb, e⟩ := h.nbook n hm
        exact idx_nonneg.2 ⟨b, hb, by simp [e]⟩
      · obtain ⟨a, ha, -⟩ := lt_get (show j < s.notes.length by omega)
        have := pair_get h.nnew ha hn hj
        rw [getD_of ha]
        cases e : (a.book == n.book && a.name.toList == n.name.toList) with
        | false => rfl
        | true =>
          rw [Bool.and_eq_true, beq_iff_eq, toList_eq] at e
          exact absurd e this
end Go.Proofs.YtnajccljdjllgaaGreatDoor
set_option linter.unusedVariables false
set_option linter.unusedSimpArgs false
namespace Go.Proofs.YtnajccljdjllgaaGreatDoor
open Go.RowKit Go.Lib
def zS : Shelf := ⟨0, 0, 0, [], []⟩
structure Res where
  s : Shelf
  n : Int
  e : Int
def bad (e : Int) : Res := ⟨zS, 0, e⟩
def resOf (e : Int) (s : Shelf) (n : Int) : Res := if e = 0 then ⟨s, n, 0⟩ else bad e
theorem resOf_e (e : Int) (s : Shelf) (n : Int) : (resOf e s n).e = e := by
  unfold resOf; split
  · rename_i h; exact h.symm
  · rfl
theorem resOf_ok {e : Int} (h : e = 0) (s : Shelf) (n : Int) : resOf e s n = ⟨s, n, 0⟩ := if_pos h
theorem resOf_no {e : Int} (h : e ≠ 0) (s : Shelf) (n : Int) : resOf e s n = bad e := if_neg h
def bookIx (s : Shelf) (id : Int) : Int := idx (fun x : Book => x.id == id) s.books
def noteIx (s : Shelf) (id : Int) : Int := idx (fun x : Note => x.id == id) s.notes
def nameIx (l : List Book) (t : ByteArray) : Int := idx (fun x : Book => x.name.toList == t.toList) l
def noteOf (s : Shelf) (id : Int) : Note := s.notes.getD (noteIx s id).toNat default
def titleB (q : Int) (t : ByteArray) (but : Int) (x : Note) : Bool := (x.book == q) && (x.name.toList == t.toList) && (x.id != but)
def hasT (t : ByteArray) (l : List ByteArray) : Bool := l.any fun x => x.toList == t.toList
def updN (id : Int) (f : Note → Note) (l : List Note) : List Note := l.map fun n => if n.id = id then f n else n
def updB (id : Int) (t : ByteArray) (l : List Book) : List Book := l.map fun b => if b.id = id then ⟨b.id, t⟩ else b
/-- A text among others, in order. -/
def insT (t : ByteArray) : List ByteArray → List ByteArray
  | [] => [t]
  | x :: l => if ltS x t then x :: insT t l else t :: x :: l
def makeE (s : Shelf) (t : ByteArray) : Int := if mayS s = false then 2 else if mayB t = false then 6 else if 0 ≤ nameIx s.books t then 7 else if 6 ≤ (s.books.length : Int) ∨ 65536 ≤ s.nb then 3 else 0
def renameE (s : Shelf) (id : Int) (t : ByteArray) : Int := if mayS s = false then 2 else if bookIx s id < 0 then 4 else if mayB t = false then 6 else if 0 ≤ nameIx s.books t ∧ nameIx s.books t ≠ bookIx s id then 7 else 0
def dropE (s : Shelf) (id : Int) : Int := if mayS s = false then 2 else if bookIx s id < 0 then 4 else 0
def addE (s : Shelf) (id : Int) (t : ByteArray) : Int := if mayS s = false then 2 else if bookIx s id < 0 then 4 else if mayB t = false then 6 else if s.notes.any (titleB id t 0) = true then 7 else if 12 ≤ (s.notes.length : Int) ∨ 65536 ≤ s.nn then 3 else 0
def noteE (s : Shelf) (id : Int) : Int := if mayS s = false then 2 else if noteIx s id < 0 then 4 else 0
def retitleE (s : Shelf) (id : Int) (t : ByteArray) : Int := if mayS s = false then 2 else if noteIx s id < 0 then 4 else if mayB t = false then 6 else if s.notes.any (titleB (noteOf s id).book t id) = true then 7 else 0
def moveE (s : Shelf) (id q : Int) : Int := if mayS s = false then 2 else if noteIx s id < 0 ∨ bookIx s q < 0 then 4 else if s.notes.any (titleB q (noteOf s id).name id) = true then 7 else 0
def tagE (s : Shelf) (id : Int) (t : ByteArray) : Int := if mayS s = false then 2 else if noteIx s id < 0 then 4 else if mayB t = false then 6 else if hasT t (noteOf s id).tags = true then 7 else if 4 ≤ ((noteOf s id).tags.length : Int) then 3 else 0
def untagE (s : Shelf) (id : Int) (t : ByteArray) : Int := if mayS s = false then 2 else if noteIx s id < 0 then 4 else if hasT t (noteOf s id).tags = false then 4 else 0
def appendE (s : Shelf) (id : Int) : Int := if mayS s = false then 2 else if noteIx s id < 0 then 4 else if 8 ≤ ((noteOf s id).sheets.length : Int) ∨ 4095 < s.ns then 3 else 0
def sheetE (s : Shelf) (id k : Int) : Int := if mayS s = false then 2 else if noteIx s id < 0 then 4 else if k < 0 ∨ ((noteOf s id).sheets.length : Int) ≤ k then 2 else 0
def sheetN (s : Shelf) (id k : Int) : Int := (noteOf s id).sheets.getD k.toNat 0
def makeR (s : Shelf) (t : ByteArray) : Res := resOf (makeE s t) { s with nb := s.nb + 1, books := s.books ++ [⟨s.nb, t⟩] } s.nb
def renameR (s : Shelf) (id : Int) (t : ByteArray) : Res := resOf (renameE s id t) { s with books := updB id t s.books } 0
def dropR (s : Shelf) (id : Int) : Res := resOf (dropE s id) { s with books := s.books.filter (fun b => !(b.id == id)), notes := s.notes.filter (fun n => !(n.book == id)) } 0
def addR (s : Shelf) (id : Int) (t : ByteArray) : Res := resOf (addE s id t) { s with nn := s.nn + 1, notes := s.notes ++ [⟨s.nn, id, t, [], []⟩] } s.nn
def retitleR (s : Shelf) (id : Int) (t : ByteArray) : Res := resOf (retitleE s id t) { s with notes := updN id (fun n => { n with name := t }) s.notes } 0
def moveR (s : Shelf) (id q : Int) : Res := resOf (moveE s id q) { s with notes := updN id (fun n => { n with book := q }) s.notes } 0
def discardR (s : Shelf) (id : Int) : Res := resOf (noteE s id) { s with notes := s.notes.filter (fun n => !(n.id == id)) } 0
def tagR (s : Shelf) (id : Int) (t : ByteArray) : Res := resOf (tagE s id t) { s with notes := updN id (fun n => { n with tags := insT t n.tags }) s.notes } 0
def untagR (s : Shelf) (id : Int) (t : ByteArray) : Res := resOf (untagE s id t) { s with notes := updN id (fun n => { n with tags := n.tags.filter (fun x => !(x.toList == t.toList)) }) s.notes } 0
def appendR (s : Shelf) (id : Int) : Res := resOf (appendE s id) { s with ns := s.ns + 1, notes := updN id (fun n => { n with sheets := n.sheets ++ [s.ns] }) s.notes } s.ns
def replaceR (s : Shelf) (id k : Int) : Res := resOf (sheetE s id k) s (sheetN s id k)
def removeR (s : Shelf) (id k : Int) : Res := resOf (sheetE s id k) { s with notes := updN id (fun n => { n with sheets := n.sheets.eraseIdx k.toNat }) s.notes } (sheetN s id k)
theorem makeE_zero {s : Shelf} {t : ByteArray} : makeE s t = 0 ↔ mayS s = true ∧ mayB t = true ∧ nameIx s.books t < 0 ∧ s.books.length < 6 ∧ s.nb < 65536 := by
  unfold makeE
  cases mayS s <;> cases mayB t <;> simp
  all_goals (repeat' split)
  all_goals (first | omega | (constructor <;> (intro h; omega)))
theorem renameE_zero {s : Shelf} {id : Int} {t : ByteArray} : renameE s id t = 0 ↔ mayS s = true ∧ 0 ≤ bookIx s id ∧ mayB t = true ∧ (nameIx s.books t < 0 ∨ nameIx s.books t = bookIx s id) := by
  unfold renameE
  cases mayS s <;> cases mayB t <;> simp
  all_goals (repeat' split)
  all_goals (first | omega | (constructor <;> (intro h; omega)))
theorem dropE_zero {s : Shelf} {id : Int} : dropE s id = 0 ↔ mayS s = true ∧ 0 ≤ bookIx s id := by
  unfold dropE
  cases mayS s <;> simp
theorem addE_zero {s : Shelf} {id : Int} {t : ByteArray} : addE s id t = 0 ↔ mayS s = true ∧ 0 ≤ bookIx s id ∧ mayB t = true ∧ s.notes.any (titleB id t 0) = false ∧ s.notes.length < 12 ∧ s.nn < 65536 := by
  unfold addE
  cases mayS s <;> cases mayB t <;> cases s.notes.any (titleB id t 0) <;> simp
  all_goals (repeat' split)
  all_goals (first | omega | (constructor <;> (intro h; omega)))
theorem noteE_zero {s : Shelf} {id : Int} : noteE s id = 0 ↔ mayS s = true ∧ 0 ≤ noteIx s id := by
  unfold noteE
  cases mayS s <;> simp
theorem retitleE_zero {s : Shelf} {id : Int} {t : ByteArray} : retitleE s id t = 0 ↔ mayS s = true ∧ 0 ≤ noteIx s id ∧ mayB t = true ∧ s.notes.any (titleB (noteOf s id).book t id) = false := by
  unfold retitleE
  cases mayS s <;> cases mayB t <;> cases s.notes.any (titleB (noteOf s id).book t id) <;> simp
  all_goals (repeat' split)
  all_goals (first | omega | (constructor <;> (intro h; omega)))
theorem moveE_zero {s : Shelf} {id q : Int} : moveE s id q = 0 ↔ mayS s = true ∧ 0 ≤ noteIx s id ∧ 0 ≤ bookIx s q ∧ s.notes.any (titleB q (noteOf s id).name id) = false := by
  unfold moveE
  cases mayS s <;> cases s.notes.any (titleB q (noteOf s id).name id) <;> simp
  all_goals (repeat' split)
  all_goals (first | omega | (constructor <;> (intro h; omega)))
theorem tagE_zero {s : Shelf} {id : Int} {t : ByteArray} : tagE s id t = 0 ↔ mayS s = true ∧ 0 ≤ noteIx s id ∧ mayB t = true ∧ hasT t (noteOf s id).tags = false ∧ (noteOf s id).tags.length < 4 := by
  unfold tagE
  cases mayS s <;> cases mayB t <;> cases hasT t (noteOf s id).tags <;> simp
  all_goals (repeat' split)
  all_goals (first | omega | (constructor <;> (intro h; omega)))
theorem untagE_zero {s : Shelf} {id : Int} {t : ByteArray} : untagE s id t = 0 ↔ mayS s = true ∧ 0 ≤ noteIx s id ∧ hasT t (noteOf s id).tags = true := by
  unfold untagE
  cases mayS s <;> cases hasT t (noteOf s id).tags <;> simp
theorem appendE_zero {s : Shelf} {id : Int} : appendE s id = 0 ↔ mayS s = true ∧ 0 ≤ noteIx s id ∧ (noteOf s id).sheets.length < 8 ∧ s.ns ≤ 4095 := by
  unfold appendE
  cases mayS s <;> simp
  all_goals (repeat' split)
  all_goals (first | omega | (constructor <;> (intro h; omega)))
theorem sheetE_zero {s : Shelf} {id k : Int} : sheetE s id k = 0 ↔ mayS s = true ∧ 0 ≤ noteIx s id ∧ 0 ≤ k ∧ k < (noteOf s id).sheets.length := by
  unfold sheetE
  cases mayS s <;> simp
  all_goals (repeat' split)
  all_goals (first | omega | (constructor <;> (intro h; omega)))
theorem mayB_small {s : ByteArray} (h : mayB s = true) : s.size < 256 := by
  unfold mayB at h
  simp only [Bool.and_eq_true, decide_eq_true_eq] at h
  omega
theorem MayP.tame {s : Shelf} (h : MayP s) : TameS s := by
  refine ⟨⟨by have := h.bl; omega, by have := h.nl; omega, fun b hb => by have := mayB_small (h.bmay b hb); omega, fun n hn => ?_⟩, fun n hn y hy => ?_⟩
  · have a1 := mayB_small (h.nmay n hn)
    have a2 := h.tl n hn
    have a3 := h.sl n hn
    exact ⟨by omega, by omega, by omega, fun t ht => by have := mayB_small (h.tmay n hn t ht); omega⟩
  · have := h.sid y (List.mem_flatMap.2 ⟨n, hn, hy⟩)
    have := h.ns
    unfold Wf; omega
/-! Where a note, or a book, stands. -/
theorem idx_get {α : Type} {p : α → Bool} : ∀ {l : List α} {i : Int}, idx p l = i → 0 ≤ i → ∃ x, l[i.toNat]? = some x ∧ p x = true
  | [], i, h, h0 => by unfold idx at h; omega
  | x :: l, i, h, h0 => by
    unfold idx at h
    split at h
    · rename_i hp; subst h; exact ⟨x, rfl, hp⟩
    · split at h
      · omega
      · obtain ⟨y, hy, hpy⟩ := idx_get (l := l) (p := p) rfl (show 0 ≤ idx p l by have := idx_bd p l; omega)
        refine ⟨y, ?_, hpy⟩
        rw [← h, show (idx p l + 1).toNat = (idx p l).toNat + 1 by have := idx_bd p l; omega]
        simpa using hy
theorem noteOf_get {s : Shelf} {id : Int} (h : 0 ≤ noteIx s id) : s.notes[(noteIx s id).toNat]? = some (noteOf s id) ∧ (noteOf s id).id = id := by
  obtain ⟨x, hx, hp⟩ := idx_get (p := fun x : Note => x.id == id) (l := s.notes) rfl h
  have e : noteOf s id = x := getD_of hx
  rw [e]
  exact ⟨hx, by simpa using hp⟩
theorem noteOf_mem {s : Shelf} {id : Int} (h : 0 ≤ noteIx s id) : noteOf s id ∈ s.notes := List.mem_of_getElem? (noteOf_get h).1
theorem inc_eq {α : Type} {f : α → Int} {l : List α} (h : l.Pairwise fun a b => f a < f b) {x y : α} (hx : x ∈ l) (hy : y ∈ l) (e : f x = f y) : x = y := by
  obtain ⟨i, hi⟩ := List.getElem?_of_mem hx
  obtain ⟨j, hj⟩ := List.getElem?_of_mem hy
  rcases Nat.lt_trichotomy i j with h1 | h1 | h1
  · have := pair_get h hi hj h1; omega
  · subst h1; rw [hi] at hj; exact Option.some.inj hj
  · have := pair_get h hj hi h1; omega
theorem MayP.note_eq {s : Shelf} (h : MayP s) {x y : Note} (hx : x ∈ s.notes) (hy : y ∈ s.notes) (e : x.id = y.id) : x = y := inc_eq (f := Note.id) h.ninc hx hy e
theorem MayP.book_eq {s : Shelf} (h : MayP s) {x y : Book} (hx : x ∈ s.books) (hy : y ∈ s.books) (e : x.id = y.id) : x = y := inc_eq (f := Book.id) h.binc hx hy e
theorem noteIx_of {s : Shelf} (h : MayP s) {i : Nat} {x : Note} (hx : s.notes[i]? = some x) : noteIx s x.id = i ∧ noteOf s x.id = x := by
  have e : noteIx s x.id = i := idx_some hx (by simp) fun j y hj hy => by
    have := pair_get h.ninc hy hx hj
    simp; omega
  refine ⟨e, ?_⟩
  unfold noteOf
  rw [e, Int.toNat_natCast, getD_of hx]
theorem noteOf_of {s : Shelf} (h : MayP s) {x : Note} (hx : x ∈ s.notes) : 0 ≤ noteIx s x.id ∧ noteOf s x.id = x := by
  obtain ⟨i, hi⟩ := List.getElem?_of_mem hx
  have := noteIx_of h hi
  exact ⟨by omega, this.2⟩
theorem noteIx_neg {s : Shelf} {id : Int} : noteIx s id < 0 ↔ ∀ x ∈ s.notes, x.id ≠ id := by
  unfold noteIx; rw [idx_neg]; simp
theorem bookIx_neg {s : Shelf} {id : Int} : bookIx s id < 0 ↔ ∀ x ∈ s.books, x.id ≠ id := by
  unfold bookIx; rw [idx_neg]; simp
theorem bookIx_pos {s : Shelf} {id : Int} : 0 ≤ bookIx s id ↔ ∃ x ∈ s.books, x.id = id := by
  unfold bookIx; rw [idx_nonneg]; simp
theorem noteIx_pos {s : Shelf} {id : Int} : 0 ≤ noteIx s id ↔ ∃ x ∈ s.notes, x.id = id := by
  unfold noteIx; rw [idx_nonneg]; simp
theorem nameIx_neg {l : List Book} {t : ByteArray} : nameIx l t < 0 ↔ ∀ x ∈ l, x.name ≠ t := by
  unfold nameIx; rw [idx_neg]
  exact ⟨fun h x hx => toList_ne.1 (h x hx), fun h x hx => toList_ne.2 (h x hx)⟩
/-- Stored where it stands. -/
theorem set_updN {l : List Note} (hu : l.Pairwise fun a b => a.id < b.id) {i : Nat} {x : Note} (hx : l[i]? = some x) (f : Note → Note) : l.set i (f x) = updN x.id f l := by
  apply List.ext_getElem?
  intro j
  have hi := (List.getElem?_eq_some_iff.1 hx).1
  unfold updN
  rw [List.getElem?_map, List.getElem?_set]
  by_cases e : i = j
  · subst e
    rw [if_pos rfl, if_pos hi, hx]; simp
  · rw [if_neg e]
    cases hy : l[j]? with
    | none => rfl
    | some y =>
      have : ¬ y.id = x.id := fun e2 => by
        rcases Nat.lt_or_gt_of_ne e with h | h
        · have := pair_get hu hx hy h; omega
        · have := pair_get hu hy hx h; omega
      simp [this]
theorem set_updB {l : List Book} (hu : l.Pairwise fun a b => a.id < b.id) {i : Nat} {x : Book} (hx : l[i]? = some x) (t : ByteArray) : l.set i ⟨x.id, t⟩ = updB x.id t l := by
  apply List.ext_getElem?
  intro j
  have hi := (List.getElem?_eq_some_iff.1 hx).1
  unfold updB
  rw [List.getElem?_map, List.getElem?_set]
  by_cases e : i = j
  · subst e
    rw [if_pos rfl, if_pos hi, hx]; simp
  · rw [if_neg e]
    cases hy : l[j]? with
    | none => rfl
    | some y =>
      have : ¬ y.id = x.id := fun e2 => by
        rcases Nat.lt_or_gt_of_ne e with h | h
        · have := pair_get hu hx hy h; omega
        · have := pair_get hu hy hx h; omega
      simp [this]
/-! A shelf that may be may be behind each change. -/
theorem flat_sub {α β : Type} (f : α → List β) {l m : List α} (h : l.Sublist m) : (l.flatMap f).Sublist (m.flatMap f) := by
  induction h with
  | slnil => simp
  | cons a _ ih => rw [List.flatMap_cons]; exact ih.trans (List.sublist_append_right _ _)
  | cons_cons a _ ih => rw [List.flatMap_cons, List.flatMap_cons]; exact (List.Sublist.refl _).append ih
theorem flat_sub2 {α β : Type} (f : α → List β) (g : α → α) : ∀ l : List α, (∀ x ∈ l, (f (g x)).Sublist (f x)) → ((l.map g).flatMap f).Sublist (l.flatMap f)
  | [], _ => by simp
  | x :: l, h => by
    rw [List.map_cons, List.flatMap_cons, List.flatMap_cons]
    exact (h x (by simp)).append (flat_sub2 f g l fun y hy => h y (by simp [hy]))
theorem MayP.subNotes {s : Shelf} (h : MayP s) {Y : List Note} (hs : Y.Sublist s.notes) : MayP { s with notes := Y } :=
  have m := fun n (hn : n ∈ Y) => hs.subset hn
  have f := flat_sub (fun n : Note => n.sheets) hs
  { nb := h.nb, nn := h.nn, ns := h.ns, bl := h.bl, nl := Nat.le_trans hs.length_le h.nl, bid := h.bid, bmay := h.bmay, binc := h.binc, bnew := h.bnew,
    nid := fun n hn => h.nid n (m n hn), nmay := fun n hn => h.nmay n (m n hn), nbook := fun n hn => h.nbook n (m n hn), ninc := h.ninc.sublist hs, nnew := h.nnew.sublist hs,
    tmay := fun n hn => h.tmay n (m n hn), tinc := fun n hn => h.tinc n (m n hn), tl := fun n hn => h.tl n (m n hn), sl := fun n hn => h.sl n (m n hn),
    sid := fun x hx => h.sid x (f.subset hx), snew := h.snew.sublist f }
theorem make_may {s : Shelf} {t : ByteArray} (h : makeE s t = 0) : MayP (makeR s t).s := by
  obtain ⟨h0, h1, h2, h3, h4⟩ := makeE_zero.1 h
  have p := mayS_iff.1 h0
  rw [makeR, resOf_ok h]
  have hn := nameIx_neg.1 h2
  have m : ∀ {b : Book}, b ∈ s.books ++ [⟨s.nb, t⟩] → b ∈ s.books ∨ b = ⟨s.nb, t⟩ := fun hb => by simpa using hb
  have pnb := p.nb
  exact { p with
    nb := by show 1 ≤ s.nb + 1 ∧ s.nb + 1 ≤ 65536; omega
    bl := by show (s.books ++ [_]).length ≤ 6; rw [List.length_append]; simp; omega
    bid := fun b hb => by
      show 1 ≤ b.id ∧ b.id ≤ s.nb + 1 - 1
      rcases m hb with hb | rfl
      · have := p.bid b hb; omega
      · show 1 ≤ s.nb ∧ s.nb ≤ _; omega
    bmay := fun b hb => by
      rcases m hb with hb | rfl
      · exact p.bmay b hb
      · exact h1
    binc := List.pairwise_append.2 ⟨p.binc, by simp, fun a ha b hb => by
      have e : b = ⟨s.nb, t⟩ := by simpa using hb
      have := p.bid a ha
      rw [e]; show a.id < s.nb; omega⟩
    bnew := List.pairwise_append.2 ⟨p.bnew, by simp, fun a ha b hb => by
      have e : b = ⟨s.nb, t⟩ := by simpa using hb
      rw [e]; exact hn a ha⟩
    nbook := fun n hn => by
      obtain ⟨b, hb, e⟩ := p.nbook n hn
      exact ⟨b, List.mem_append_left _ hb, e⟩ }
theorem rename_own {s : Shelf} {id : Int} {t : ByteArray} (h : renameE s id t = 0) : ∀ b ∈ s.books, b.name = t → b.id = id := by
  obtain ⟨h0, h1, h2, h3⟩ := renameE_zero.1 h
  have p := mayS_iff.1 h0
  intro b hb e
  rcases h3 with h3 | h3
  · exact absurd e (nameIx_neg.1 h3 b hb)
  · obtain ⟨x, hx, hp⟩ := idx_get (p := fun x : Book => x.id == id) (l := s.books) rfl h1
    have hx2 : s.books[(nameIx s.books t).toNat]? = some x := by rw [h3]; exact hx
    obtain ⟨y, hy, hq⟩ := idx_get (p := fun x : Book => x.name.toList == t.toList) (l := s.books) (i := nameIx s.books t) rfl (by rw [h3]; exact h1)
    rw [hx2] at hy
    obtain rfl := Option.some.inj hy
    have hq2 := toList_eq.1 hq
    have hid : x.id = id := by simpa using hp
    obtain ⟨j, hj⟩ := List.getElem?_of_mem hb
    rcases Nat.lt_trichotomy (bookIx s id).toNat j with h4 | h4 | h4
    · exact absurd (hq2.trans e.symm) (pair_get p.bnew hx hj h4)
    · rw [← h4] at hj
      have hx3 : s.books[(bookIx s id).toNat]? = some x := hx
      rw [hx3] at hj
      rw [← Option.some.inj hj]; exact hid
    · exact absurd (e.trans hq2.symm) (pair_get p.bnew hj hx h4)
theorem updB_mem {id : Int} {t : ByteArray} {l : List Book} {b : Book} (h : b ∈ updB id t l) : ∃ a ∈ l, b.id = a.id ∧ (a.id = id ∧ b.name = t ∨ a.id ≠ id ∧ b.name = a.name) := by
  unfold updB at h
  obtain ⟨a, ha, rfl⟩ := List.mem_map.1 h
  refine ⟨a, ha, ?_⟩
  by_cases e : a.id = id
  · simp [e]
  · simp [e]
theorem updB_id (id : Int) (t : ByteArray) (a : Book) : (if a.id = id then (⟨a.id, t⟩ : Book) else a).id = a.id := by split <;> rfl
theorem rename_may {s : Shelf} {id : Int} {t : ByteArray} (h : renameE s id t = 0) : MayP (renameR s id t).s := by
  obtain ⟨h0, h1, h2, h3⟩ := renameE_zero.1 h
  have p := mayS_iff.1 h0
  have ho := rename_own h
  rw [renameR, resOf_ok h]
  exact { p with
    bl := by show (updB id t s.books).length ≤ 6; unfold updB; rw [List.length_map]; exact p.bl
    bid := fun b hb => by
      obtain ⟨a, ha, e, -⟩ := updB_mem hb
      rw [e]; exact p.bid a ha
    bmay := fun b hb => by
      obtain ⟨a, ha, -, ⟨-, e⟩ | ⟨-, e⟩⟩ := updB_mem hb
      · rw [e]; exact h2
      · rw [e]; exact p.bmay a ha
    binc := by
      show (updB id t s.books).Pairwise _
      unfold updB
      rw [List.pairwise_map]
      exact p.binc.imp fun {a b} h => by rw [updB_id, updB_id]; exact h
    bnew := by
      show (updB id t s.books).Pairwise _
      unfold updB
      rw [List.pairwise_map]
      have := (p.bnew.and p.binc).imp_of_mem (S := fun a b => (if a.id = id then (⟨a.id, t⟩ : Book) else a).name ≠ (if b.id = id then (⟨b.id, t⟩ : Book) else b).name) fun {a b} ha hb ⟨hab, hlt⟩ => by
        by_cases e1 : a.id = id
        · have e2 : ¬ b.id = id := by omega
          rw [if_pos e1, if_neg e2]
          exact fun e => e2 (ho b hb e.symm)
        · by_cases e2 : b.id = id
          · rw [if_neg e1, if_pos e2]
            exact fun e => e1 (ho a ha e)
          · rw [if_neg e1, if_neg e2]; exact hab
      exact this
    nbook := fun n hn => by
      obtain ⟨b, hb, e⟩ := p.nbook n hn
      exact ⟨_, List.mem_map.2 ⟨b, hb, rfl⟩, by rw [updB_id]; exact e⟩ }
theorem drop_may {s : Shelf} {id : Int} (h : dropE s id = 0) : MayP (dropR s id).s := by
  obtain ⟨h0, h1⟩ := dropE_zero.1 h
  have p := mayS_iff.1 h0
  rw [dropR, resOf_ok h]
  have q := p.subNotes (Y := s.notes.filter (fun n => !(n.book == id))) List.filter_sublist
  have hs : (s.books.filter (fun b => !(b.id == id))).Sublist s.books := List.filter_sublist
  have m := fun b (hb : b ∈ s.books.filter (fun b => !(b.id == id))) => hs.subset hb
  exact { q with
    bl := Nat.le_trans hs.length_le p.bl
    bid := fun b hb => p.bid b (m b hb)
    bmay := fun b hb => p.bmay b (m b hb)
    binc := p.binc.sublist hs
    bnew := p.bnew.sublist hs
    nbook := fun n hn => by
      obtain ⟨hn1, hn2⟩ := List.mem_filter.1 hn
      obtain ⟨b, hb, e⟩ := p.nbook n hn1
      exact ⟨b, List.mem_filter.2 ⟨hb, by rw [e]; exact hn2⟩, e⟩ }
theorem discard_may {s : Shelf} {id : Int} (h : noteE s id = 0) : MayP (discardR s id).s := by
  obtain ⟨h0, h1⟩ := noteE_zero.1 h
  rw [discardR, resOf_ok h]
  exact (mayS_iff.1 h0).subNotes List.filter_sublist
theorem any_title {l : List Note} {q : Int} {t : ByteArray} {but : Int} : l.any (titleB q t but) = false ↔ ∀ x ∈ l, x.book = q → x.name = t → x.id = but := by
  rw [List.any_eq_false]
  constructor
  · intro h x hx e1 e2
    apply Classical.byContradiction
    intro e3
    exact h x hx (by unfold titleB; simp [e1, e2, e3])
  · intro h x hx e
    unfold titleB at e
    rw [Bool.and_eq_true, Bool.and_eq_true, beq_iff_eq, toList_eq, bne_iff_ne] at e
    exact e.2 (h x hx e.1.1 e.1.2)
theorem add_may {s : Shelf} {id : Int} {t : ByteArray} (h : addE s id t = 0) : MayP (addR s id t).s := by
  obtain ⟨h0, h1, h2, h3, h4, h5⟩ := addE_zero.1 h
  have p := mayS_iff.1 h0
  rw [addR, resOf_ok h]
  have ht := any_title.1 h3
  have pnn := p.nn
  have m : ∀ {b : Note}, b ∈ s.notes ++ [⟨s.nn, id, t, [], []⟩] → b ∈ s.notes ∨ b = ⟨s.nn, id, t, [], []⟩ := fun hb => by simpa using hb
  have fl : (s.notes ++ [(⟨s.nn, id, t, [], []⟩ : Note)]).flatMap (·.sheets) = s.notes.flatMap (·.sheets) := by simp
  exact { p with
    nn := by show 1 ≤ s.nn + 1 ∧ s.nn + 1 ≤ 65536; omega
    nl := by show (s.notes ++ [_]).length ≤ 12; rw [List.length_append]; simp; omega
    nid := fun b hb => by
      show 1 ≤ b.id ∧ b.id ≤ s.nn + 1 - 1
      rcases m hb with hb | rfl
      · have := p.nid b hb; omega
      · show 1 ≤ s.nn ∧ s.nn ≤ _; omega
    nmay := fun b hb => by
      rcases m hb with hb | rfl
      · exact p.nmay b hb
      · exact h2
    nbook := fun n hn => by
      rcases m hn with hn | rfl
      · exact p.nbook n hn
      · exact bookIx_pos.1 h1
    ninc := List.pairwise_append.2 ⟨p.ninc, by simp, fun a ha b hb => by
      have e : b = ⟨s.nn, id, t, [], []⟩ := by simpa using hb
      have := p.nid a ha
      rw [e]; show a.id < s.nn; omega⟩
    nnew := List.pairwise_append.2 ⟨p.nnew, by simp, fun a ha b hb => by
      have e : b = ⟨s.nn, id, t, [], []⟩ := by simpa using hb
      rw [e]
      rintro ⟨e1, e2⟩
      have := ht a ha e1 e2
      have := p.nid a ha
      omega⟩
    tmay := fun n hn => by
      rcases m hn with hn | rfl
      · exact p.tmay n hn
      · intro t ht; cases ht
    tinc := fun n hn => by
      rcases m hn with hn | rfl
      · exact p.tinc n hn
      · exact .nil
    tl := fun n hn => by
      rcases m hn with hn | rfl
      · exact p.tl n hn
      · simp
    sl := fun n hn => by
      rcases m hn with hn | rfl
      · exact p.sl n hn
      · simp
    sid := by show ∀ x ∈ (s.notes ++ [(⟨s.nn, id, t, [], []⟩ : Note)]).flatMap (·.sheets), _; rw [fl]; exact p.sid
    snew := by show ((s.notes ++ [(⟨s.nn, id, t, [], []⟩ : Note)]).flatMap (·.sheets)).Nodup; rw [fl]; exact p.snew }
theorem updN_mem {id : Int} {f : Note → Note} {l : List Note} {b : Note} (h : b ∈ updN id f l) : ∃ a, (a ∈ l ∧ a.id = id ∧ b = f a) ∨ (a ∈ l ∧ a.id ≠ id ∧ b = a) := by
  unfold updN at h
  obtain ⟨a, ha, rfl⟩ := List.mem_map.1 h
  by_cases e : a.id = id
  · exact ⟨a, .inl ⟨ha, e, by simp [e]⟩⟩
  · exact ⟨a, .inr ⟨ha, e, by simp [e]⟩⟩
/-- One note is changed: what is to be seen of it. -/
theorem MayP.upd {s : Shelf} (p : MayP s) (id : Int) (f : Note → Note) {ns' : Int} (hns : 1 ≤ ns' ∧ ns' ≤ 4096)
    (h1 : ∀ n ∈ s.notes, n.id = id → (f n).id = n.id ∧ mayB (f n).name = true ∧ (∃ b ∈ s.books, b.id = (f n).book) ∧ (∀ t ∈ (f n).tags, mayB t = true) ∧ (f n).tags.Pairwise (fun a b => ltS a b = true) ∧ (f n).tags.length ≤ 4 ∧ (f n).sheets.length ≤ 8)
    (h2 : ∀ n ∈ s.notes, n.id = id → ∀ y ∈ s.notes, y.id ≠ id → ¬ (y.book = (f n).book ∧ y.name = (f n).name))
    (h3 : ∀ x ∈ (updN id f s.notes).flatMap (·.sheets), 1 ≤ x ∧ x ≤ ns' - 1) (h4 : ((updN id f s.notes).flatMap (·.sheets)).Nodup) : MayP { s with ns := ns', notes := updN id f s.notes } := by
  have hid : ∀ n ∈ s.notes, (if n.id = id then f n else n).id = n.id := fun n hn => by
    by_cases e : n.id = id
    · rw [if_pos e]; exact (h1 n hn e).1
    · rw [if_neg e]
  have m : ∀ {P : Note → Prop}, (∀ n ∈ s.notes, n.id = id → P (f n)) → (∀ n ∈ s.notes, P n) → ∀ n ∈ updN id f s.notes, P n := fun a b n hn => by
    obtain ⟨x, ⟨hx, e, rfl⟩ | ⟨hx, e, rfl⟩⟩ := updN_mem hn
    · exact a x hx e
    · exact b _ hx
  exact { p with
    ns := hns
    nl := by show (updN id f s.notes).length ≤ 12; unfold updN; rw [List.length_map]; exact p.nl
    nid := m (fun n hn e => by rw [(h1 n hn e).1]; exact p.nid n hn) p.nid
    nmay := m (fun n hn e => (h1 n hn e).2.1) p.nmay
    nbook := m (fun n hn e => (h1 n hn e).2.2.1) p.nbook
    tmay := m (fun n hn e => (h1 n hn e).2.2.2.1) p.tmay
    tinc := m (fun n hn e => (h1 n hn e).2.2.2.2.1) p.tinc
    tl := m (fun n hn e => (h1 n hn e).2.2.2.2.2.1) p.tl
    sl := m (fun n hn e => (h1 n hn e).2.2.2.2.2.2) p.sl
    ninc := by
      show (updN id f s.notes).Pairwise _
      unfold updN
      rw [List.pairwise_map]
      exact p.ninc.imp_of_mem fun {a b} ha hb h => by rw [hid a ha, hid b hb]; exact h
    nnew := by
      show (updN id f s.notes).Pairwise _
      unfold updN
      rw [List.pairwise_map]
      exact (p.nnew.and p.ninc).imp_of_mem fun {a b} ha hb ⟨hab, hlt⟩ => by
        by_cases e1 : a.id = id
        · have e2 : ¬ b.id = id := by omega
          rw [if_pos e1, if_neg e2]
          exact fun e => h2 a ha e1 b hb e2 ⟨e.1.symm, e.2.symm⟩
        · by_cases e2 : b.id = id
          · rw [if_neg e1, if_pos e2]
            exact h2 b hb e2 a ha e1
          · rw [if_neg e1, if_neg e2]; exact hab
    sid := h3, snew := h4 }
theorem flat_same {id : Int} {f : Note → Note} (hf : ∀ n, (f n).sheets.Sublist n.sheets) (l : List Note) : ((updN id f l).flatMap (·.sheets)).Sublist (l.flatMap (·.sheets)) :=
  flat_sub2 (fun n : Note => n.sheets) _ l fun x _ => by
    show (if x.id = id then f x else x).sheets.Sublist x.sheets
    split
    · exact hf x
    · exact List.Sublist.refl _
theorem upd_same {s : Shelf} (p : MayP s) (id : Int) (f : Note → Note) (hf : ∀ n, (f n).sheets.Sublist n.sheets)
    (h1 : ∀ n ∈ s.notes, n.id = id → (f n).id = n.id ∧ mayB (f n).name = true ∧ (∃ b ∈ s.books, b.id = (f n).book) ∧ (∀ t ∈ (f n).tags, mayB t = true) ∧ (f n).tags.Pairwise (fun a b => ltS a b = true) ∧ (f n).tags.length ≤ 4)
    (h2 : ∀ n ∈ s.notes, n.id = id → ∀ y ∈ s.notes, y.id ≠ id → ¬ (y.book = (f n).book ∧ y.name = (f n).name)) : MayP { s with notes := updN id f s.notes } :=
  p.upd id f p.ns (fun n hn e => by
    obtain ⟨a, b, c, d, e1, e2⟩ := h1 n hn e
    exact ⟨a, b, c, d, e1, e2, Nat.le_trans (hf n).length_le (p.sl n hn)⟩) h2 (fun x hx => p.sid x ((flat_same hf _).subset hx)) (p.snew.sublist (flat_same hf _))
theorem other_new {s : Shelf} (p : MayP s) {n y : Note} (hn : n ∈ s.notes) (hy : y ∈ s.notes) (e : y.id ≠ n.id) : ¬ (y.book = n.book ∧ y.name = n.name) := by
  obtain ⟨i, hi⟩ := List.getElem?_of_mem hn
  obtain ⟨j, hj⟩ := List.getElem?_of_mem hy
  rcases Nat.lt_trichotomy i j with h | h | h
  · exact fun c => pair_get p.nnew hi hj h ⟨c.1.symm, c.2.symm⟩
  · subst h; rw [hi] at hj; exact absurd (by rw [Option.some.inj hj]) e
  · exact pair_get p.nnew hj hi h
theorem retitle_may {s : Shelf} {id : Int} {t : ByteArray} (h : retitleE s id t = 0) : MayP (retitleR s id t).s := by
  obtain ⟨h0, h1, h2, h3⟩ := retitleE_zero.1 h
  have p := mayS_iff.1 h0
  rw [retitleR, resOf_ok h]
  have ht := any_title.1 h3
  refine upd_same p id _ (fun n => List.Sublist.refl _) (fun n hn e => ⟨rfl, h2, p.nbook n hn, p.tmay n hn, p.tinc n hn, p.tl n hn⟩) fun n hn e y hy hne => ?_
  have : n = noteOf s id := p.note_eq hn (noteOf_mem h1) (by rw [e, (noteOf_get h1).2])
  rintro ⟨e1, e2⟩
  exact hne (ht y hy (by rw [e1, ← this]) e2)
theorem move_may {s : Shelf} {id q : Int} (h : moveE s id q = 0) : MayP (moveR s id q).s := by
  obtain ⟨h0, h1, h2, h3⟩ := moveE_zero.1 h
  have p := mayS_iff.1 h0
  rw [moveR, resOf_ok h]
  have ht := any_title.1 h3
  refine upd_same p id _ (fun n => List.Sublist.refl _) (fun n hn e => ⟨rfl, p.nmay n hn, bookIx_pos.1 h2, p.tmay n hn, p.tinc n hn, p.tl n hn⟩) fun n hn e y hy hne => ?_
  have : n = noteOf s id := p.note_eq hn (noteOf_mem h1) (by rw [e, (noteOf_get h1).2])
  rintro ⟨e1, e2⟩
  exact hne (ht y hy e1 (by rw [e2, ← this]))
theorem hasT_iff {t : ByteArray} {l : List ByteArray} : hasT t l = true ↔ t ∈ l := by
  unfold hasT
  rw [List.any_eq_true]
  constructor
  · rintro ⟨x, hx, e⟩; rw [← toList_eq.1 e]; exact hx
  · intro h; exact ⟨t, h, by simp⟩
theorem hasT_no {t : ByteArray} {l : List ByteArray} : hasT t l = false ↔ t ∉ l := by
  rw [← hasT_iff]; cases hasT t l <;> simp
theorem insT_mem {t x : ByteArray} : ∀ {l : List ByteArray}, x ∈ insT t l ↔ x = t ∨ x ∈ l
  | [] => by simp [insT]
  | y :: l => by
    unfold insT
    split
    · rw [List.mem_cons, insT_mem (l := l), List.mem_cons]
      constructor
      · rintro (h | h | h)
        · exact .inr (.inl h)
        · exact .inl h
        · exact .inr (.inr h)
      · rintro (h | h | h)
        · exact .inr (.inl h)
        · exact .inl h
        · exact .inr (.inr h)
    · rw [List.mem_cons]
theorem insT_length (t : ByteArray) : ∀ l : List ByteArray, (insT t l).length = l.length + 1
  | [] => rfl
  | y :: l => by
    unfold insT
    split
    · rw [List.length_cons, insT_length t l, List.length_cons]
    · rfl
theorem insT_inc {t : ByteArray} : ∀ {l : List ByteArray}, l.Pairwise (fun a b => ltS a b = true) → t ∉ l → (insT t l).Pairwise (fun a b => ltS a b = true)
  | [], _, _ => by simp [insT]
  | y :: l, h, hn => by
    obtain ⟨h1, h2⟩ := List.pairwise_cons.1 h
    unfold insT
    split
    · rename_i hlt
      refine List.pairwise_cons.2 ⟨fun z hz => ?_, insT_inc h2 (fun hh => hn (List.mem_cons_of_mem _ hh))⟩
      rcases insT_mem.1 hz with rfl | hz
      · exact hlt
      · exact h1 z hz
    · rename_i hlt
      have hyt : ltS t y = true := by
        cases e : ltS t y with
        | true => rfl
        | false => exact absurd (ltS_total e (by simpa using hlt)) (fun e => hn (by rw [e]; simp))
      refine List.pairwise_cons.2 ⟨fun z hz => ?_, h⟩
      rcases List.mem_cons.1 hz with rfl | hz
      · exact hyt
      · exact ltS_trans hyt (h1 z hz)
theorem tag_may {s : Shelf} {id : Int} {t : ByteArray} (h : tagE s id t = 0) : MayP (tagR s id t).s := by
  obtain ⟨h0, h1, h2, h3, h4⟩ := tagE_zero.1 h
  have p := mayS_iff.1 h0
  rw [tagR, resOf_ok h]
  refine upd_same p id _ (fun n => List.Sublist.refl _) (fun n hn e => ?_) fun n hn e y hy hne => other_new (n := n) p hn hy (by rw [e]; exact hne)
  have en : n = noteOf s id := p.note_eq hn (noteOf_mem h1) (by rw [e, (noteOf_get h1).2])
  refine ⟨rfl, p.nmay n hn, p.nbook n hn, fun x hx => ?_, insT_inc (p.tinc n hn) (by rw [en]; exact hasT_no.1 h3), ?_⟩
  · rcases insT_mem.1 hx with rfl | hx
    · exact h2
    · exact p.tmay n hn x hx
  · show (insT t n.tags).length ≤ 4
    rw [insT_length, en]; omega
theorem untag_may {s : Shelf} {id : Int} {t : ByteArray} (h : untagE s id t = 0) : MayP (untagR s id t).s := by
  obtain ⟨h0, h1, h2⟩ := untagE_zero.1 h
  have p := mayS_iff.1 h0
  rw [untagR, resOf_ok h]
  refine upd_same p id _ (fun n => List.Sublist.refl _) (fun n hn e => ?_) fun n hn e y hy hne => other_new (n := n) p hn hy (by rw [e]; exact hne)
  have hs : (n.tags.filter (fun x => !(x.toList == t.toList))).Sublist n.tags := List.filter_sublist
  exact ⟨rfl, p.nmay n hn, p.nbook n hn, fun x hx => p.tmay n hn x (hs.subset hx), (p.tinc n hn).sublist hs, Nat.le_trans hs.length_le (p.tl n hn)⟩
theorem remove_may {s : Shelf} {id k : Int} (h : sheetE s id k = 0) : MayP (removeR s id k).s := by
  obtain ⟨h0, h1, h2⟩ := sheetE_zero.1 h
  have p := mayS_iff.1 h0
  rw [removeR, resOf_ok h]
  exact upd_same p id _ (fun n => List.eraseIdx_sublist _ _) (fun n hn e => ⟨rfl, p.nmay n hn, p.nbook n hn, p.tmay n hn, p.tinc n hn, p.tl n hn⟩) fun n hn e y hy hne => other_new (n := n) p hn hy (by rw [e]; exact hne)
theorem append_flat {id x : Int} : ∀ {l : List Note}, l.Pairwise (fun a b => a.id < b.id) → (∃ n ∈ l, n.id = id) → ((updN id (fun n => { n with sheets := n.sheets ++ [x] }) l).flatMap (·.sheets)).Perm (x :: l.flatMap (·.sheets))
  | [], _, h => by obtain ⟨n, hn, -⟩ := h; cases hn
  | y :: l, h, hh => by
    obtain ⟨h1, h2⟩ := List.pairwise_cons.1 h
    unfold updN
    rw [List.map_cons, List.flatMap_cons, List.flatMap_cons]
    by_cases e : y.id = id
    · rw [if_pos e]
      have : (l.map fun n => if n.id = id then { n with sheets := n.sheets ++ [x] } else n) = l := by
        conv => rhs; rw [← List.map_id l]
        apply List.map_congr_left
        intro n hn
        have := h1 n hn
        rw [if_neg (by omega)]; rfl
      rw [this]
      show (y.sheets ++ [x] ++ l.flatMap (·.sheets)).Perm _
      rw [List.append_assoc]
      exact List.perm_middle
    · rw [if_neg e]
      have ih := append_flat h2 (id := id) (x := x) (by
        obtain ⟨n, hn, e2⟩ := hh
        rcases List.mem_cons.1 hn with rfl | hn
        · exact absurd e2 e
        · exact ⟨n, hn, e2⟩)
      exact (ih.append_left y.sheets).trans List.perm_middle
theorem append_may {s : Shelf} {id : Int} (h : appendE s id = 0) : MayP (appendR s id).s := by
  obtain ⟨h0, h1, h2, h3⟩ := appendE_zero.1 h
  have p := mayS_iff.1 h0
  rw [appendR, resOf_ok h]
  have pf := append_flat (id := id) (x := s.ns) p.ninc (noteIx_pos.1 h1)
  have pns := p.ns
  refine p.upd id _ (ns' := s.ns + 1) ⟨by omega, by omega⟩ (fun n hn e => ?_) (fun n hn e y hy hne => other_new (n := n) p hn hy (by rw [e]; exact hne)) (fun x hx => ?_) ?_
  · have en : n = noteOf s id := p.note_eq hn (noteOf_mem h1) (by rw [e, (noteOf_get h1).2])
    refine ⟨rfl, p.nmay n hn, p.nbook n hn, p.tmay n hn, p.tinc n hn, p.tl n hn, ?_⟩
    show (n.sheets ++ [s.ns]).length ≤ 8
    rw [List.length_append, en]; simp; omega
  · rcases List.mem_cons.1 (pf.mem_iff.1 hx) with rfl | hx
    · omega
    · have := p.sid x hx; omega
  · rw [pf.nodup_iff, List.nodup_cons]
    exact ⟨fun hm => by have := p.sid _ hm; omega, p.snew⟩
end Go.Proofs.YtnajccljdjllgaaGreatDoor
set_option linter.unusedVariables false
set_option linter.unusedSimpArgs false
namespace Go.Proofs.YtnajccljdjllgaaGreatDoor
open Go.RowKit Go.Lib
set_option maxRecDepth 100000 in
theorem indexNotes (v : Value) (l : List Note) (g : Nat) (lb : Array Value) (p : Note → Bool) (w : World) (h : Notes w v l) (hz : l.length ≤ 1000000000) (eg : ∀ args w, (callFunc g args).run Tryz.prog w = .ok (.enter g args) w)
    (hp : ∀ W x at' ct as' cs', Grow w W → x ∈ l → Calls Tryz.prog g (#[noteV x (.slice at' x.tags.length ct) (.slice as' x.sheets.length cs')] ++ lb) W fun e w' => e = .returned (.bool (p x)) ∧ Grow W w') :
    Calls Tryz.prog 81 #[v, .func (.func g) #[] lb] w fun e w' => e = .returned (.int .i64 (idx p l)) ∧ Grow w w' := by
  obtain ⟨a, c, rfl⟩ := h.mk
  unfold noteV at hp
  have HP := Lib.hid hp
  clear hp
  go_enter Tryz.func81, Tryz.ntmps81
  go_wp2
  go_loopw [5, 8] (fun v5 v8 wx => Grow w wx ∧ ∃ i : Nat, v8 = .int .i64 i ∧ i ≤ l.length ∧ ∀ (j : Nat) x, j < i → l[j]? = some x → p x = false) (fun _ v8 _ => l.length - (Go.RowKit.intOf v8).toNat)
  case atStart => exact ⟨Grow.refl _, 0, rfl, by omega, fun j _ h => absurd h (by omega)⟩
  case round =>
    obtain ⟨hg, i, rfl, hi, hall⟩ := hrel
    have HA := Lib.hid hall
    clear hall
    by_cases hlt : i < l.length
    · have hlt' : (i : Int) < l.length := by omega
      obtain ⟨x, hx, -⟩ := lt_get hlt
      obtain ⟨b, off, tv, sv, rfl, -, hc, hd, he, hf, hi2, ht, hs⟩ := (Notes.grow h hg).at hx
      obtain ⟨ta, tc, etv⟩ := ht.mk
      obtain ⟨sa, sc, esv⟩ := hs.mk
      subst etv esv
      have cP := HP.out wr x ta tc sa sc hg (List.mem_of_getElem? hx)
      have HX := Lib.hid hx
      clear hx h HP ht hs
      cases hpx : p x
      · rw [hpx] at cP
        have HPX := Lib.hid hpx
        clear hpx
        go_wp2_with fail
        refine cP.mono ?_
        rintro e w1 ⟨rfl, g1⟩
        go_wp2_with fail
        go_roundw
        case rel => exact ⟨hg.trans g1, i + 1, by go_num, by omega, fun j y hj h1 => by
          rcases (by omega : j < i ∨ j = i) with h3 | rfl
          · exact HA.out j y h3 h1
          · rw [HX.out] at h1; injection h1 with h1; rw [← h1]; exact HPX.out⟩
        case measure => simp [Go.RowKit.intOf]; omega
      · rw [hpx] at cP
        have HR := Lib.hid (idx_some HX.out hpx HA.out)
        clear hpx
        go_wp2_with fail
        refine cP.mono ?_
        rintro e w1 ⟨rfl, g1⟩
        go_wp2_with fail
        go_ret
        exact ⟨ret_int HR.out.symm, hg.trans g1⟩
    · have HR := Lib.hid (idx_none (p := p) (l := l) (fun j x hx => HA.out j x (by have := (List.getElem?_eq_some_iff.1 hx).1; omega) hx))
      have hlt' : ¬ (i : Int) < l.length := by omega
      clear h HP
      go_wp2_with fail
      go_ret
      exact ⟨ret_int HR.out.symm, hg⟩
set_option maxRecDepth 100000 in
theorem note1_any (x : Note) (tv sv : Value) (n : Int) (B : Nat) (w : World) (hb : B < w.heap.size) (h : w.cell? ⟨B, 0, none⟩ = some (.int .i64 n)) :
    Calls Tryz.prog 82 #[noteV x tv sv, .pointer (some ⟨B, 0, none⟩)] w fun e w' => e = .returned (.bool (x.id == n)) ∧ Grow w w' := by
  unfold noteV
  go_enter Tryz.func82, Tryz.ntmps82
  go_wp2_with fail
  go_ret
  exact ⟨rfl, (Grow.refl w).alloc _⟩
set_option maxRecDepth 100000 in
theorem note_any (s : Shelf) (bv nv : Value) (n : Int) (w : World) (h : ShelfR w s bv nv) (hz : s.notes.length ≤ 1000000000) :
    Calls Tryz.prog 54 #[shelfV s bv nv, .int .i64 n] w fun e w' => e = .returned (.int .i64 (idx (fun x => x.id == n) s.notes)) ∧ Grow w w' := by
  obtain ⟨-, hb⟩ := h
  have g0 : Grow w ((w.alloc (.cells #[.int .i64 s.nb, .int .i64 s.nn, .int .i64 s.ns, bv, nv] 25)).alloc (.cells #[.int .i64 n] 3)) := ((Grow.refl w).alloc _).alloc _
  have cI := indexNotes nv s.notes 82 #[.pointer (some ⟨w.heap.size + 1, 0, none⟩)] (fun x => x.id == n) _ (Notes.grow hb g0) hz (fun _ _ => rfl)
    (fun W x _ _ _ _ g _ => note1_any x _ _ n (w.heap.size + 1) W (by have := g.size; simp at this; omega) (by rw [g.cells _ _ (by simp)]; simp [go_sem]))
  obtain ⟨a, c, rfl⟩ := hb.mk
  clear hb
  unfold shelfV
  go_enter Tryz.func54, Tryz.ntmps54
  go_wp2_with fail
  refine cI.mono ?_
  rintro e w1 ⟨rfl, g1⟩
  go_wp2_with fail
  go_ret
  exact ⟨rfl, g0.trans g1⟩
theorem idx_any {α : Type} (p : α → Bool) : ∀ l : List α, decide (0 ≤ idx p l) = l.any p
  | [] => rfl
  | x :: l => by
    have ih := idx_any p l
    have hb := idx_bd p l
    rw [List.any_cons]
    unfold idx
    cases e : p x
    · rw [if_neg (by simp), Bool.false_or, ← ih]
      by_cases h : idx p l = -1
      · rw [if_pos h, h]
      · rw [if_neg h]
        have h1 : 0 ≤ idx p l := by omega
        rw [decide_eq_true h1, decide_eq_true (by omega)]
    · rw [if_pos rfl]; rfl
end Go.Proofs.YtnajccljdjllgaaGreatDoor
set_option linter.unusedVariables false
set_option linter.unusedSimpArgs false
namespace Go.Proofs.YtnajccljdjllgaaGreatDoor
open Go.RowKit Go.Lib
/-- What Find answers: a note of a copy, or none. -/
def RetFind (s : Shelf) (id : Int) (w : World) (e : Ending) (w' : World) : Prop :=
  Grow w w' ∧ ((∃ x bv nv Y y, mayS s = true ∧ 0 ≤ noteIx s id ∧ s.notes[(noteIx s id).toNat]? = some x ∧ e = .returned (.tuple #[noteV x y.tv y.sv, .bool true]) ∧ OwnS w.heap.size bv nv s.books Y w' ∧ Y.map NV.n = s.notes ∧ Y[(noteIx s id).toNat]? = some y ∧ y.n = x) ∨
    ((mayS s = false ∨ noteIx s id = -1) ∧ e = .returned (.tuple #[noteV ⟨0, 0, ⟨#[]⟩, [], []⟩ (.slice none 0 0) (.slice none 0 0), .bool false])))
/-- The result's cell, beside rows of the call's own. -/
def OwnN (base : Nat) (bv nv : Value) (X : List Book) (Y : List NV) (W0 : World) (D : Nat) (w : World) : Prop := Grow W0 w ∧ OwnS base bv nv X Y w ∧ blkOf nv ≠ some D ∧ ∃ cs : Array Value, w.heap[D]? = some (.cells cs 46 (0, 0))
theorem OwnN.set {base D : Nat} {bv nv : Value} {X : List Book} {Y : List NV} {W0 w : World} (h : OwnN base bv nv X Y W0 D w) (hD : W0.heap.size ≤ D) (j : Nat) (u : Value) : OwnN base bv nv X Y W0 D (w.setCell ⟨D, j, none⟩ u) := by
  obtain ⟨h0, h1, h2, cs, h3⟩ := h
  have ht : Turned D w (w.setCell ⟨D, j, none⟩ u) := ⟨rfl, rfl, rfl, by simp, fun i _ hb => heap_setCell_other w ⟨D, j, none⟩ i u hb⟩
  have hk := kept_of_turned h3 ht
  exact ⟨ht.grow h0 hD, ⟨h1.books.kept (by decide) hk, h1.notes.turned ht h2, fun y hy => (h1.tags y hy).kept (by decide) hk, fun y hy => (h1.sheets y hy).kept (by decide) hk, h1.tsep, h1.ssep⟩, h2, _, heap_setCell_same w D j _ _ _ h3⟩
theorem n5 {w : World} {b : Nat} {t : TypeId} {m : Nat × Nat} {u0 u1 u2 u3 u4 : Value} (hb : w.heap[b]? = some (.cells #[u0, u1, u2, u3, u4] t m)) :
    (w.cell? ⟨b, 0, none⟩ = some u0 ∧ w.cell? ⟨b, 1, none⟩ = some u1 ∧ w.cell? ⟨b, 2, none⟩ = some u2 ∧ w.cell? ⟨b, 3, none⟩ = some u3 ∧ w.cell? ⟨b, 4, none⟩ = some u4) ∧ b < w.heap.size :=
  ⟨sh5 hb, (Array.getElem?_eq_some_iff.1 hb).1⟩
abbrev noO : Obj := .cells #[.int .i64 0, .int .i64 0, .string ⟨#[]⟩, .slice none 0 0, .slice none 0 0] 46
theorem row_texts {base : Nat} {v : Value} {l : List ByteArray} {w : World} (h : RowO base 9 1 v l.length (strC l) w) : Texts w v l := h.reads fun i x hx => by rw [Nat.mul_one, List.take_one, List.head?_drop, List.getElem?_map, hx]; rfl
end Go.Proofs.YtnajccljdjllgaaGreatDoor
set_option linter.unusedVariables false
set_option linter.unusedSimpArgs false
namespace Go.Proofs.YtnajccljdjllgaaGreatDoor
open Go.RowKit Go.Lib
theorem results_cell_tmp2 {P : Program} {fn : Func} {p t u : Tmp} {ty : TypeId} (h : fn.results = #[.cell p ty, .tmp t, .tmp u]) (tmps : Array Value) (w : World) :
    (results fn tmps).run P w = ((asAddr (tmps.getD p undef)).run P w).andThen fun a w₁ => ((loadVar ty a).run P w₁).andThen fun v w₂ => .ok (.tuple #[v, tmps.getD t undef, tmps.getD u undef]) w₂ := by
  simp [results, h, Sem.run_bind]
theorem three_boxes (w : World) (o1 o2 o3 : Obj) : (((w.alloc o1).alloc o2).alloc o3).heap[w.heap.size]? = some o1 ∧ (((w.alloc o1).alloc o2).alloc o3).heap[w.heap.size + 1]? = some o2 ∧ (((w.alloc o1).alloc o2).alloc o3).heap[w.heap.size + 2]? = some o3 := by
  obtain ⟨h1, h2⟩ := two_boxes2 w o1 o2
  refine ⟨((Grow.refl _).alloc o3).blk h1, ((Grow.refl _).alloc o3).blk h2, ?_⟩
  have h := heap_alloc_new ((w.alloc o1).alloc o2) o3
  rwa [show ((w.alloc o1).alloc o2).heap.size = w.heap.size + 2 by simp] at h
theorem map_setN {l : List Note} (hu : l.Pairwise fun a b => a.id < b.id) {Y : List NV} (hm : Y.map NV.n = l) {i : Nat} {y z : NV} (hy : Y[i]? = some y) (f : Note → Note) (hz : z.n = f y.n) {id : Int} (hid : y.n.id = id) : (Y.set i z).map NV.n = updN id f l := by
  subst hid
  rw [List.map_set, hm, hz, ← set_updN hu (x := y.n) (by rw [← hm, List.getElem?_map, hy]; rfl) f]
theorem map_filterN {Y : List NV} {l : List Note} (hm : Y.map NV.n = l) (p : Note → Bool) : (Y.filter fun y => p y.n).map NV.n = l.filter p := by
  rw [← hm, List.filter_map]; rfl
theorem nv_get {Y : List NV} {l : List Note} (hm : Y.map NV.n = l) {i : Nat} {x : Note} (hx : l[i]? = some x) : ∃ y, Y[i]? = some y ∧ y.n = x := by
  rw [← hm, List.getElem?_map] at hx
  cases h : Y[i]? with
  | none => rw [h] at hx; cases hx
  | some y => rw [h] at hx; exact ⟨y, rfl, by simpa using hx⟩
abbrev shQ (nb nn ns : Int) (bv nv : Value) : Obj := .cells #[.int .i64 nb, .int .i64 nn, .int .i64 ns, bv, nv] 25
abbrev zV : Value := .agg #[.int .i64 0, .int .i64 0, .int .i64 0, .slice none 0 0, .slice none 0 0]
abbrev set5w (w : World) (b : Nat) (v0 v1 v2 v3 v4 : Value) : World := ((((w.setCell ⟨b, 0, none⟩ v0).setCell ⟨b, 1, none⟩ v1).setCell ⟨b, 2, none⟩ v2).setCell ⟨b, 3, none⟩ v3).setCell ⟨b, 4, none⟩ v4
theorem turned_cell (w : World) (b j : Nat) (u : Value) : Turned b w (w.setCell ⟨b, j, none⟩ u) := ⟨rfl, rfl, rfl, by simp, fun i _ hb => heap_setCell_other w ⟨b, j, none⟩ i u hb⟩
theorem set5 {w : World} {b : Nat} {t : TypeId} {u0 u1 u2 u3 u4 : Value} (h : w.heap[b]? = some (.cells #[u0, u1, u2, u3, u4] t (0, 0))) (v0 v1 v2 v3 v4 : Value) :
    (set5w w b v0 v1 v2 v3 v4).heap[b]? = some (.cells #[v0, v1, v2, v3, v4] t (0, 0)) ∧ Turned b w (set5w w b v0 v1 v2 v3 v4) := by
  have h1 := heap_setCell_same w b 0 _ t v0 h
  have h2 := heap_setCell_same _ b 1 _ t v1 h1
  have h3 := heap_setCell_same _ b 2 _ t v2 h2
  have h4 := heap_setCell_same _ b 3 _ t v3 h3
  have h5 := heap_setCell_same _ b 4 _ t v4 h4
  exact ⟨h5, ((((turned_cell _ _ _ _).trans (turned_cell _ _ _ _)).trans (turned_cell _ _ _ _)).trans (turned_cell _ _ _ _)).trans (turned_cell _ _ _ _)⟩
theorem set5_other {w : World} {b c : Nat} {o : Obj} (v0 v1 v2 v3 v4 : Value) (hc : c ≠ b) (ho : w.heap[c]? = some o) : (set5w w b v0 v1 v2 v3 v4).heap[c]? = some o :=
  ((((((turned_cell w b 0 v0).trans (turned_cell _ b 1 v1)).trans (turned_cell _ b 2 v2)).trans (turned_cell _ b 3 v3)).trans (turned_cell _ b 4 v4)).block c (Array.getElem?_eq_some_iff.1 ho).1 hc).trans ho
structure StB (w0 : World) (B D : Nat) (nb nn ns : Int) (bv nv : Value) (X : List Book) (Y : List NV) (w : World) : Prop where
  grow : Grow w0 w
  box : w.heap[B]? = some (shQ nb nn ns bv nv)
  res : w.heap[D]? = some (shQ 0 0 0 (.slice none 0 0) (.slice none 0 0))
  own : OwnS w0.heap.size bv nv X Y w
  low : w0.heap.size ≤ B ∧ w0.heap.size ≤ D ∧ B ≠ D
section
variable {w0 w w' : World} {B D : Nat} {nb nn ns : Int} {bv nv : Value} {X : List Book} {Y : List NV}
theorem StB.five (h : StB w0 B D nb nn ns bv nv X Y w) : (w.cell? ⟨B, 0, none⟩ = some (.int .i64 nb) ∧ w.cell? ⟨B, 1, none⟩ = some (.int .i64 nn) ∧ w.cell? ⟨B, 2, none⟩ = some (.int .i64 ns) ∧ w.cell? ⟨B, 3, none⟩ = some bv ∧ w.cell? ⟨B, 4, none⟩ = some nv) ∧ B < w.heap.size := n5 h.box
theorem StB.res5 (h : StB w0 B D nb nn ns bv nv X Y w) : (w.cell? ⟨D, 0, none⟩ = some (.int .i64 0) ∧ w.cell? ⟨D, 1, none⟩ = some (.int .i64 0) ∧ w.cell? ⟨D, 2, none⟩ = some (.int .i64 0) ∧ w.cell? ⟨D, 3, none⟩ = some (.slice none 0 0) ∧ w.cell? ⟨D, 4, none⟩ = some (.slice none 0 0)) ∧ D < w.heap.size := n5 h.res
theorem StB.boxF (h : StB w0 B D nb nn ns bv nv X Y w) (j : Nat) : w.frozen? ⟨B, j, none⟩ = false := frozen_of_row w B j _ _ h.box
theorem StB.resF (h : StB w0 B D nb nn ns bv nv X Y w) (j : Nat) : w.frozen? ⟨D, j, none⟩ = false := frozen_of_row w D j _ _ h.res
theorem shelf_kept {b : Nat} {cur : Array Value} (hb : w.heap[b]? = some (.cells cur 25 (0, 0))) (t : Turned b w w') : KeptS w w' := KeptS.of_turned t hb ⟨by decide, by decide, by decide, by decide⟩
/-- The box's field j is stored, the rows have been changed ahead. -/
theorem StB.put {bv' nv' : Value} {X' : List Book} {Y' : List NV} {nb' nn' ns' : Int} (g : Grow w0 w) (ho : OwnS w0.heap.size bv' nv' X' Y' w) (hres : w.heap[D]? = some (shQ 0 0 0 (.slice none 0 0) (.slice none 0 0))) (hbox : w.heap[B]? = some (shQ nb nn ns bv nv)) (low : w0.heap.size ≤ B ∧ w0.heap.size ≤ D ∧ B ≠ D)
    {j : Nat} {u : Value} (e : (#[.int .i64 nb, .int .i64 nn, .int .i64 ns, bv, nv] : Array Value).setIfInBounds j u = #[.int .i64 nb', .int .i64 nn', .int .i64 ns', bv', nv']) : StB w0 B D nb' nn' ns' bv' nv' X' Y' (w.setCell ⟨B, j, none⟩ u) := by
  have ht := turned_cell w B j u
  refine ⟨ht.grow g low.1, ?_, ?_, ho.kept (shelf_kept hbox ht), low⟩
  · rw [heap_setCell_same w B j _ _ u hbox, e]
  · exact (ht.block D (Array.getElem?_eq_some_iff.1 hres).1 (Ne.symm low.2.2)).trans hres
/-- A change of rows alone. -/
theorem StB.rows {X' : List Book} {Y' : List NV} (h : StB w0 B D nb nn ns bv nv X Y w) (ho : OwnS w0.heap.size bv nv X' Y' w') {b : Nat} {cur : Array Value} {e : TypeId} (hb : w.heap[b]? = some (.cells cur e (0, 0))) (he : e ≠ 25) (hl : w0.heap.size ≤ b) (t : Turned b w w') : StB w0 B D nb nn ns bv nv X' Y' w' := by
  have k := kept_of_turned hb t
  exact ⟨t.grow h.grow hl, k _ _ _ _ (Ne.symm he) h.box, k _ _ _ _ (Ne.symm he) h.res, ho, h.low⟩
theorem StB.more (h : StB w0 B D nb nn ns bv nv X Y w) (g : Grow w w') : StB w0 B D nb nn ns bv nv X Y w' := ⟨h.grow.trans g, g.blk h.box, g.blk h.res, h.own.grow g, h.low⟩
theorem StB.fin (h : StB w0 B D nb nn ns bv nv X Y w) : OwnD2 w0.heap.size bv nv X Y w0 D w := ⟨h.grow, h.own, _, h.res⟩
/-- The copy is put into the box. -/
theorem StB.start {s : Shelf} {V wk w3 : World} {bv0 nv0 : Value} (gV : Grow w0 V) (hbx : V.heap[B]? = some (shB s bv0 nv0)) (hrx : V.heap[D]? = some (shB ⟨0, 0, 0, [], []⟩ (.slice none 0 0) (.slice none 0 0))) (gk : Grow V wk) (g3 : Grow wk w3) (ho : OwnS wk.heap.size bv nv X Y w3) (low : w0.heap.size ≤ B ∧ w0.heap.size ≤ D ∧ B ≠ D) :
    StB w0 B D s.nb s.nn s.ns bv nv X Y (set5w w3 B (.int .i64 s.nb) (.int .i64 s.nn) (.int .i64 s.ns) bv nv) := by
  have hb := (gk.trans g3).blk hbx
  have hr := (gk.trans g3).blk hrx
  obtain ⟨h1, h2⟩ := set5 hb (.int .i64 s.nb) (.int .i64 s.nn) (.int .i64 s.ns) bv nv
  exact ⟨h2.grow ((gV.trans gk).trans g3) low.1, h1, (h2.block D (Array.getElem?_eq_some_iff.1 hr).1 (Ne.symm low.2.2)).trans hr, (ho.base_mono (gV.trans gk).size).kept (shelf_kept hb h2), low⟩
theorem StB.keep (h : StB w0 B D nb nn ns bv nv X Y w) {e : TypeId} (he : 25 ≠ e) (k : Kept e w w') : w'.heap[B]? = some (shQ nb nn ns bv nv) ∧ w'.heap[D]? = some (shQ 0 0 0 (.slice none 0 0) (.slice none 0 0)) := ⟨k _ _ _ _ he h.box, k _ _ _ _ he h.res⟩
theorem grown_grow {v : Value} {e : TypeId} {k n : Nat} {xs : List Value} (g0 : Grow w0 w) (h : RowO w0.heap.size e k v n xs w) (g : w.grownBy w' (blkOf v)) : Grow w0 w' := Below.grown g0 g g0.size (fun b hb => (h.blk hb).1)
/-- The books' row was turned; now the box is stored. -/
theorem StB.toB (h : StB w0 B D nb nn ns bv nv X Y w) {v' : Value} {X' : List Book} (hr : RowO w0.heap.size 58 2 v' X'.length (X'.flatMap bookC) w') (g : w.grownBy w' (blkOf bv)) :
    w'.cell? ⟨B, 3, none⟩ = some bv ∧ w'.frozen? ⟨B, 3, none⟩ = false ∧ B < w'.heap.size ∧ StB w0 B D nb nn ns v' nv X' Y (w'.setCell ⟨B, 3, none⟩ v') := by
  have hk := h.own.books.keeps g
  obtain ⟨h1, h2⟩ := h.keep (by decide) hk
  exact ⟨(cell_of_row w' B 3 _ _ _ h1).trans rfl, frozen_of_row w' B 3 _ _ h1, (Array.getElem?_eq_some_iff.1 h1).1, StB.put (grown_grow h.grow h.own.books g) (h.own.books' hk hr) h2 h1 h.low rfl⟩
theorem StB.book (h : StB w0 B D nb nn ns bv nv X Y w) {x : Book} {v' : Value} (ra : AppR w0.heap.size 58 2 w bv X.length (X.flatMap bookC) (bookC x) v' w') :
    w'.cell? ⟨B, 3, none⟩ = some bv ∧ w'.frozen? ⟨B, 3, none⟩ = false ∧ B < w'.heap.size ∧ StB w0 B D nb nn ns v' nv (X ++ [x]) Y (w'.setCell ⟨B, 3, none⟩ v') := by
  refine h.toB ?_ ra.2.1
  have := ra.1
  rw [List.length_append, List.flatMap_append]
  simpa using this
/-- The notes' row was turned. -/
theorem StB.toN (h : StB w0 B D nb nn ns bv nv X Y w) {v' : Value} {Y' : List NV} (ho : OwnS w0.heap.size bv v' X Y' w') (g : w.grownBy w' (blkOf nv)) :
    w'.cell? ⟨B, 4, none⟩ = some nv ∧ w'.frozen? ⟨B, 4, none⟩ = false ∧ B < w'.heap.size ∧ StB w0 B D nb nn ns bv v' X Y' (w'.setCell ⟨B, 4, none⟩ v') := by
  have hk := h.own.notes.keeps g
  obtain ⟨h1, h2⟩ := h.keep (by decide) hk
  exact ⟨(cell_of_row w' B 4 _ _ _ h1).trans rfl, frozen_of_row w' B 4 _ _ h1, (Array.getElem?_eq_some_iff.1 h1).1, StB.put (grown_grow h.grow h.own.notes g) ho h2 h1 h.low rfl⟩
theorem StB.subN (h : StB w0 B D nb nn ns bv nv X Y w) {v' : Value} {Y' : List NV} (hs : Y'.Sublist Y) (hr : RowO w0.heap.size 46 5 v' Y'.length (Y'.flatMap noteC) w') (g : w.grownBy w' (blkOf nv)) :
    w'.cell? ⟨B, 4, none⟩ = some nv ∧ w'.frozen? ⟨B, 4, none⟩ = false ∧ B < w'.heap.size ∧ StB w0 B D nb nn ns bv v' X Y' (w'.setCell ⟨B, 4, none⟩ v') :=
  h.toN (h.own.notes' (h.own.notes.keeps g) hr (fun y hy => h.own.tags y (hs.subset hy)) (fun y hy => h.own.sheets y (hs.subset hy)) (h.own.tsep.sublist hs) (h.own.ssep.sublist hs)) g
theorem StB.note (h : StB w0 B D nb nn ns bv nv X Y w) {x : NV} (ht : x.tv = .slice none 0 0 ∧ x.n.tags = []) (hs : x.sv = .slice none 0 0 ∧ x.n.sheets = []) {v' : Value} (ra : AppR w0.heap.size 46 5 w nv Y.length (Y.flatMap noteC) (noteC x) v' w') :
    w'.cell? ⟨B, 4, none⟩ = some nv ∧ w'.frozen? ⟨B, 4, none⟩ = false ∧ B < w'.heap.size ∧ StB w0 B D nb nn ns bv v' X (Y ++ [x]) (w'.setCell ⟨B, 4, none⟩ v') := h.toN (h.own.addNote ht hs ra) ra.2.1
/-- A book's name is stored. -/
theorem StB.setB (h : StB w0 B D nb nn ns bv nv X Y w) {i : Nat} {x : Book} (hx : X[i]? = some x) (s : ByteArray) {b c : Nat} (e : bv = .slice (some ⟨b, 0, none⟩) X.length c) : StB w0 B D nb nn ns bv nv (X.set i { x with name := s }) Y (w.setCell ⟨b, i * 2 + 1, none⟩ (.string s)) := by
  obtain ⟨h1, h2⟩ := h.own.setBook hx s e
  have hc : (X.flatMap bookC)[i * 2 + 1]? = some (.string x.name) := by rw [flat_get bookC (fun _ => rfl) X i 1 x hx (by decide)]; rfl
  obtain ⟨b', c', e1, -, -, -, hb⟩ := h.own.books.cell hc
  rw [e] at e1
  injection e1 with e1
  injection e1 with e1
  injection e1 with e1
  subst e1
  obtain ⟨hl, cur, hcur⟩ := h.own.books.blk hb
  exact h.rows h1 hcur (by decide) hl h2
theorem StB.nrow (h : StB w0 B D nb nn ns bv nv X Y w) {i : Nat} {y : NV} (hy : Y[i]? = some y) {b c : Nat} (e : nv = .slice (some ⟨b, 0, none⟩) Y.length c) : w0.heap.size ≤ b ∧ ∃ cur : Array Value, w.heap[b]? = some (.cells cur 46 (0, 0)) := by
  have hc : (Y.flatMap noteC)[i * 5 + 1]? = some (.int .i64 y.n.book) := by rw [flat_get noteC (fun _ => rfl) Y i 1 y hy (by decide)]; rfl
  obtain ⟨b', c', e1, -, -, -, hb⟩ := h.own.notes.cell hc
  rw [e] at e1
  injection e1 with e1
  injection e1 with e1
  injection e1 with e1
  subst e1
  exact h.own.notes.blk hb
theorem StB.setN (h : StB w0 B D nb nn ns bv nv X Y w) {i : Nat} {y : NV} (hy : Y[i]? = some y) (s : ByteArray) {b c : Nat} (e : nv = .slice (some ⟨b, 0, none⟩) Y.length c) : StB w0 B D nb nn ns bv nv X (Y.set i { y with n := { y.n with name := s } }) (w.setCell ⟨b, i * 5 + 2, none⟩ (.string s)) := by
  obtain ⟨h1, h2⟩ := h.own.setName hy s e
  obtain ⟨hl, cur, hcur⟩ := h.nrow hy e
  exact h.rows h1 hcur (by decide) hl h2
theorem StB.setQ (h : StB w0 B D nb nn ns bv nv X Y w) {i : Nat} {y : NV} (hy : Y[i]? = some y) (q : Int) {b c : Nat} (e : nv = .slice (some ⟨b, 0, none⟩) Y.length c) : StB w0 B D nb nn ns bv nv X (Y.set i { y with n := { y.n with book := q } }) (w.setCell ⟨b, i * 5 + 1, none⟩ (.int .i64 q)) := by
  obtain ⟨h1, h2⟩ := h.own.setBookOf hy q e
  obtain ⟨hl, cur, hcur⟩ := h.nrow hy e
  exact h.rows h1 hcur (by decide) hl h2
/-- A note's tags were turned; now its cell is stored. -/
theorem StB.retag (h : StB w0 B D nb nn ns bv nv X Y w) {i : Nat} {y : NV} (hy : Y[i]? = some y) {v : Value} {l : List ByteArray} {w1 : World} (hr : RowO w0.heap.size 9 1 v l.length (strC l) w1) (g : w.grownBy w1 (blkOf y.tv))
    (hb : ∀ b, blkOf v = some b → blkOf y.tv = some b ∨ w.heap.size ≤ b) {b c : Nat} (e : nv = .slice (some ⟨b, 0, none⟩) Y.length c) :
    w1.cell? ⟨b, i * 5 + 3, none⟩ = some y.tv ∧ w1.frozen? ⟨b, i * 5 + 3, none⟩ = false ∧ b < w1.heap.size ∧ StB w0 B D nb nn ns bv nv X (Y.set i ⟨{ y.n with tags := l }, v, y.sv⟩) (w1.setCell ⟨b, i * 5 + 3, none⟩ v) := by
  obtain ⟨c1, c2, ho, ht, hk⟩ := h.own.retag hy hr g hb e
  obtain ⟨hl, cur, hcur⟩ := h.nrow hy e
  have hc1 := hk _ _ _ _ (by decide) hcur
  have hB := hk _ _ _ _ (by decide) h.box
  have hD := hk _ _ _ _ (by decide) h.res
  have k2 := kept_of_turned hc1 ht
  have gg : Grow w0 w1 := grown_grow h.grow (h.own.tags y (List.mem_of_getElem? hy)) g
  exact ⟨c1, c2, (Array.getElem?_eq_some_iff.1 hc1).1, ⟨ht.grow gg hl, k2 _ _ _ _ (by decide) hB, k2 _ _ _ _ (by decide) hD, ho, h.low⟩⟩
theorem StB.resheet (h : StB w0 B D nb nn ns bv nv X Y w) {i : Nat} {y : NV} (hy : Y[i]? = some y) {v : Value} {l : List Int} {w1 : World} (hr : RowO w0.heap.size 3 1 v l.length (intC l) w1) (g : w.grownBy w1 (blkOf y.sv))
    (hb : ∀ b, blkOf v = some b → blkOf y.sv = some b ∨ w.heap.size ≤ b) {b c : Nat} (e : nv = .slice (some ⟨b, 0, none⟩) Y.length c) :
    w1.cell? ⟨b, i * 5 + 4, none⟩ = some y.sv ∧ w1.frozen? ⟨b, i * 5 + 4, none⟩ = false ∧ b < w1.heap.size ∧ StB w0 B D nb nn ns bv nv X (Y.set i ⟨{ y.n with sheets := l }, y.tv, v⟩) (w1.setCell ⟨b, i * 5 + 4, none⟩ v) := by
  obtain ⟨c1, c2, ho, ht, hk⟩ := h.own.resheet hy hr g hb e
  obtain ⟨hl, cur, hcur⟩ := h.nrow hy e
  have hc1 := hk _ _ _ _ (by decide) hcur
  have hB := hk _ _ _ _ (by decide) h.box
  have hD := hk _ _ _ _ (by decide) h.res
  have k2 := kept_of_turned hc1 ht
  have gg : Grow w0 w1 := grown_grow h.grow (h.own.sheets y (List.mem_of_getElem? hy)) g
  exact ⟨c1, c2, (Array.getElem?_eq_some_iff.1 hc1).1, ⟨ht.grow gg hl, k2 _ _ _ _ (by decide) hB, k2 _ _ _ _ (by decide) hD, ho, h.low⟩⟩
theorem StB.tagApp (h : StB w0 B D nb nn ns bv nv X Y w) {i : Nat} {y : NV} (hy : Y[i]? = some y) {x : ByteArray} {v' : Value} (ra : AppR w0.heap.size 9 1 w y.tv y.n.tags.length (strC y.n.tags) [.string x] v' w') {b c : Nat} (e : nv = .slice (some ⟨b, 0, none⟩) Y.length c) :
    w'.cell? ⟨b, i * 5 + 3, none⟩ = some y.tv ∧ w'.frozen? ⟨b, i * 5 + 3, none⟩ = false ∧ b < w'.heap.size ∧ StB w0 B D nb nn ns bv nv X (Y.set i ⟨{ y.n with tags := y.n.tags ++ [x] }, v', y.sv⟩) (w'.setCell ⟨b, i * 5 + 3, none⟩ v') := by
  have hr : RowO w0.heap.size 9 1 v' (y.n.tags ++ [x]).length (strC (y.n.tags ++ [x])) w' := by
    have := ra.1
    unfold strC at this ⊢
    rw [List.length_append, List.map_append]; exact this
  obtain ⟨g, hg1, hg2⟩ := ra.2.2.1
  exact h.retag hy hr ra.2.1 (fun q hq => by rw [hg1] at hq; obtain rfl := Option.some.inj hq; exact hg2) e
theorem StB.sheetApp (h : StB w0 B D nb nn ns bv nv X Y w) {i : Nat} {y : NV} (hy : Y[i]? = some y) {x : Int} {v' : Value} (ra : AppR w0.heap.size 3 1 w y.sv y.n.sheets.length (intC y.n.sheets) [.int .i64 x] v' w') {b c : Nat} (e : nv = .slice (some ⟨b, 0, none⟩) Y.length c) :
    w'.cell? ⟨b, i * 5 + 4, none⟩ = some y.sv ∧ w'.frozen? ⟨b, i * 5 + 4, none⟩ = false ∧ b < w'.heap.size ∧ StB w0 B D nb nn ns bv nv X (Y.set i ⟨{ y.n with sheets := y.n.sheets ++ [x] }, y.tv, v'⟩) (w'.setCell ⟨b, i * 5 + 4, none⟩ v') := by
  have hr : RowO w0.heap.size 3 1 v' (y.n.sheets ++ [x]).length (intC (y.n.sheets ++ [x])) w' := by
    have := ra.1
    unfold intC at this ⊢
    rw [List.length_append, List.map_append]; exact this
  obtain ⟨g, hg1, hg2⟩ := ra.2.2.1
  exact h.resheet hy hr ra.2.1 (fun q hq => by rw [hg1] at hq; obtain rfl := Option.some.inj hq; exact hg2) e
theorem setCell_self {w : World} {b j : Nat} {v : Value} (h : w.cell? ⟨b, j, none⟩ = some v) : w.setCell ⟨b, j, none⟩ v = w := by
  rw [Go.Sort.setCell_eq]
  refine Go.Sort.mapBlock_id w b _ fun c e fr hb => ?_
  rw [cell_of_row w b j _ _ _ hb] at h
  obtain ⟨hj, e⟩ := Array.getElem?_eq_some_iff.1 h
  rw [← e]
  apply Array.ext_getElem?
  intro i
  rw [Array.getElem?_setIfInBounds]
  split
  · rename_i hij; subst hij; simp [hj]
  · rfl
/-- A note's tags were turned where they stand. -/
theorem StB.resort (h : StB w0 B D nb nn ns bv nv X Y w) {i : Nat} {y : NV} (hy : Y[i]? = some y) {l : List ByteArray} {w1 : World} (hr : RowO w0.heap.size 9 1 y.tv l.length (strC l) w1) (g : w.grownBy w1 (blkOf y.tv)) {b c : Nat} (e : nv = .slice (some ⟨b, 0, none⟩) Y.length c) :
    StB w0 B D nb nn ns bv nv X (Y.set i ⟨{ y.n with tags := l }, y.tv, y.sv⟩) w1 := by
  obtain ⟨c1, -, -, h2⟩ := h.retag hy hr g (fun b hb => .inl hb) e
  rw [setCell_self c1] at h2
  exact h2
/-- A number of the box is stored. -/
theorem StB.num0 (h : StB w0 B D nb nn ns bv nv X Y w) (x : Int) : StB w0 B D x nn ns bv nv X Y (w.setCell ⟨B, 0, none⟩ (.int .i64 x)) := StB.put h.grow h.own h.res h.box h.low rfl
theorem StB.num1 (h : StB w0 B D nb nn ns bv nv X Y w) (x : Int) : StB w0 B D nb x ns bv nv X Y (w.setCell ⟨B, 1, none⟩ (.int .i64 x)) := StB.put h.grow h.own h.res h.box h.low rfl
theorem StB.num2 (h : StB w0 B D nb nn ns bv nv X Y w) (x : Int) : StB w0 B D nb nn x bv nv X Y (w.setCell ⟨B, 2, none⟩ (.int .i64 x)) := StB.put h.grow h.own h.res h.box h.low rfl
end
theorem OwnD2.drew {base D : Nat} {bv nv : Value} {X : List Book} {Y : List NV} {W0 w : World} (h : OwnD2 base bv nv X Y W0 D w) : OwnD2 base bv nv X Y W0 D w.drew :=
  ⟨h.1.drew, h.2.1.grow (Grow.refl w).drew, h.2.2.elim fun cs hc => ⟨cs, (Grow.refl w).drew.blk hc⟩⟩
/-- What a change answers: a shelf of the call's own, and an error. -/
def RetC (r : Res) (w : World) (e : Ending) (w' : World) : Prop :=
  Grow w w' ∧ ∃ bv nv Y, e = .returned (.tuple #[shelfV r.s bv nv, .int .i64 r.e]) ∧ OwnS w.heap.size bv nv r.s.books Y w' ∧ Y.map NV.n = r.s.notes
def RetM (r : Res) (w : World) (e : Ending) (w' : World) : Prop :=
  Grow w w' ∧ ∃ bv nv Y, e = .returned (.tuple #[shelfV r.s bv nv, .int .i64 r.n, .int .i64 r.e]) ∧ OwnS w.heap.size bv nv r.s.books Y w' ∧ Y.map NV.n = r.s.notes
theorem ret_badC {r : Res} {e : Int} {w w' : World} (h : r = bad e) (g : Grow w w') : RetC r w (.returned (.tuple #[zV, .int .i64 e])) w' := by
  subst h; exact ⟨g, _, _, [], rfl, OwnS.nil, rfl⟩
theorem ret_badM {r : Res} {e : Int} {w w' : World} (h : r = bad e) (g : Grow w w') : RetM r w (.returned (.tuple #[zV, .int .i64 0, .int .i64 e])) w' := by
  subst h; exact ⟨g, _, _, [], rfl, OwnS.nil, rfl⟩
theorem ret_okC {r : Res} {s : Shelf} {n : Int} {w w' : World} {bv nv : Value} {Y : List NV} {D : Nat} (h : r = ⟨s, n, 0⟩) (ho : OwnD2 w.heap.size bv nv s.books Y w D w') (hm : Y.map NV.n = s.notes) : RetC r w (.returned (.tuple #[shelfV s bv nv, .int .i64 0])) w' := by
  subst h; exact ⟨ho.1, bv, nv, Y, rfl, ho.2.1, hm⟩
theorem ret_okM {r : Res} {s : Shelf} {n : Int} {w w' : World} {bv nv : Value} {Y : List NV} {D : Nat} (h : r = ⟨s, n, 0⟩) (ho : OwnD2 w.heap.size bv nv s.books Y w D w') (hm : Y.map NV.n = s.notes) : RetM r w (.returned (.tuple #[shelfV s bv nv, .int .i64 n, .int .i64 0])) w' := by
  subst h; exact ⟨ho.1, bv, nv, Y, rfl, ho.2.1, hm⟩
theorem res_bad {e e' : Int} (h : e = e') (h0 : e' ≠ 0) (s : Shelf) (n : Int) : resOf e s n = bad e' := by subst h; exact resOf_no h0 s n
end Go.Proofs.YtnajccljdjllgaaGreatDoor
set_option linter.unusedVariables false
set_option linter.unusedSimpArgs false
namespace Go.Proofs.YtnajccljdjllgaaGreatDoor
open Go.RowKit Go.Lib
/-- A shelf of some size. -/
def Low (s : Shelf) : Prop := s.books.length ≤ 10 ∧ s.notes.length ≤ 16 ∧ (∀ b ∈ s.books, b.name.size ≤ 60) ∧ ∀ n ∈ s.notes, n.name.size ≤ 60 ∧ n.tags.length ≤ 8 ∧ n.sheets.length ≤ 12 ∧ ∀ t ∈ n.tags, t.size ≤ 60
theorem Low.tame {s : Shelf} (h : Low s) : Tame s := ⟨by have := h.1; omega, by have := h.2.1; omega, fun b hb => by have := h.2.2.1 b hb; omega, fun n hn => by
  obtain ⟨h1, h2, h3, h4⟩ := h.2.2.2 n hn
  exact ⟨by omega, by omega, by omega, fun t ht => by have := h4 t ht; omega⟩⟩
set_option maxRecDepth 100000 in
theorem greatTexts_wide (v : Value) (l : List ByteArray) (long : Int) (w : World) (h : Texts w v l) (hl : l.length ≤ 9223372036854775807) :
    Calls Tryz.prog 25 #[v, .int .i64 8, .int .i64 long] w fun e w' => e = .returned (.bool (greatTexts l 8 long)) ∧ w = w' := by
  by_cases hs : l.length ≤ 4611686018427387904
  · exact greatTexts_any v l 8 long w h hs (by decide)
  obtain ⟨a, c, rfl⟩ := h.mk
  have hb : (8 : Int) < (l.length : Int) := by omega
  have h0 : (0 : Int) < l.length := by omega
  have HR := Lib.hid (show greatTexts l 8 long = true by unfold greatTexts; rw [decide_eq_true hb]; rfl)
  clear hs
  go_enter Tryz.func25, Tryz.ntmps25
  go_wp2
  refine wp_loop_rounds 1 ?_
  rw [rounds_succ]
  go_wp2
  go_ret
  exact ⟨ret_bool HR.out.symm, rfl⟩
def GreatPost (s : Shelf) (w : World) (e : Ending) (w' : World) : Prop := Grow w w' ∧ ∃ r, e = .returned (.bool r) ∧ (r = false → Low s)
set_option maxRecDepth 100000 in
set_option maxHeartbeats 2000000 in
theorem great_any (s : Shelf) (bv nv : Value) (w : World) (h : ShelfR w s bv nv) (hwd : ∀ n ∈ s.notes, n.tags.length ≤ 9223372036854775807) :
    Calls Tryz.prog 4 #[shelfV s bv nv] w (GreatPost s w) := by
  obtain ⟨a1, c1, rfl⟩ := h.1.mk
  obtain ⟨a2, c2, rfl⟩ := h.2.mk
  have HH := Lib.hid h
  have HWD := Lib.hid hwd
  clear h hwd
  unfold shelfV
  go_enter Tryz.func4, Tryz.ntmps4
  go_upto_region 1 with (fail)
  generalize hV : w.alloc (.cells #[.int .i64 s.nb, .int .i64 s.nn, .int .i64 s.ns, .slice a1 s.books.length c1, .slice a2 s.notes.length c2] 25) = V
  have gV : Grow w V := by rw [← hV]; exact (Grow.refl w).alloc _
  have hsz : w.heap.size < V.heap.size := by rw [← hV]; simp
  have Q : V.cell? ⟨w.heap.size, 3, none⟩ = some (.slice a1 s.books.length c1) ∧
      V.cell? ⟨w.heap.size, 4, none⟩ = some (.slice a2 s.notes.length c2) := by rw [← hV]; simp [go_sem]
  obtain ⟨q3, q4⟩ := Q
  clear hV
  go_wp2_with fail
  go_loop [3] (fun v3 => ∃ j : Nat, v3 = .int .i64 j ∧ j ≤ 10 ∧ ∀ (k : Nat) x, k < j → s.books[k]? = some x → x.name.size ≤ 60) (fun v3 => 11 - (intOf v3).toNat)
  case atStart => exact ⟨0, rfl, by omega, fun k x h => absurd h (by omega)⟩
  case round =>
    obtain ⟨j, rfl, hj, hall⟩ := hrel
    have HA := Lib.hid hall
    clear hall
    by_cases hgo : j < s.books.length ∧ s.books.length ≤ 10
    · obtain ⟨hlt, hle⟩ := hgo
      have hlt' : (j : Int) < s.books.length := by omega
      have hle' : (s.books.length : Int) ≤ 10 := by omega
      have hd1 : decide ((j : Int) < s.books.length) = true := decide_eq_true hlt'
      obtain ⟨x, hx, -⟩ := lt_get hlt
      obtain ⟨bb, off, rfl, hbb, p0, p1⟩ := (HH.out.1.grow gV).at hx
      have HX := Lib.hid hx
      clear hx
      by_cases hs : x.name.size ≤ 60
      · have hs' : ¬ (60 : Int) < x.name.size := by omega
        go_wp2_with fail
        go_round
        case rel => exact ⟨j + 1, by go_num, by omega, fun k y hk hy => by
          rcases (by omega : k < j ∨ k = j) with h3 | rfl
          · exact HA.out k y h3 hy
          · rw [HX.out] at hy; injection hy with hy; rw [← hy]; exact hs⟩
        case measure => simp [intOf]; omega
      · have hs' : (60 : Int) < x.name.size := by omega
        go_wp2_with fail
        go_ret
        exact ⟨gV, true, rfl, fun h => by cases h⟩
    · have hbooks : s.books.length ≤ 10 → ∀ b ∈ s.books, b.name.size ≤ 60 := fun hle b hb => by
        obtain ⟨i, hi, e⟩ := List.getElem_of_mem hb
        exact HA.out i b (by omega) (by rw [List.getElem?_eq_getElem hi, e])
      have HBK := Lib.hid hbooks
      clear hbooks
      have hdd : (decide ((j : Int) < s.books.length) && decide ((s.books.length : Int) ≤ 10)) = false := by
        rw [← Bool.not_eq_true, Bool.and_eq_true, decide_eq_true_eq, decide_eq_true_eq]; omega
      by_cases hlt : j < s.books.length
      · have hlt' : (j : Int) < s.books.length := by omega
        have hle' : ¬ (s.books.length : Int) ≤ 10 := by omega
        have hle'' : (10 : Int) < s.books.length := by omega
        go_wp2_with fail
        go_loopw [4] (fun v4 wx => wx = V ∧ ∃ j : Nat, v4 = .int .i64 j ∧ j ≤ 16 ∧ ∀ (k : Nat) x, k < j → s.notes[k]? = some x → x.name.size ≤ 60 ∧ x.tags.length ≤ 8 ∧ x.sheets.length ≤ 12 ∧ ∀ t ∈ x.tags, t.size ≤ 60) (fun v4 _ => 17 - (intOf v4).toNat)
        case atStart => exact ⟨rfl, 0, rfl, by omega, fun k x h => absurd h (by omega)⟩
        case round =>
          obtain ⟨rfl, j, rfl, hj, hall⟩ := hrel
          have HA := Lib.hid hall
          clear hall hlt'
          by_cases hgo : j < s.notes.length ∧ s.notes.length ≤ 16
          · obtain ⟨hlt, hle⟩ := hgo
            have hlt' : (j : Int) < s.notes.length := by omega
            have hle' : (s.notes.length : Int) ≤ 16 := by omega
            obtain ⟨x, hx, -⟩ := lt_get hlt
            obtain ⟨bb, off, tv, sv, rfl, hbb, p0, p1, p2, p3, p4, htx, hsx⟩ := (HH.out.2.grow gV).at hx
            have cT := greatTexts_wide tv x.tags 60 wr htx (HWD.out x (List.mem_of_getElem? hx))
            obtain ⟨ta, tc, rfl⟩ := htx.mk
            obtain ⟨sa, sc, rfl⟩ := hsx.mk
            have HX := Lib.hid hx
            clear hx htx hsx
            by_cases hs : x.name.size ≤ 60
            · have hs' : ¬ (60 : Int) < x.name.size := by omega
              cases ht : greatTexts x.tags 8 60
              · rw [ht] at cT
                have HT := Lib.hid ht
                clear ht
                by_cases hsh : x.sheets.length ≤ 12
                · have hsh' : ¬ (12 : Int) < x.sheets.length := by omega
                  go_wp2_with fail
                  refine cT.mono ?_
                  rintro e w1 ⟨rfl, rfl⟩
                  go_wp2_with fail
                  go_roundw
                  case rel => exact ⟨by first | trivial | rfl, j + 1, by go_num, by omega, fun k y hk hy => by
                    rcases (by omega : k < j ∨ k = j) with h3 | rfl
                    · exact HA.out k y h3 hy
                    · rw [HX.out] at hy; injection hy with hy; subst hy
                      have h4 := HT.out
                      unfold greatTexts at h4
                      rw [Bool.or_eq_false_iff, decide_eq_false_iff_not, List.any_eq_false] at h4
                      exact ⟨hs, by omega, hsh, fun t ht => by have := h4.2 t ht; rw [decide_eq_true_eq] at this; omega⟩⟩
                  case measure => simp [intOf]; omega
                · have hsh' : (12 : Int) < x.sheets.length := by omega
                  go_wp2_with fail
                  refine cT.mono ?_
                  rintro e w1 ⟨rfl, rfl⟩
                  go_wp2_with fail
                  go_ret
                  exact ⟨gV, true, rfl, fun h => by cases h⟩
              · rw [ht] at cT
                clear ht
                go_wp2_with fail
                refine cT.mono ?_
                rintro e w1 ⟨rfl, rfl⟩
                go_wp2_with fail
                go_ret
                exact ⟨gV, true, rfl, fun h => by cases h⟩
            · have hs' : (60 : Int) < x.name.size := by omega
              clear cT
              go_wp2_with fail
              go_ret
              exact ⟨gV, true, rfl, fun h => by cases h⟩
          · have hfin : s.books.length ≤ 10 → s.notes.length ≤ 16 → Low s := fun h1 h2 => ⟨h1, h2, HBK.out h1, fun n hn => by
              obtain ⟨i, hi, e⟩ := List.getElem_of_mem hn
              obtain ⟨z1, z2, z3, z4⟩ := HA.out i n (by omega) (by rw [List.getElem?_eq_getElem hi, e])
              exact ⟨z1, z2, z3, z4⟩⟩
            have HF := Lib.hid hfin
            clear hfin
            by_cases hb10 : s.books.length ≤ 10
            · omega
            · have hb10' : (10 : Int) < s.books.length := by omega
              by_cases hlt : j < s.notes.length
              · have hlt' : (j : Int) < s.notes.length := by omega
                have hn16'' : ¬ (s.notes.length : Int) ≤ 16 := by omega
                go_wp2_with fail
                go_ret
                exact ⟨gV, true, rfl, fun h => by cases h⟩
              · have hlt' : ¬ (j : Int) < s.notes.length := by omega
                go_wp2_with fail
                go_ret
                exact ⟨gV, true, rfl, fun h => by cases h⟩
      · have hlt' : ¬ (j : Int) < s.books.length := by omega
        go_wp2_with fail
        go_loopw [4] (fun v4 wx => wx = V ∧ ∃ j : Nat, v4 = .int .i64 j ∧ j ≤ 16 ∧ ∀ (k : Nat) x, k < j → s.notes[k]? = some x → x.name.size ≤ 60 ∧ x.tags.length ≤ 8 ∧ x.sheets.length ≤ 12 ∧ ∀ t ∈ x.tags, t.size ≤ 60) (fun v4 _ => 17 - (intOf v4).toNat)
        case atStart => exact ⟨rfl, 0, rfl, by omega, fun k x h => absurd h (by omega)⟩
        case round =>
          obtain ⟨rfl, j, rfl, hj, hall⟩ := hrel
          have HA := Lib.hid hall
          clear hall hlt'
          by_cases hgo : j < s.notes.length ∧ s.notes.length ≤ 16
          · obtain ⟨hlt, hle⟩ := hgo
            have hlt' : (j : Int) < s.notes.length := by omega
            have hle' : (s.notes.length : Int) ≤ 16 := by omega
            obtain ⟨x, hx, -⟩ := lt_get hlt
            obtain ⟨bb, off, tv, sv, rfl, hbb, p0, p1, p2, p3, p4, htx, hsx⟩ := (HH.out.2.grow gV).at hx
            have cT := greatTexts_wide tv x.tags 60 wr htx (HWD.out x (List.mem_of_getElem? hx))
            obtain ⟨ta, tc, rfl⟩ := htx.mk
            obtain ⟨sa, sc, rfl⟩ := hsx.mk
            have HX := Lib.hid hx
            clear hx htx hsx
            by_cases hs : x.name.size ≤ 60
            · have hs' : ¬ (60 : Int) < x.name.size := by omega
              cases ht : greatTexts x.tags 8 60
              · rw [ht] at cT
                have HT := Lib.hid ht
                clear ht
                by_cases hsh : x.sheets.length ≤ 12
                · have hsh' : ¬ (12 : Int) < x.sheets.length := by omega
                  go_wp2_with fail
                  refine cT.mono ?_
                  rintro e w1 ⟨rfl, rfl⟩
                  go_wp2_with fail
                  go_roundw
                  case rel => exact ⟨by first | trivial | rfl, j + 1, by go_num, by omega, fun k y hk hy => by
                    rcases (by omega : k < j ∨ k = j) with h3 | rfl
                    · exact HA.out k y h3 hy
                    · rw [HX.out] at hy; injection hy with hy; subst hy
                      have h4 := HT.out
                      unfold greatTexts at h4
                      rw [Bool.or_eq_false_iff, decide_eq_false_iff_not, List.any_eq_false] at h4
                      exact ⟨hs, by omega, hsh, fun t ht => by have := h4.2 t ht; rw [decide_eq_true_eq] at this; omega⟩⟩
                  case measure => simp [intOf]; omega
                · have hsh' : (12 : Int) < x.sheets.length := by omega
                  go_wp2_with fail
                  refine cT.mono ?_
                  rintro e w1 ⟨rfl, rfl⟩
                  go_wp2_with fail
                  go_ret
                  exact ⟨gV, true, rfl, fun h => by cases h⟩
              · rw [ht] at cT
                clear ht
                go_wp2_with fail
                refine cT.mono ?_
                rintro e w1 ⟨rfl, rfl⟩
                go_wp2_with fail
                go_ret
                exact ⟨gV, true, rfl, fun h => by cases h⟩
            · have hs' : (60 : Int) < x.name.size := by omega
              clear cT
              go_wp2_with fail
              go_ret
              exact ⟨gV, true, rfl, fun h => by cases h⟩
          · have hfin : s.books.length ≤ 10 → s.notes.length ≤ 16 → Low s := fun h1 h2 => ⟨h1, h2, HBK.out h1, fun n hn => by
              obtain ⟨i, hi, e⟩ := List.getElem_of_mem hn
              obtain ⟨z1, z2, z3, z4⟩ := HA.out i n (by omega) (by rw [List.getElem?_eq_getElem hi, e])
              exact ⟨z1, z2, z3, z4⟩⟩
            have HF := Lib.hid hfin
            clear hfin
            by_cases hb10 : s.books.length ≤ 10
            · have hb10' : ¬ (10 : Int) < s.books.length := by omega
              have hdb : decide ((10 : Int) < s.books.length) = false := decide_eq_false hb10'
              have hdb' : decide (10 < s.books.length) = false := decide_eq_false (by omega)
              by_cases hn16 : s.notes.length ≤ 16
              · have hn16' : ¬ (16 : Int) < s.notes.length := by omega
                have hn16'' : (s.notes.length : Int) ≤ 16 := by omega
                have hlt' : ¬ (j : Int) < s.notes.length := by omega
                go_wp2_with fail
                go_ret
                exact ⟨gV, _, rfl, fun _ => HF.out hb10 hn16⟩
              · have hn16' : (16 : Int) < s.notes.length := by omega
                have hn16'' : ¬ (s.notes.length : Int) ≤ 16 := by omega
                by_cases hlt : j < s.notes.length
                · have hlt' : (j : Int) < s.notes.length := by omega
                  go_wp2_with fail
                  go_ret
                  exact ⟨gV, true, rfl, fun h => by cases h⟩
                · omega
            · omega
end Go.Proofs.YtnajccljdjllgaaGreatDoor
