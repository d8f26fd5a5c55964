/- The walk of shelf.May. Which shelves may be, told with quantifiers. The changes of a shelf, in plain words, and that they keep it good. Items sorted by their names: plain words. Words of texts: what stands between blanks; texts in order, each once. Questions, tags and kin, in plain words. The laws on questions, tags and kin, in plain words. -/
import Derived.Test.YtgpjcgcecahddaaGreatDoorJSeekJoinsb
import Derived.Test.YtgpjcgcecahddaaGreatDoorJSeekJoinsa
import Derived.Lib.CountLaws
import Derived.Lib.IndexMore
import Derived.Lib.Split
set_option linter.unusedVariables false
set_option linter.unusedSimpArgs false
namespace Go.Proofs.YtgpjcgcecahddaaGreatDoor
open Go.RowKit Go.Lib
theorem Reads.take {α : Type} {R : World → α → List Value → Prop} {k : Nat} {w : World} {a : Option Addr} {n c : Nat} {l : List α} (h : Reads R k w (.slice a n c) l) {i : Nat} (hi : i ≤ l.length) : Reads R k w (.slice a i c) (l.take i) := by
  obtain ⟨a', c', e, hc, hr⟩ := h
  injection e with e1 e2 e3
  subst e1 e3
  have e4 : (l.take i).length = i := by rw [List.length_take]; omega
  refine ⟨a, c, by rw [e4], by omega, ?_⟩
  rw [e4]
  exact (hr.take hi).imp fun j hj cs hh x hx => hh x (by rw [List.getElem?_take] at hx; split at hx <;> first | exact hx | cases hx)
abbrev bookAt (s : Shelf) (i : Nat) : Book := s.books.getD i default
def bookOk (s : Shelf) (i : Nat) : Bool :=
  (decide (1 ≤ (bookAt s i).id) && decide ((bookAt s i).id ≤ s.nb - 1)) && (i == 0 || decide ((bookAt s (i - 1)).id < (bookAt s i).id)) && mayB (bookAt s i).name && decide (idx (fun b => b.name.toList == (bookAt s i).name.toList) (s.books.take i) < 0)
def mayHead (s : Shelf) : Bool := (decide (1 ≤ s.nb) && decide (s.nb ≤ 65536)) && (decide (1 ≤ s.nn) && decide (s.nn ≤ 65536)) && (decide (1 ≤ s.ns) && decide (s.ns ≤ 4096)) && decide (s.books.length ≤ 6) && decide (s.notes.length ≤ 12)
def mayS (s : Shelf) : Bool := mayHead s && allTo s.books.length (bookOk s) && allTo s.notes.length (noteOk s) && sheetsOk s.ns [] (s.notes.flatMap (·.sheets))
def TameS (s : Shelf) : Prop := Tame s ∧ ∀ n ∈ s.notes, ∀ y ∈ n.sheets, Wf y
theorem TameS.note {s : Shelf} (h : TameS s) {i : Nat} {x : Note} (hx : s.notes[i]? = some x) : TameN x := by
  obtain ⟨h1, h2, h3, h4⟩ := h.1.note hx
  exact ⟨h1, h2, h3, h4, h.2 x (List.mem_of_getElem? hx)⟩
theorem sheetsOk_append (ns : Int) : ∀ (a S b : List Int), sheetsOk ns S (a ++ b) = (sheetsOk ns S a && sheetsOk ns (a.reverse ++ S) b)
  | [], _, _ => rfl
  | x :: a, S, b => by
    rw [List.cons_append, sheetsOk, sheetsOk, sheetsOk_append ns a (x :: S) b]; simp [Bool.and_assoc]
theorem drop_flat {s : Shelf} {i : Nat} {x : Note} (hx : s.notes[i]? = some x) : (s.notes.drop i).flatMap (·.sheets) = x.sheets ++ (s.notes.drop (i + 1)).flatMap (·.sheets) := by
  obtain ⟨hi, e⟩ := List.getElem?_eq_some_iff.1 hx
  rw [List.drop_eq_getElem_cons hi, e]; rfl
set_option maxRecDepth 100000 in
set_option maxHeartbeats 4000000 in
theorem mayS_any (s : Shelf) (bv nv : Value) (w : World) (h : ShelfR w s bv nv) (hz : TameS s) (hT : Tabs w) :
    Calls Tryz.prog 28 #[shelfV s bv nv] w fun e w' => e = .returned (.bool (mayS s)) ∧ Grow w w' := by
  obtain ⟨a1, c1, rfl⟩ := h.1.mk
  obtain ⟨a2, c2, rfl⟩ := h.2.mk
  have HH := Lib.hid h
  have HZ := Lib.hid hz
  have HTB := Lib.hid hT
  have hlc1 : s.books.length ≤ c1 := h.1.len.2
  have hlc2 : s.notes.length ≤ c2 := h.2.len.2
  clear h hz hT
  have hmm := @run_makeMap Tryz.prog
  unfold shelfV
  go_enter Tryz.func28, Tryz.ntmps28
  go_upto_region 1 with (fail)
  generalize hV : w.alloc (.cells #[.int .i64 s.nb, .int .i64 s.nn, .int .i64 s.ns, .slice a1 s.books.length c1, .slice a2 s.notes.length c2] 25) = V
  have gV : Grow w V := by rw [← hV]; exact (Grow.refl w).alloc _
  have hsz : w.heap.size < V.heap.size := by rw [← hV]; simp
  have Q : V.cell? ⟨w.heap.size, 0, none⟩ = some (.int .i64 s.nb) ∧ V.cell? ⟨w.heap.size, 1, none⟩ = some (.int .i64 s.nn) ∧ V.cell? ⟨w.heap.size, 2, none⟩ = some (.int .i64 s.ns) ∧ V.cell? ⟨w.heap.size, 3, none⟩ = some (.slice a1 s.books.length c1) ∧
      V.cell? ⟨w.heap.size, 4, none⟩ = some (.slice a2 s.notes.length c2) := by rw [← hV]; simp [go_sem]
  obtain ⟨q0, q1, q2, q3, q4⟩ := Q
  clear hV
  go_cut [34] (fun v34 wc => v34 = .bool (!mayHead s) ∧ wc = V)
  case first =>
    have HM := Lib.hid (show mayHead s = _ from rfl)
    have k1 := fun W => in_any s.nb 1 65536 W
    have k2 := fun W => in_any s.nn 1 65536 W
    have k3 := fun W => in_any s.ns 1 4096 W
    cases e1 : (decide (1 ≤ s.nb) && decide (s.nb ≤ 65536))
    · rw [e1] at k1
      have HN := Lib.hid (show mayHead s = false by rw [HM.out]; unfold mayHead; rw [e1]; rfl)
      clear e1
      go_wp2_with fail
      refine (k1 _).mono ?_
      rintro e w1 ⟨rfl, rfl⟩
      go_wp2_with fail
      go_meet
      exact ⟨by rw [HN.out]; rfl, rfl⟩
    rw [e1] at k1
    cases e2 : (decide (1 ≤ s.nn) && decide (s.nn ≤ 65536))
    · rw [e2] at k2
      have HN := Lib.hid (show mayHead s = false by unfold mayHead; rw [e1, e2]; rfl)
      clear e1 e2
      go_wp2_with fail
      refine (k1 _).mono ?_
      rintro e w1 ⟨rfl, rfl⟩
      go_wp2_with fail
      refine (k2 _).mono ?_
      rintro e w1 ⟨rfl, rfl⟩
      go_wp2_with fail
      go_meet
      exact ⟨by rw [HN.out]; rfl, rfl⟩
    rw [e2] at k2
    cases e3 : (decide (1 ≤ s.ns) && decide (s.ns ≤ 4096))
    · rw [e3] at k3
      have HN := Lib.hid (show mayHead s = false by unfold mayHead; rw [e1, e2, e3]; rfl)
      clear e1 e2 e3
      go_wp2_with fail
      refine (k1 _).mono ?_
      rintro e w1 ⟨rfl, rfl⟩
      go_wp2_with fail
      refine (k2 _).mono ?_
      rintro e w1 ⟨rfl, rfl⟩
      go_wp2_with fail
      refine (k3 _).mono ?_
      rintro e w1 ⟨rfl, rfl⟩
      go_wp2_with fail
      go_meet
      exact ⟨by rw [HN.out]; rfl, rfl⟩
    rw [e3] at k3
    have HL := Lib.hid (show mayHead s = (decide (s.books.length ≤ 6) && decide (s.notes.length ≤ 12)) by unfold mayHead; rw [e1, e2, e3]; rfl)
    clear e1 e2 e3
    by_cases e4 : s.books.length ≤ 6
    · have e4' : decide ((6 : Int) < s.books.length) = false := decide_eq_false (by omega)
      have e4'' : ¬ (6 : Int) < s.books.length := by omega
      by_cases e5 : s.notes.length ≤ 12
      · have e5' : decide ((12 : Int) < s.notes.length) = false := decide_eq_false (by omega)
        have e5'' : ¬ (12 : Int) < s.notes.length := by omega
        have HN := Lib.hid (show mayHead s = true by rw [HL.out, decide_eq_true e4, decide_eq_true e5]; rfl)
        go_wp2_with fail
        refine (k1 _).mono ?_
        rintro e w1 ⟨rfl, rfl⟩
        go_wp2_with fail
        refine (k2 _).mono ?_
        rintro e w1 ⟨rfl, rfl⟩
        go_wp2_with fail
        refine (k3 _).mono ?_
        rintro e w1 ⟨rfl, rfl⟩
        go_wp2_with fail
        go_meet
        exact ⟨by rw [HN.out]; simp, rfl⟩
      · have e5' : (12 : Int) < s.notes.length := by omega
        have HN := Lib.hid (show mayHead s = false by rw [HL.out, decide_eq_true e4, decide_eq_false e5]; rfl)
        go_wp2_with fail
        refine (k1 _).mono ?_
        rintro e w1 ⟨rfl, rfl⟩
        go_wp2_with fail
        refine (k2 _).mono ?_
        rintro e w1 ⟨rfl, rfl⟩
        go_wp2_with fail
        refine (k3 _).mono ?_
        rintro e w1 ⟨rfl, rfl⟩
        go_wp2_with fail
        go_meet
        exact ⟨by rw [HN.out]; simp, rfl⟩
    · have e4' : (6 : Int) < s.books.length := by omega
      have HN := Lib.hid (show mayHead s = false by rw [HL.out, decide_eq_false e4]; rfl)
      go_wp2_with fail
      refine (k1 _).mono ?_
      rintro e w1 ⟨rfl, rfl⟩
      go_wp2_with fail
      refine (k2 _).mono ?_
      rintro e w1 ⟨rfl, rfl⟩
      go_wp2_with fail
      refine (k3 _).mono ?_
      rintro e w1 ⟨rfl, rfl⟩
      go_wp2_with fail
      go_meet
      exact ⟨by rw [HN.out]; simp, rfl⟩
  case rest =>
    obtain ⟨rfl, rfl⟩ := hcut
    cases hm : mayHead s
    · have HN := Lib.hid (show mayS s = false by unfold mayS; rw [hm]; rfl)
      clear hm
      go_wp2_with fail
      go_ret
      exact ⟨ret_bool HN.out.symm, gV⟩
    have hm2 := hm
    unfold mayHead at hm2
    simp only [Bool.and_eq_true, decide_eq_true_eq] at hm2
    obtain ⟨⟨⟨⟨⟨n1, n2⟩, n3, n4⟩, n5, n6⟩, n7⟩, n8⟩ := hm2
    have HMM := Lib.hid hm
    clear hm
    have n7' : (s.books.length : Int) ≤ 6 := by omega
    have n8' : (s.notes.length : Int) ≤ 12 := by omega
    go_wp2_with fail
    go_loopw [3, 4, 38] (fun _ _ v38 wx => Grow wc wx ∧ ∃ j : Nat, v38 = .int .i64 j ∧ j ≤ s.books.length ∧ ∀ k, k < j → bookOk s k = true) (fun _ _ v38 _ => s.books.length - (intOf v38).toNat)
    case atStart => exact ⟨Grow.refl _, 0, rfl, by omega, fun k h => absurd h (by omega)⟩
    case round =>
      obtain ⟨hgr, j, rfl, hj, hall⟩ := hrel
      have HA := Lib.hid hall
      clear hall
      have gw := gV.trans hgr
      replace q0 := (hgr.cells _ _ hsz).trans q0
      replace q1 := (hgr.cells _ _ hsz).trans q1
      replace q2 := (hgr.cells _ _ hsz).trans q2
      replace q3 := (hgr.cells _ _ hsz).trans q3
      replace q4 := (hgr.cells _ _ hsz).trans q4
      have hsr : w.heap.size < wr.heap.size := by have := hgr.size; omega
      by_cases hlt : j < s.books.length
      · have hlt' : (j : Int) < s.books.length := by omega
        obtain ⟨x, hx, -⟩ := lt_get hlt
        have HR := HH.out.1.grow gw
        obtain ⟨bb, off, rfl, hbb, p0, p1⟩ := HR.at hx
        have ho : ((j : Int) ≤ 0 ∧ j = 0) ∨ ((0 : Int) < j ∧ ∃ z : Book, bookAt s (j - 1) = z ∧ wr.cell? ⟨bb, off + (j - 1) * 2, none⟩ = some (.int .i64 z.id)) := by
          rcases Nat.eq_zero_or_pos j with h0 | h0
          · exact .inl ⟨by omega, h0⟩
          · obtain ⟨z, hz, -⟩ := lt_get (l := s.books) (i := j - 1) (by omega)
            obtain ⟨b', off', e', hb', k0, -⟩ := HR.at hz
            injection e' with e'
            injection e' with e1 e2
            subst e1 e2
            exact .inr ⟨by omega, z, getD_of hz, k0⟩
        have hns := HZ.out.1.book hx
        have HX := Lib.hid (getD_of (d := (default : Book)) hx)
        have HRT := Lib.hid (Reads.take HR (i := j) (by omega))
        clear hx HR
        go_upto_region 6 with (fail)
        generalize hU : wr.alloc (.cells #[.int .i64 x.id, .string x.name] 60) = U
        have gU : Grow wr U := by rw [← hU]; exact (Grow.refl wr).alloc _
        have hszU : wr.heap.size < U.heap.size := by rw [← hU]; simp
        have QU : U.cell? ⟨wr.heap.size, 0, none⟩ = some (.int .i64 x.id) ∧ U.cell? ⟨wr.heap.size, 1, none⟩ = some (.string x.name) := by rw [← hU]; simp [go_sem]
        obtain ⟨r0, r1⟩ := QU
        clear hU p0 p1
        have u0 := (gU.cells _ 0 hsr).trans q0
        have u3 := (gU.cells _ 3 hsr).trans q3
        have hbU : bb < U.heap.size := by omega
        have hsU : w.heap.size < U.heap.size := by omega
        replace ho : ((j : Int) ≤ 0 ∧ j = 0) ∨ ((0 : Int) < j ∧ ∃ z : Book, bookAt s (j - 1) = z ∧ U.cell? ⟨bb, off + (j - 1) * 2, none⟩ = some (.int .i64 z.id)) := by
          rcases ho with h0 | ⟨h0, z, h1, h2⟩
          · exact .inl h0
          · exact .inr ⟨h0, z, h1, (gU.cells _ _ hbb).trans h2⟩
        have cI := fun W => in_any x.id 1 (s.nb - 1) W
        have cM := fun y : Gr U => may_any x.name y.W (by omega) (HTB.out.below ((gw.trans gU).trans y.g))
        have cB := fun y : Gr U => named_any _ _ x.name y.W (Books.grow (Books.grow HRT.out gU) y.g) (by rw [List.length_take]; omega)
        have HD := Lib.hid (show bookOk s j = ((decide (1 ≤ x.id) && decide (x.id ≤ s.nb - 1)) && (j == 0 || decide ((bookAt s (j - 1)).id < x.id)) && mayB x.name && decide (idx (fun b => b.name.toList == x.name.toList) (s.books.take j) < 0)) by unfold bookOk bookAt; rw [HX.out])
        go_cut [81] (fun v81 wc => v81 = .bool (!bookOk s j) ∧ Grow U wc)
        case first =>
          have H' := HD.out
          clear HD HA HMM HH HZ HTB q0 q1 q2 q3 q4 hgr gw HX HRT gU hns
          cases e1 : (decide (1 ≤ x.id) && decide (x.id ≤ s.nb - 1))
          · have HN := Lib.hid (show bookOk s j = false by rw [H', e1]; rfl)
            rw [e1] at cI
            clear H' e1 cM cB
            refine wp_region_gr (by kernel_rfl) (by kernel_rfl) ?_
            repeat (go_big_quiet_step (first | (go_at_call 67; exact Calls.gr_same (cI _)) | (go_at_call 68; exact Calls.gr (cM _)) | (go_at_call 69; exact Calls.gr (cB _))))
            refine wpQuiet_nil ?_
            rintro _ ⟨y, rfl⟩
            go_wp2_with fail
            go_meet
            exact ⟨by rw [HN.out]; rfl, y.g⟩
          rw [e1] at cI H'
          clear e1
          by_cases hord : (0 : Int) < j ∧ x.id ≤ (bookAt s (j - 1)).id
          · obtain ⟨i0, hord⟩ := hord
            rcases ho with ⟨h0, -⟩ | ⟨h0, z, hz, k0⟩
            · omega
            rw [hz] at hord H'
            have HN := Lib.hid (show bookOk s j = false by
              rw [H', decide_eq_false (show ¬ z.id < x.id by omega), show (j == 0) = false by rw [beq_eq_false_iff_ne]; omega]; rfl)
            clear H' hz cM cB
            have hd : decide (0 < j) = true := decide_eq_true (by omega)
            have hd' : decide ((0 : Int) < j) = true := decide_eq_true h0
            have hi0 : IntKind.i64.wrap ((j : Int) - 1) = (j : Int) - 1 := IntWalk.i64_in _ (by omega)
            have hi1 : (0 : Int) ≤ (j : Int) - 1 := by omega
            have hi2 : (j : Int) - 1 < s.books.length := by omega
            have hd8 : decide (x.id ≤ z.id) = true := decide_eq_true hord
            have hi3 : ((j : Int) - 1).toNat = j - 1 := by omega
            refine wp_region_gr (by kernel_rfl) (by kernel_rfl) ?_
            repeat (go_big_quiet_step (first | (go_at_call 67; exact Calls.gr_same (cI _)) | (go_at_call 68; exact Calls.gr (cM _)) | (go_at_call 69; exact Calls.gr (cB _))))
            refine wpQuiet_nil ?_
            rintro _ ⟨y, rfl⟩
            go_wp2_with fail
            go_meet
            exact ⟨by rw [HN.out]; rfl, y.g⟩
          have H2 : bookOk s j = (mayB x.name && decide (idx (fun b => b.name.toList == x.name.toList) (s.books.take j) < 0)) := by
            rw [H', show (j == 0 || decide ((bookAt s (j - 1)).id < x.id)) = true by
              rw [Bool.or_eq_true, beq_iff_eq, decide_eq_true_eq]; omega]; simp
          clear H'
          have ho2 : ((j : Int) ≤ 0) ∨ ((0 : Int) < j ∧ ∃ z : Book, z.id < x.id ∧ U.cell? ⟨bb, off + (j - 1) * 2, none⟩ = some (.int .i64 z.id)) := by
            rcases ho with ⟨h0, -⟩ | ⟨h0, z, hz, k0⟩
            · exact .inl h0
            · exact .inr ⟨h0, z, by rw [← hz]; omega, k0⟩
          clear ho hord
          cases e3 : mayB x.name
          · have HN := Lib.hid (show bookOk s j = false by rw [H2, e3]; rfl)
            rw [e3] at cM
            clear H2 e3 cB
            rcases ho2 with h0 | ⟨h0, z, hzi, k0⟩
            · have hd : decide (0 < j) = false := decide_eq_false (by omega)
              have hd' : decide ((0 : Int) < j) = false := decide_eq_false (by omega)
              refine wp_region_gr (by kernel_rfl) (by kernel_rfl) ?_
              repeat (go_big_quiet_step (first | (go_at_call 67; exact Calls.gr_same (cI _)) | (go_at_call 68; exact Calls.gr (cM _)) | (go_at_call 69; exact Calls.gr (cB _))))
              refine wpQuiet_nil ?_
              rintro _ ⟨y, rfl⟩
              go_wp2_with fail
              go_meet
              exact ⟨by rw [HN.out]; rfl, y.g⟩
            · have hd : decide (0 < j) = true := decide_eq_true (by omega)
              have hd' : decide ((0 : Int) < j) = true := decide_eq_true h0
              have hi0 : IntKind.i64.wrap ((j : Int) - 1) = (j : Int) - 1 := IntWalk.i64_in _ (by omega)
              have hi1 : (0 : Int) ≤ (j : Int) - 1 := by omega
              have hi2 : (j : Int) - 1 < s.books.length := by omega
              have hd8 : decide (x.id ≤ z.id) = false := decide_eq_false (by omega)
              have hi3 : ((j : Int) - 1).toNat = j - 1 := by omega
              refine wp_region_gr (by kernel_rfl) (by kernel_rfl) ?_
              repeat (go_big_quiet_step (first | (go_at_call 67; exact Calls.gr_same (cI _)) | (go_at_call 68; exact Calls.gr (cM _)) | (go_at_call 69; exact Calls.gr (cB _))))
              refine wpQuiet_nil ?_
              rintro _ ⟨y, rfl⟩
              go_wp2_with fail
              go_meet
              exact ⟨by rw [HN.out]; rfl, y.g⟩
          rw [e3] at cM H2
          clear e3
          have hjc : (j : Int) ≤ c1 := by omega
          have hj0 : (0 : Int) ≤ j := by omega
          generalize idx (fun b : Book => b.name.toList == x.name.toList) (s.books.take j) = I at *
          by_cases e4 : I < 0
          · have HN := Lib.hid (show bookOk s j = true by rw [H2, decide_eq_true e4]; rfl)
            have hd4 : decide (0 ≤ I) = false := decide_eq_false (by omega)
            clear H2
            rcases ho2 with h0 | ⟨h0, z, hzi, k0⟩
            · have hd : decide (0 < j) = false := decide_eq_false (by omega)
              have hd' : decide ((0 : Int) < j) = false := decide_eq_false (by omega)
              refine wp_region_gr (by kernel_rfl) (by kernel_rfl) ?_
              repeat (go_big_quiet_step (first | (go_at_call 67; exact Calls.gr_same (cI _)) | (go_at_call 68; exact Calls.gr (cM _)) | (go_at_call 69; exact Calls.gr (cB _))))
              refine wpQuiet_nil ?_
              rintro _ ⟨y, rfl⟩
              go_wp2_with fail
              go_meet
              exact ⟨by rw [HN.out]; rfl, y.g⟩
            · have hd : decide (0 < j) = true := decide_eq_true (by omega)
              have hd' : decide ((0 : Int) < j) = true := decide_eq_true h0
              have hi0 : IntKind.i64.wrap ((j : Int) - 1) = (j : Int) - 1 := IntWalk.i64_in _ (by omega)
              have hi1 : (0 : Int) ≤ (j : Int) - 1 := by omega
              have hi2 : (j : Int) - 1 < s.books.length := by omega
              have hd8 : decide (x.id ≤ z.id) = false := decide_eq_false (by omega)
              have hi3 : ((j : Int) - 1).toNat = j - 1 := by omega
              refine wp_region_gr (by kernel_rfl) (by kernel_rfl) ?_
              repeat (go_big_quiet_step (first | (go_at_call 67; exact Calls.gr_same (cI _)) | (go_at_call 68; exact Calls.gr (cM _)) | (go_at_call 69; exact Calls.gr (cB _))))
              refine wpQuiet_nil ?_
              rintro _ ⟨y, rfl⟩
              go_wp2_with fail
              go_meet
              exact ⟨by rw [HN.out]; rfl, y.g⟩
          · have HN := Lib.hid (show bookOk s j = false by rw [H2, decide_eq_false e4]; rfl)
            have hd4 : decide (0 ≤ I) = true := decide_eq_true (by omega)
            clear H2
            rcases ho2 with h0 | ⟨h0, z, hzi, k0⟩
            · have hd : decide (0 < j) = false := decide_eq_false (by omega)
              have hd' : decide ((0 : Int) < j) = false := decide_eq_false (by omega)
              refine wp_region_gr (by kernel_rfl) (by kernel_rfl) ?_
              repeat (go_big_quiet_step (first | (go_at_call 67; exact Calls.gr_same (cI _)) | (go_at_call 68; exact Calls.gr (cM _)) | (go_at_call 69; exact Calls.gr (cB _))))
              refine wpQuiet_nil ?_
              rintro _ ⟨y, rfl⟩
              go_wp2_with fail
              go_meet
              exact ⟨by rw [HN.out]; rfl, y.g⟩
            · have hd : decide (0 < j) = true := decide_eq_true (by omega)
              have hd' : decide ((0 : Int) < j) = true := decide_eq_true h0
              have hi0 : IntKind.i64.wrap ((j : Int) - 1) = (j : Int) - 1 := IntWalk.i64_in _ (by omega)
              have hi1 : (0 : Int) ≤ (j : Int) - 1 := by omega
              have hi2 : (j : Int) - 1 < s.books.length := by omega
              have hd8 : decide (x.id ≤ z.id) = false := decide_eq_false (by omega)
              have hi3 : ((j : Int) - 1).toNat = j - 1 := by omega
              refine wp_region_gr (by kernel_rfl) (by kernel_rfl) ?_
              repeat (go_big_quiet_step (first | (go_at_call 67; exact Calls.gr_same (cI _)) | (go_at_call 68; exact Calls.gr (cM _)) | (go_at_call 69; exact Calls.gr (cB _))))
              refine wpQuiet_nil ?_
              rintro _ ⟨y, rfl⟩
              go_wp2_with fail
              go_meet
              exact ⟨by rw [HN.out]; rfl, y.g⟩
        case rest =>
          obtain ⟨rfl, gc⟩ := hcut
          clear cI cM cB
          cases hok : bookOk s j
          · have HN := Lib.hid (show mayS s = false by unfold mayS; rw [allTo_no hlt hok]; simp)
            clear hok
            go_wp2_with fail
            go_ret
            exact ⟨ret_bool HN.out.symm, (gw.trans gU).trans gc⟩
          · have HK := Lib.hid hok
            clear hok
            go_wp2_with fail
            go_roundw
            case rel => exact ⟨(hgr.trans gU).trans gc, j + 1, by go_num, by omega, fun k hk => by
              rcases (by omega : k < j ∨ k = j) with h3 | rfl
              · exact HA.out k h3
              · exact HK.out⟩
            case measure => simp [intOf]; omega
      · have hlt' : ¬ (j : Int) < s.books.length := by omega
        have HB := Lib.hid (allTo_yes (n := s.books.length) (p := bookOk s) (fun k hk => HA.out k (by omega)))
        clear HA hj hgr
        go_wp2_with fail
        have gM : Grow w (wr.alloc (.map #[] 0)) := gw.alloc _
        have hSM := Seen.made wr
        have hlM : wr.heap.size < (wr.alloc (.map #[] 0)).heap.size := by simp
        have Q : (wr.alloc (.map #[] 0)).cell? ⟨w.heap.size, 0, none⟩ = some (.int .i64 s.nb) ∧ (wr.alloc (.map #[] 0)).cell? ⟨w.heap.size, 1, none⟩ = some (.int .i64 s.nn) ∧ (wr.alloc (.map #[] 0)).cell? ⟨w.heap.size, 2, none⟩ = some (.int .i64 s.ns) ∧ (wr.alloc (.map #[] 0)).cell? ⟨w.heap.size, 3, none⟩ = some (.slice a1 s.books.length c1) ∧
            (wr.alloc (.map #[] 0)).cell? ⟨w.heap.size, 4, none⟩ = some (.slice a2 s.notes.length c2) := by
          have gA : Grow wr (wr.alloc (.map #[] 0)) := (Grow.refl wr).alloc _
          exact ⟨(gA.cells _ _ hsr).trans q0, (gA.cells _ _ hsr).trans q1, (gA.cells _ _ hsr).trans q2, (gA.cells _ _ hsr).trans q3, (gA.cells _ _ hsr).trans q4⟩
        clear q0 q1 q2 q3 q4 gw
        obtain ⟨q0, q1, q2, q3, q4⟩ := Q
        generalize hM : wr.alloc (.map #[] 0) = M at *
        generalize hbM : wr.heap.size = bM at *
        clear hM hbM
        go_loopw [6, 87] (fun _ v87 wx => Turned bM M wx ∧ ∃ (j n : Nat) (S : List Int), v87 = .int .i64 j ∧ j ≤ s.notes.length ∧ n ≤ j * 1000000 ∧ Seen wx bM n S ∧ (∀ k, k < j → noteOk s k = true) ∧ sheetsOk s.ns [] (s.notes.flatMap (·.sheets)) = sheetsOk s.ns S ((s.notes.drop j).flatMap (·.sheets))) (fun _ v87 _ => s.notes.length - (intOf v87).toNat)
        case atStart => exact ⟨Turned.refl _ _, 0, 0, [], rfl, by omega, by omega, hSM, fun k h => absurd h (by omega), rfl⟩
        case round =>
          obtain ⟨ht, j, n, S, rfl, hj, hnj, hSn, hall, hso⟩ := hrel
          have HA := Lib.hid hall
          have HS := Lib.hid hSn
          have HO := Lib.hid hso
          clear hall hSn hso hSM
          have hne : w.heap.size ≠ bM := by omega
          have hwM : w.heap.size < M.heap.size := by omega
          replace q0 := (ht.cell hwM hne).trans q0
          replace q1 := (ht.cell hwM hne).trans q1
          replace q2 := (ht.cell hwM hne).trans q2
          replace q3 := (ht.cell hwM hne).trans q3
          replace q4 := (ht.cell hwM hne).trans q4
          have g9 : Grow w wr := Turned.grow ht gM (by omega)
          by_cases hlt : j < s.notes.length
          · have hlt' : (j : Int) < s.notes.length := by omega
            obtain ⟨x, hx, -⟩ := lt_get hlt
            have HXX := Lib.hid hx
            have cN := mayNote_any s _ _ j x bM n S w wr hx HH.out g9 (by omega) HS.out (by omega) HTB.out HZ.out.1.1 HZ.out.1.2.1 (HZ.out.note hx) (by omega) (by omega) (by omega) (by omega)
            have hxl : x.sheets.length ≤ 1000000 := (HZ.out.note hx).2.2.1
            have HD := Lib.hid (drop_flat hx)
            clear hx
            unfold shelfV at cN
            go_wp2_with fail
            refine cN.mono ?_
            rintro e w1 ⟨t1, hr⟩
            rcases hr with ⟨hno, rfl⟩ | ⟨hyes, rfl, hS1⟩
            · have HN := Lib.hid (show mayS s = false by
                unfold mayS
                cases hok : noteOk s j
                · rw [allTo_no hlt hok]; simp
                · rw [hok, Bool.true_and] at hno
                  rw [HO.out, HD.out, sheetsOk_append, hno]; simp)
              clear hno
              go_wp2_with fail
              go_ret
              exact ⟨ret_bool HN.out.symm, Turned.grow (ht.trans t1) gM (by omega)⟩
            · rw [Bool.and_eq_true] at hyes
              have HK := Lib.hid hyes.1
              have HO2 := Lib.hid (show sheetsOk s.ns [] (s.notes.flatMap (·.sheets)) = sheetsOk s.ns (x.sheets.reverse ++ S) ((s.notes.drop (j + 1)).flatMap (·.sheets)) by
                rw [HO.out, HD.out, sheetsOk_append, hyes.2, Bool.true_and])
              have HS1 := Lib.hid hS1
              clear hyes hS1
              go_wp2_with fail
              go_roundw
              case rel => exact ⟨ht.trans t1, j + 1, n + x.sheets.length, _, by go_num, by omega, by omega, HS1.out, fun k hk => by
                rcases (by omega : k < j ∨ k = j) with h3 | rfl
                · exact HA.out k h3
                · exact HK.out, HO2.out⟩
              case measure => simp [intOf]; omega
          · have hlt' : ¬ (j : Int) < s.notes.length := by omega
            have HR := Lib.hid (show mayS s = true by
              unfold mayS
              rw [HMM.out, HB.out, allTo_yes (fun k hk => HA.out k (by omega)), HO.out, List.drop_of_length_le (by omega)]; rfl)
            go_wp2_with fail
            go_ret
            exact ⟨ret_bool HR.out.symm, g9⟩
end Go.Proofs.YtgpjcgcecahddaaGreatDoor
set_option linter.unusedVariables false
set_option linter.unusedSimpArgs false
namespace Go.Proofs.YtgpjcgcecahddaaGreatDoor
open Go.RowKit Go.Lib
theorem pair_adj {α : Type} {R : α → α → Prop} (ht : ∀ x y z, R x y → R y z → R x z) : ∀ l : List α, (∀ (i : Nat) x y, l[i]? = some x → l[i + 1]? = some y → R x y) → l.Pairwise R
  | [], _ => .nil
  | [x], _ => by simp
  | x :: y :: l, h => by
    have ih := pair_adj ht (y :: l) (fun i a b ha hb => h (i + 1) a b (by simpa using ha) (by simpa using hb))
    refine List.pairwise_cons.2 ⟨fun z hz => ?_, ih⟩
    rcases List.mem_cons.1 hz with rfl | hz
    · exact h 0 x z rfl rfl
    · exact ht x y z (h 0 x y rfl rfl) ((List.pairwise_cons.1 ih).1 z hz)
theorem pair_get {α : Type} {R : α → α → Prop} {l : List α} (h : l.Pairwise R) {i j : Nat} {x y : α} (hi : l[i]? = some x) (hj : l[j]? = some y) (hij : i < j) : R x y := by
  obtain ⟨h1, rfl⟩ := List.getElem?_eq_some_iff.1 hi
  obtain ⟨h2, rfl⟩ := List.getElem?_eq_some_iff.1 hj
  exact List.pairwise_iff_getElem.1 h i j h1 h2 hij
theorem pair_of {α : Type} {R : α → α → Prop} {l : List α} (h : ∀ (i j : Nat) x y, i < j → l[i]? = some x → l[j]? = some y → R x y) : l.Pairwise R :=
  List.pairwise_iff_getElem.2 fun i j hi hj hij => h i j _ _ hij (List.getElem?_eq_getElem hi) (List.getElem?_eq_getElem hj)
theorem idx_neg {α : Type} {p : α → Bool} {l : List α} : idx p l < 0 ↔ ∀ x ∈ l, p x = false := by
  constructor
  · intro h x hx
    cases e : p x with
    | false => rfl
    | true =>
      exfalso
      induction l with
      | nil => cases hx
      | cons y l ih =>
        unfold idx at h
        have hb := idx_bd p l
        split at h
        · omega
        · rename_i hy
          rcases List.mem_cons.1 hx with rfl | hx
          · exact hy e
          · split at h
            · rename_i hh
              exact ih (by omega) hx
            · omega
  · intro h
    rw [idx_none fun j x hx => h x (List.mem_of_getElem? hx)]
    omega
theorem toList_ne {a b : ByteArray} : (a.toList == b.toList) = false ↔ a ≠ b := by
  rw [beq_eq_false_iff_ne]
  exact ⟨fun h e => h (by rw [e]), fun h e => h (eq_of_tl e)⟩
theorem toList_eq {a b : ByteArray} : (a.toList == b.toList) = true ↔ a = b := by
  rw [beq_iff_eq]
  exact ⟨eq_of_tl, fun e => by rw [e]⟩
theorem sheetsOk_iff (ns : Int) : ∀ (l S : List Int), sheetsOk ns S l = true ↔ l.Nodup ∧ (∀ x ∈ l, x ∉ S) ∧ ∀ x ∈ l, 1 ≤ x ∧ x ≤ ns - 1
  | [], S => by simp [sheetsOk]
  | x :: l, S => by
    rw [sheetsOk, Bool.and_eq_true, Bool.and_eq_true, Bool.and_eq_true, sheetsOk_iff ns l (x :: S)]
    simp only [Bool.not_eq_true', decide_eq_false_iff_not, decide_eq_true_eq, List.nodup_cons, List.mem_cons, forall_eq_or_imp, not_or]
    constructor
    · rintro ⟨⟨h1, h2⟩, h3, h4, h5⟩
      exact ⟨⟨fun hx => (h4 x hx).1 rfl, h3⟩, ⟨h1, fun y hy => (h4 y hy).2⟩, h2, h5⟩
    · rintro ⟨⟨h1, h2⟩, ⟨h3, h4⟩, h5, h6⟩
      exact ⟨⟨h3, h5⟩, h2, fun y hy => ⟨fun e => h1 (e ▸ hy), h4 y hy⟩, h6⟩
structure MayP (s : Shelf) : Prop where
  nb : 1 ≤ s.nb ∧ s.nb ≤ 65536
  nn : 1 ≤ s.nn ∧ s.nn ≤ 65536
  ns : 1 ≤ s.ns ∧ s.ns ≤ 4096
  bl : s.books.length ≤ 6
  nl : s.notes.length ≤ 12
  bid : ∀ b ∈ s.books, 1 ≤ b.id ∧ b.id ≤ s.nb - 1
  bmay : ∀ b ∈ s.books, mayB b.name = true
  binc : s.books.Pairwise fun a b => a.id < b.id
  bnew : s.books.Pairwise fun a b => a.name ≠ b.name
  nid : ∀ n ∈ s.notes, 1 ≤ n.id ∧ n.id ≤ s.nn - 1
  nmay : ∀ n ∈ s.notes, mayB n.name = true
  nbook : ∀ n ∈ s.notes, ∃ b ∈ s.books, b.id = n.book
  ninc : s.notes.Pairwise fun a b => a.id < b.id
  nnew : s.notes.Pairwise fun a b => ¬ (a.book = b.book ∧ a.name = b.name)
  tmay : ∀ n ∈ s.notes, ∀ t ∈ n.tags, mayB t = true
  tinc : ∀ n ∈ s.notes, n.tags.Pairwise fun a b => ltS a b = true
  tl : ∀ n ∈ s.notes, n.tags.length ≤ 4
  sl : ∀ n ∈ s.notes, n.sheets.length ≤ 8
  sid : ∀ x ∈ s.notes.flatMap (·.sheets), 1 ≤ x ∧ x ≤ s.ns - 1
  snew : (s.notes.flatMap (·.sheets)).Nodup
theorem allTo_get {n : Nat} {p : Nat → Bool} (h : allTo n p = true) {i : Nat} (hi : i < n) : p i = true := allTo_iff.1 h i hi
theorem tagsB_iff {l : List ByteArray} : tagsB l = true ↔ (∀ t ∈ l, mayB t = true) ∧ (l.Pairwise fun a b => ltS a b = true) ∧ l.length ≤ 4 := by
  unfold tagsB
  rw [Bool.and_eq_true, decide_eq_true_eq, allTo_iff]
  constructor
  · rintro ⟨h, h4⟩
    refine ⟨fun t ht => ?_, pair_adj (R := fun a b => ltS a b = true) (fun x y z h1 h2 => ltS_trans h1 h2) l fun i x y hx hy => ?_, h4⟩
    · obtain ⟨i, hi⟩ := List.getElem?_of_mem ht
      have := h i (List.getElem?_eq_some_iff.1 hi).1
      unfold tagOk at this
      rw [Bool.and_eq_true, getD_of hi] at this
      exact this.1
    · have := h (i + 1) (List.getElem?_eq_some_iff.1 hy).1
      unfold tagOk at this
      rw [Bool.and_eq_true, getD_of hy, Nat.add_sub_cancel, getD_of hx] at this
      simpa using this.2
  · rintro ⟨h1, h2, h3⟩
    refine ⟨fun i hi => ?_, h3⟩
    obtain ⟨x, hx, -⟩ := lt_get hi
    unfold tagOk
    rw [Bool.and_eq_true, getD_of hx]
    refine ⟨h1 x (List.mem_of_getElem? hx), ?_⟩
    cases i with
    | zero => rfl
    | succ i =>
      obtain ⟨y, hy, -⟩ := lt_get (show i < l.length by omega)
      rw [Nat.add_sub_cancel, getD_of hy, pair_get h2 hy hx (by omega)]; simp
theorem idx_nonneg {α : Type} {p : α → Bool} {l : List α} : 0 ≤ idx p l ↔ ∃ x ∈ l, p x = true := by
  constructor
  · intro h
    apply Classical.byContradiction
    intro hn
    have : idx p l < 0 := idx_neg.2 fun x hx => by
      cases e : p x with
      | false => rfl
      | true => exact absurd ⟨x, hx, e⟩ hn
    omega
  · rintro ⟨x, hx, hp⟩
    apply Classical.byContradiction
    intro hn
    have := idx_neg.1 (show idx p l < 0 by omega) x hx
    rw [hp] at this; cases this
theorem mayS_iff {s : Shelf} : mayS s = true ↔ MayP s := by
  unfold mayS mayHead
  simp only [Bool.and_eq_true, decide_eq_true_eq, sheetsOk_iff, allTo_iff]
  constructor
  · rintro ⟨⟨⟨⟨⟨⟨⟨h1, h2⟩, h3⟩, h4⟩, h5⟩, hB⟩, hN⟩, h6, -, h7⟩
    have gB : ∀ (i : Nat) b, s.books[i]? = some b → ((1 ≤ b.id ∧ b.id ≤ s.nb - 1) ∧ mayB b.name = true) ∧ (∀ j a, j < i → s.books[j]? = some a → a.name ≠ b.name) ∧ (∀ a, s.books[i - 1]? = some a → i ≠ 0 → a.id < b.id) := fun i b hb => by
      have := hB i (List.getElem?_eq_some_iff.1 hb).1
      unfold bookOk at this
      simp only [Bool.and_eq_true, decide_eq_true_eq, bookAt, getD_of hb] at this
      obtain ⟨⟨⟨t1, t2⟩, t3⟩, t4⟩ := this
      refine ⟨⟨t1, t3⟩, fun j a hj ha => ?_, fun a ha h0 => ?_⟩
      · have := idx_neg.1 t4 a (List.mem_of_getElem? (i := j) (by rw [List.getElem?_take_of_lt hj]; exact ha))
        exact toList_ne.1 this
      · rw [getD_of ha] at t2
        simpa [h0] using t2
    have gN : ∀ (i : Nat) n, s.notes[i]? = some n → ((1 ≤ n.id ∧ n.id ≤ s.nn - 1) ∧ mayB n.name = true) ∧ (∃ b ∈ s.books, b.id = n.book) ∧ tagsB n.tags = true ∧ n.sheets.length ≤ 8 ∧ (∀ j a, j < i → s.notes[j]? = some a → ¬ (a.book = n.book ∧ a.name = n.name)) ∧ (∀ a, s.notes[i - 1]? = some a → i ≠ 0 → a.id < n.id) := fun i n hn => by
      have := hN i (List.getElem?_eq_some_iff.1 hn).1
      unfold noteOk noteHead noteNew at this
      simp only [Bool.and_eq_true, decide_eq_true_eq, noteAt, getD_of hn] at this
      obtain ⟨⟨⟨⟨⟨⟨t1, t2⟩, t3⟩, t4⟩, t5⟩, t6⟩, t7⟩ := this
      refine ⟨⟨t1, t3⟩, ?_, t5, t6, fun j a hj ha => ?_, fun a ha h0 => ?_⟩
      · obtain ⟨b, hb, e⟩ := idx_nonneg.1 t4
        exact ⟨b, hb, by simpa using e⟩
      · have := allTo_get t7 hj
        rw [getD_of ha] at this
        rintro ⟨e1, e2⟩
        rw [e1, e2] at this
        simp at this
      · rw [getD_of ha] at t2
        simpa [h0] using t2
    have inc : ∀ {α : Type} {l : List α} {f : α → Int}, (∀ (i : Nat) b, l[i]? = some b → ∀ a, l[i - 1]? = some a → i ≠ 0 → f a < f b) → l.Pairwise fun a b => f a < f b := fun h =>
      pair_adj (fun x y z h1 h2 => by omega) _ fun i x y hx hy => h (i + 1) y hy x (by simpa using hx) (by omega)
    have mB : ∀ {p : Book → Prop}, (∀ (i : Nat) b, s.books[i]? = some b → p b) → ∀ b ∈ s.books, p b := fun h b hb => by
      obtain ⟨i, hi⟩ := List.getElem?_of_mem hb; exact h i b hi
    have mN : ∀ {p : Note → Prop}, (∀ (i : Nat) b, s.notes[i]? = some b → p b) → ∀ b ∈ s.notes, p b := fun h b hb => by
      obtain ⟨i, hi⟩ := List.getElem?_of_mem hb; exact h i b hi
    exact {
      nb := h1, nn := h2, ns := h3, bl := h4, nl := h5
      bid := mB fun i b hb => (gB i b hb).1.1
      bmay := mB fun i b hb => (gB i b hb).1.2
      binc := inc fun i b hb => (gB i b hb).2.2
      bnew := pair_of fun i j x y hij hx hy => (gB j y hy).2.1 i x hij hx
      nid := mN fun i b hb => (gN i b hb).1.1
      nmay := mN fun i b hb => (gN i b hb).1.2
      nbook := mN fun i b hb => (gN i b hb).2.1
      ninc := inc fun i b hb => (gN i b hb).2.2.2.2.2
      nnew := pair_of fun i j x y hij hx hy => (gN j y hy).2.2.2.2.1 i x hij hx
      tmay := mN fun i b hb => (tagsB_iff.1 (gN i b hb).2.2.1).1
      tinc := mN fun i b hb => (tagsB_iff.1 (gN i b hb).2.2.1).2.1
      tl := mN fun i b hb => (tagsB_iff.1 (gN i b hb).2.2.1).2.2
      sl := mN fun i b hb => (gN i b hb).2.2.2.1
      sid := h7, snew := h6 }
  · intro h
    refine ⟨⟨⟨⟨⟨⟨⟨h.nb, h.nn⟩, h.ns⟩, h.bl⟩, h.nl⟩, fun i hi => ?_⟩, fun i hi => ?_⟩, h.snew, fun x _ => by simp, h.sid⟩
    · obtain ⟨b, hb, -⟩ := lt_get hi
      have hm := List.mem_of_getElem? hb
      unfold bookOk
      simp only [Bool.and_eq_true, decide_eq_true_eq, bookAt, getD_of hb]
      refine ⟨⟨⟨h.bid b hm, ?_⟩, h.bmay b hm⟩, idx_neg.2 fun a ha => ?_⟩
      · cases i with
        | zero => rfl
        | succ i =>
          obtain ⟨a, ha, -⟩ := lt_get (show i < s.books.length by omega)
          rw [Nat.add_sub_cancel, getD_of ha]
          have := pair_get h.binc ha hb (by omega)
          simp [this]
      · obtain ⟨j, hj⟩ := List.getElem?_of_mem ha
        rw [List.getElem?_take] at hj
        split at hj
        · rename_i hlt
          exact toList_ne.2 (pair_get h.bnew hj hb hlt)
        · cases hj
    · obtain ⟨n, hn, -⟩ := lt_get hi
      have hm := List.mem_of_getElem? hn
      unfold noteOk noteHead noteNew
      simp only [Bool.and_eq_true, decide_eq_true_eq, noteAt, getD_of hn]
      refine ⟨⟨⟨⟨⟨⟨h.nid n hm, ?_⟩, h.nmay n hm⟩, ?_⟩, tagsB_iff.2 ⟨h.tmay n hm, h.tinc n hm, h.tl n hm⟩⟩, h.sl n hm⟩, allTo_yes fun j hj => ?_⟩
      · cases i with
        | zero => rfl
        | succ i =>
          obtain ⟨a, ha, -⟩ := lt_get (show i < s.notes.length by omega)
          rw [Nat.add_sub_cancel, getD_of ha]
          have := pair_get h.ninc ha hn (by omega)
          simp [this]
      · obtain ⟨b, hb, e⟩ := h.nbook n hm
        exact idx_nonneg.2 ⟨b, hb, by simp [e]⟩
      · obtain ⟨a, ha, -⟩ := lt_get (show j < s.notes.length by omega)
        have := pair_get h.nnew ha hn hj
        rw [getD_of ha]
        cases e : (a.book == n.book && a.name.toList == n.name.toList) with
        | false => rfl
        | true =>
          rw [Bool.and_eq_true, beq_iff_eq, toList_eq] at e
          exact absurd e this
end Go.Proofs.YtgpjcgcecahddaaGreatDoor
set_option linter.unusedVariables false
set_option linter.unusedSimpArgs false
namespace Go.Proofs.YtgpjcgcecahddaaGreatDoor
open Go.RowKit Go.Lib
def zS : Shelf := ⟨0, 0, 0, [], []⟩
structure Res where
  s : Shelf
  n : Int
  e : Int
def bad (e : Int) : Res := ⟨zS, 0, e⟩
def resOf (e : Int) (s : Shelf) (n : Int) : Res := if e = 0 then ⟨s, n, 0⟩ else bad e
theorem resOf_e (e : Int) (s : Shelf) (n : Int) : (resOf e s n).e = e := by
  unfold resOf; split
  · rename_i h; exact h.symm
  · rfl
theorem resOf_ok {e : Int} (h : e = 0) (s : Shelf) (n : Int) : resOf e s n = ⟨s, n, 0⟩ := if_pos h
theorem resOf_no {e : Int} (h : e ≠ 0) (s : Shelf) (n : Int) : resOf e s n = bad e := if_neg h
def bookIx (s : Shelf) (id : Int) : Int := idx (fun x : Book => x.id == id) s.books
def noteIx (s : Shelf) (id : Int) : Int := idx (fun x : Note => x.id == id) s.notes
def nameIx (l : List Book) (t : ByteArray) : Int := idx (fun x : Book => x.name.toList == t.toList) l
def noteOf (s : Shelf) (id : Int) : Note := s.notes.getD (noteIx s id).toNat default
def titleB (q : Int) (t : ByteArray) (but : Int) (x : Note) : Bool := (x.book == q) && (x.name.toList == t.toList) && (x.id != but)
def hasT (t : ByteArray) (l : List ByteArray) : Bool := l.any fun x => x.toList == t.toList
def updN (id : Int) (f : Note → Note) (l : List Note) : List Note := l.map fun n => if n.id = id then f n else n
def updB (id : Int) (t : ByteArray) (l : List Book) : List Book := l.map fun b => if b.id = id then ⟨b.id, t⟩ else b
/-- A text among others, in order. -/
def insT (t : ByteArray) : List ByteArray → List ByteArray
  | [] => [t]
  | x :: l => if ltS x t then x :: insT t l else t :: x :: l
def makeE (s : Shelf) (t : ByteArray) : Int := if mayS s = false then 2 else if mayB t = false then 6 else if 0 ≤ nameIx s.books t then 7 else if 6 ≤ (s.books.length : Int) ∨ 65536 ≤ s.nb then 3 else 0
def renameE (s : Shelf) (id : Int) (t : ByteArray) : Int := if mayS s = false then 2 else if bookIx s id < 0 then 4 else if mayB t = false then 6 else if 0 ≤ nameIx s.books t ∧ nameIx s.books t ≠ bookIx s id then 7 else 0
def dropE (s : Shelf) (id : Int) : Int := if mayS s = false then 2 else if bookIx s id < 0 then 4 else 0
def addE (s : Shelf) (id : Int) (t : ByteArray) : Int := if mayS s = false then 2 else if bookIx s id < 0 then 4 else if mayB t = false then 6 else if s.notes.any (titleB id t 0) = true then 7 else if 12 ≤ (s.notes.length : Int) ∨ 65536 ≤ s.nn then 3 else 0
def noteE (s : Shelf) (id : Int) : Int := if mayS s = false then 2 else if noteIx s id < 0 then 4 else 0
def retitleE (s : Shelf) (id : Int) (t : ByteArray) : Int := if mayS s = false then 2 else if noteIx s id < 0 then 4 else if mayB t = false then 6 else if s.notes.any (titleB (noteOf s id).book t id) = true then 7 else 0
def moveE (s : Shelf) (id q : Int) : Int := if mayS s = false then 2 else if noteIx s id < 0 ∨ bookIx s q < 0 then 4 else if s.notes.any (titleB q (noteOf s id).name id) = true then 7 else 0
def tagE (s : Shelf) (id : Int) (t : ByteArray) : Int := if mayS s = false then 2 else if noteIx s id < 0 then 4 else if mayB t = false then 6 else if hasT t (noteOf s id).tags = true then 7 else if 4 ≤ ((noteOf s id).tags.length : Int) then 3 else 0
def untagE (s : Shelf) (id : Int) (t : ByteArray) : Int := if mayS s = false then 2 else if noteIx s id < 0 then 4 else if hasT t (noteOf s id).tags = false then 4 else 0
def appendE (s : Shelf) (id : Int) : Int := if mayS s = false then 2 else if noteIx s id < 0 then 4 else if 8 ≤ ((noteOf s id).sheets.length : Int) ∨ 4095 < s.ns then 3 else 0
def sheetE (s : Shelf) (id k : Int) : Int := if mayS s = false then 2 else if noteIx s id < 0 then 4 else if k < 0 ∨ ((noteOf s id).sheets.length : Int) ≤ k then 2 else 0
def sheetN (s : Shelf) (id k : Int) : Int := (noteOf s id).sheets.getD k.toNat 0
def makeR (s : Shelf) (t : ByteArray) : Res := resOf (makeE s t) { s with nb := s.nb + 1, books := s.books ++ [⟨s.nb, t⟩] } s.nb
def renameR (s : Shelf) (id : Int) (t : ByteArray) : Res := resOf (renameE s id t) { s with books := updB id t s.books } 0
def dropR (s : Shelf) (id : Int) : Res := resOf (dropE s id) { s with books := s.books.filter (fun b => !(b.id == id)), notes := s.notes.filter (fun n => !(n.book == id)) } 0
def addR (s : Shelf) (id : Int) (t : ByteArray) : Res := resOf (addE s id t) { s with nn := s.nn + 1, notes := s.notes ++ [⟨s.nn, id, t, [], []⟩] } s.nn
def retitleR (s : Shelf) (id : Int) (t : ByteArray) : Res := resOf (retitleE s id t) { s with notes := updN id (fun n => { n with name := t }) s.notes } 0
def moveR (s : Shelf) (id q : Int) : Res := resOf (moveE s id q) { s with notes := updN id (fun n => { n with book := q }) s.notes } 0
def discardR (s : Shelf) (id : Int) : Res := resOf (noteE s id) { s with notes := s.notes.filter (fun n => !(n.id == id)) } 0
def tagR (s : Shelf) (id : Int) (t : ByteArray) : Res := resOf (tagE s id t) { s with notes := updN id (fun n => { n with tags := insT t n.tags }) s.notes } 0
def untagR (s : Shelf) (id : Int) (t : ByteArray) : Res := resOf (untagE s id t) { s with notes := updN id (fun n => { n with tags := n.tags.filter (fun x => !(x.toList == t.toList)) }) s.notes } 0
def appendR (s : Shelf) (id : Int) : Res := resOf (appendE s id) { s with ns := s.ns + 1, notes := updN id (fun n => { n with sheets := n.sheets ++ [s.ns] }) s.notes } s.ns
def replaceR (s : Shelf) (id k : Int) : Res := resOf (sheetE s id k) s (sheetN s id k)
def removeR (s : Shelf) (id k : Int) : Res := resOf (sheetE s id k) { s with notes := updN id (fun n => { n with sheets := n.sheets.eraseIdx k.toNat }) s.notes } (sheetN s id k)
theorem makeE_zero {s : Shelf} {t : ByteArray} : makeE s t = 0 ↔ mayS s = true ∧ mayB t = true ∧ nameIx s.books t < 0 ∧ s.books.length < 6 ∧ s.nb < 65536 := by
  unfold makeE
  cases mayS s <;> cases mayB t <;> simp
  all_goals (repeat' split)
  all_goals (first | omega | (constructor <;> (intro h; omega)))
theorem renameE_zero {s : Shelf} {id : Int} {t : ByteArray} : renameE s id t = 0 ↔ mayS s = true ∧ 0 ≤ bookIx s id ∧ mayB t = true ∧ (nameIx s.books t < 0 ∨ nameIx s.books t = bookIx s id) := by
  unfold renameE
  cases mayS s <;> cases mayB t <;> simp
  all_goals (repeat' split)
  all_goals (first | omega | (constructor <;> (intro h; omega)))
theorem dropE_zero {s : Shelf} {id : Int} : dropE s id = 0 ↔ mayS s = true ∧ 0 ≤ bookIx s id := by
  unfold dropE
  cases mayS s <;> simp
theorem addE_zero {s : Shelf} {id : Int} {t : ByteArray} : addE s id t = 0 ↔ mayS s = true ∧ 0 ≤ bookIx s id ∧ mayB t = true ∧ s.notes.any (titleB id t 0) = false ∧ s.notes.length < 12 ∧ s.nn < 65536 := by
  unfold addE
  cases mayS s <;> cases mayB t <;> cases s.notes.any (titleB id t 0) <;> simp
  all_goals (repeat' split)
  all_goals (first | omega | (constructor <;> (intro h; omega)))
theorem noteE_zero {s : Shelf} {id : Int} : noteE s id = 0 ↔ mayS s = true ∧ 0 ≤ noteIx s id := by
  unfold noteE
  cases mayS s <;> simp
theorem retitleE_zero {s : Shelf} {id : Int} {t : ByteArray} : retitleE s id t = 0 ↔ mayS s = true ∧ 0 ≤ noteIx s id ∧ mayB t = true ∧ s.notes.any (titleB (noteOf s id).book t id) = false := by
  unfold retitleE
  cases mayS s <;> cases mayB t <;> cases s.notes.any (titleB (noteOf s id).book t id) <;> simp
  all_goals (repeat' split)
  all_goals (first | omega | (constructor <;> (intro h; omega)))
theorem moveE_zero {s : Shelf} {id q : Int} : moveE s id q = 0 ↔ mayS s = true ∧ 0 ≤ noteIx s id ∧ 0 ≤ bookIx s q ∧ s.notes.any (titleB q (noteOf s id).name id) = false := by
  unfold moveE
  cases mayS s <;> cases s.notes.any (titleB q (noteOf s id).name id) <;> simp
  all_goals (repeat' split)
  all_goals (first | omega | (constructor <;> (intro h; omega)))
theorem tagE_zero {s : Shelf} {id : Int} {t : ByteArray} : tagE s id t = 0 ↔ mayS s = true ∧ 0 ≤ noteIx s id ∧ mayB t = true ∧ hasT t (noteOf s id).tags = false ∧ (noteOf s id).tags.length < 4 := by
  unfold tagE
  cases mayS s <;> cases mayB t <;> cases hasT t (noteOf s id).tags <;> simp
  all_goals (repeat' split)
  all_goals (first | omega | (constructor <;> (intro h; omega)))
theorem untagE_zero {s : Shelf} {id : Int} {t : ByteArray} : untagE s id t = 0 ↔ mayS s = true ∧ 0 ≤ noteIx s id ∧ hasT t (noteOf s id).tags = true := by
  unfold untagE
  cases mayS s <;> cases hasT t (noteOf s id).tags <;> simp
theorem appendE_zero {s : Shelf} {id : Int} : appendE s id = 0 ↔ mayS s = true ∧ 0 ≤ noteIx s id ∧ (noteOf s id).sheets.length < 8 ∧ s.ns ≤ 4095 := by
  unfold appendE
  cases mayS s <;> simp
  all_goals (repeat' split)
  all_goals (first | omega | (constructor <;> (intro h; omega)))
theorem sheetE_zero {s : Shelf} {id k : Int} : sheetE s id k = 0 ↔ mayS s = true ∧ 0 ≤ noteIx s id ∧ 0 ≤ k ∧ k < (noteOf s id).sheets.length := by
  unfold sheetE
  cases mayS s <;> simp
  all_goals (repeat' split)
  all_goals (first | omega | (constructor <;> (intro h; omega)))
theorem mayB_small {s : ByteArray} (h : mayB s = true) : s.size < 256 := by
  unfold mayB at h
  simp only [Bool.and_eq_true, decide_eq_true_eq] at h
  omega
theorem MayP.tame {s : Shelf} (h : MayP s) : TameS s := by
  refine ⟨⟨by have := h.bl; omega, by have := h.nl; omega, fun b hb => by have := mayB_small (h.bmay b hb); omega, fun n hn => ?_⟩, fun n hn y hy => ?_⟩
  · have a1 := mayB_small (h.nmay n hn)
    have a2 := h.tl n hn
    have a3 := h.sl n hn
    exact ⟨by omega, by omega, by omega, fun t ht => by have := mayB_small (h.tmay n hn t ht); omega⟩
  · have := h.sid y (List.mem_flatMap.2 ⟨n, hn, hy⟩)
    have := h.ns
    unfold Wf; omega
/-! Where a note, or a book, stands. -/
theorem idx_get {α : Type} {p : α → Bool} : ∀ {l : List α} {i : Int}, idx p l = i → 0 ≤ i → ∃ x, l[i.toNat]? = some x ∧ p x = true
  | [], i, h, h0 => by unfold idx at h; omega
  | x :: l, i, h, h0 => by
    unfold idx at h
    split at h
    · rename_i hp; subst h; exact ⟨x, rfl, hp⟩
    · split at h
      · omega
      · obtain ⟨y, hy, hpy⟩ := idx_get (l := l) (p := p) rfl (show 0 ≤ idx p l by have := idx_bd p l; omega)
        refine ⟨y, ?_, hpy⟩
        rw [← h, show (idx p l + 1).toNat = (idx p l).toNat + 1 by have := idx_bd p l; omega]
        simpa using hy
theorem noteOf_get {s : Shelf} {id : Int} (h : 0 ≤ noteIx s id) : s.notes[(noteIx s id).toNat]? = some (noteOf s id) ∧ (noteOf s id).id = id := by
  obtain ⟨x, hx, hp⟩ := idx_get (p := fun x : Note => x.id == id) (l := s.notes) rfl h
  have e : noteOf s id = x := getD_of hx
  rw [e]
  exact ⟨hx, by simpa using hp⟩
theorem noteOf_mem {s : Shelf} {id : Int} (h : 0 ≤ noteIx s id) : noteOf s id ∈ s.notes := List.mem_of_getElem? (noteOf_get h).1
theorem inc_eq {α : Type} {f : α → Int} {l : List α} (h : l.Pairwise fun a b => f a < f b) {x y : α} (hx : x ∈ l) (hy : y ∈ l) (e : f x = f y) : x = y := by
  obtain ⟨i, hi⟩ := List.getElem?_of_mem hx
  obtain ⟨j, hj⟩ := List.getElem?_of_mem hy
  rcases Nat.lt_trichotomy i j with h1 | h1 | h1
  · have := pair_get h hi hj h1; omega
  · subst h1; rw [hi] at hj; exact Option.some.inj hj
  · have := pair_get h hj hi h1; omega
theorem MayP.note_eq {s : Shelf} (h : MayP s) {x y : Note} (hx : x ∈ s.notes) (hy : y ∈ s.notes) (e : x.id = y.id) : x = y := inc_eq (f := Note.id) h.ninc hx hy e
theorem MayP.book_eq {s : Shelf} (h : MayP s) {x y : Book} (hx : x ∈ s.books) (hy : y ∈ s.books) (e : x.id = y.id) : x = y := inc_eq (f := Book.id) h.binc hx hy e
theorem noteIx_of {s : Shelf} (h : MayP s) {i : Nat} {x : Note} (hx : s.notes[i]? = some x) : noteIx s x.id = i ∧ noteOf s x.id = x := by
  have e : noteIx s x.id = i := idx_some hx (by simp) fun j y hj hy => by
    have := pair_get h.ninc hy hx hj
    simp; omega
  refine ⟨e, ?_⟩
  unfold noteOf
  rw [e, Int.toNat_natCast, getD_of hx]
theorem noteOf_of {s : Shelf} (h : MayP s) {x : Note} (hx : x ∈ s.notes) : 0 ≤ noteIx s x.id ∧ noteOf s x.id = x := by
  obtain ⟨i, hi⟩ := List.getElem?_of_mem hx
  have := noteIx_of h hi
  exact ⟨by omega, this.2⟩
theorem noteIx_neg {s : Shelf} {id : Int} : noteIx s id < 0 ↔ ∀ x ∈ s.notes, x.id ≠ id := by
  unfold noteIx; rw [idx_neg]; simp
theorem bookIx_neg {s : Shelf} {id : Int} : bookIx s id < 0 ↔ ∀ x ∈ s.books, x.id ≠ id := by
  unfold bookIx; rw [idx_neg]; simp
theorem bookIx_pos {s : Shelf} {id : Int} : 0 ≤ bookIx s id ↔ ∃ x ∈ s.books, x.id = id := by
  unfold bookIx; rw [idx_nonneg]; simp
theorem noteIx_pos {s : Shelf} {id : Int} : 0 ≤ noteIx s id ↔ ∃ x ∈ s.notes, x.id = id := by
  unfold noteIx; rw [idx_nonneg]; simp
theorem nameIx_neg {l : List Book} {t : ByteArray} : nameIx l t < 0 ↔ ∀ x ∈ l, x.name ≠ t := by
  unfold nameIx; rw [idx_neg]
  exact ⟨fun h x hx => toList_ne.1 (h x hx), fun h x hx => toList_ne.2 (h x hx)⟩
/-- Stored where it stands. -/
theorem set_updN {l : List Note} (hu : l.Pairwise fun a b => a.id < b.id) {i : Nat} {x : Note} (hx : l[i]? = some x) (f : Note → Note) : l.set i (f x) = updN x.id f l := by
  apply List.ext_getElem?
  intro j
  have hi := (List.getElem?_eq_some_iff.1 hx).1
  unfold updN
  rw [List.getElem?_map, List.getElem?_set]
  by_cases e : i = j
  · subst e
    rw [if_pos rfl, if_pos hi, hx]; simp
  · rw [if_neg e]
    cases hy : l[j]? with
    | none => rfl
    | some y =>
      have : ¬ y.id = x.id := fun e2 => by
        rcases Nat.lt_or_gt_of_ne e with h | h
        · have := pair_get hu hx hy h; omega
        · have := pair_get hu hy hx h; omega
      simp [this]
theorem set_updB {l : List Book} (hu : l.Pairwise fun a b => a.id < b.id) {i : Nat} {x : Book} (hx : l[i]? = some x) (t : ByteArray) : l.set i ⟨x.id, t⟩ = updB x.id t l := by
  apply List.ext_getElem?
  intro j
  have hi := (List.getElem?_eq_some_iff.1 hx).1
  unfold updB
  rw [List.getElem?_map, List.getElem?_set]
  by_cases e : i = j
  · subst e
    rw [if_pos rfl, if_pos hi, hx]; simp
  · rw [if_neg e]
    cases hy : l[j]? with
    | none => rfl
    | some y =>
      have : ¬ y.id = x.id := fun e2 => by
        rcases Nat.lt_or_gt_of_ne e with h | h
        · have := pair_get hu hx hy h; omega
        · have := pair_get hu hy hx h; omega
      simp [this]
/-! A shelf that may be may be behind each change. -/
theorem flat_sub {α β : Type} (f : α → List β) {l m : List α} (h : l.Sublist m) : (l.flatMap f).Sublist (m.flatMap f) := by
  induction h with
  | slnil => simp
  | cons a _ ih => rw [List.flatMap_cons]; exact ih.trans (List.sublist_append_right _ _)
  | cons_cons a _ ih => rw [List.flatMap_cons, List.flatMap_cons]; exact (List.Sublist.refl _).append ih
theorem flat_sub2 {α β : Type} (f : α → List β) (g : α → α) : ∀ l : List α, (∀ x ∈ l, (f (g x)).Sublist (f x)) → ((l.map g).flatMap f).Sublist (l.flatMap f)
  | [], _ => by simp
  | x :: l, h => by
    rw [List.map_cons, List.flatMap_cons, List.flatMap_cons]
    exact (h x (by simp)).append (flat_sub2 f g l fun y hy => h y (by simp [hy]))
theorem MayP.subNotes {s : Shelf} (h : MayP s) {Y : List Note} (hs : Y.Sublist s.notes) : MayP { s with notes := Y } :=
  have m := fun n (hn : n ∈ Y) => hs.subset hn
  have f := flat_sub (fun n : Note => n.sheets) hs
  { nb := h.nb, nn := h.nn, ns := h.ns, bl := h.bl, nl := Nat.le_trans hs.length_le h.nl, bid := h.bid, bmay := h.bmay, binc := h.binc, bnew := h.bnew,
    nid := fun n hn => h.nid n (m n hn), nmay := fun n hn => h.nmay n (m n hn), nbook := fun n hn => h.nbook n (m n hn), ninc := h.ninc.sublist hs, nnew := h.nnew.sublist hs,
    tmay := fun n hn => h.tmay n (m n hn), tinc := fun n hn => h.tinc n (m n hn), tl := fun n hn => h.tl n (m n hn), sl := fun n hn => h.sl n (m n hn),
    sid := fun x hx => h.sid x (f.subset hx), snew := h.snew.sublist f }
theorem make_may {s : Shelf} {t : ByteArray} (h : makeE s t = 0) : MayP (makeR s t).s := by
  obtain ⟨h0, h1, h2, h3, h4⟩ := makeE_zero.1 h
  have p := mayS_iff.1 h0
  rw [makeR, resOf_ok h]
  have hn := nameIx_neg.1 h2
  have m : ∀ {b : Book}, b ∈ s.books ++ [⟨s.nb, t⟩] → b ∈ s.books ∨ b = ⟨s.nb, t⟩ := fun hb => by simpa using hb
  have pnb := p.nb
  exact { p with
    nb := by show 1 ≤ s.nb + 1 ∧ s.nb + 1 ≤ 65536; omega
    bl := by show (s.books ++ [_]).length ≤ 6; rw [List.length_append]; simp; omega
    bid := fun b hb => by
      show 1 ≤ b.id ∧ b.id ≤ s.nb + 1 - 1
      rcases m hb with hb | rfl
      · have := p.bid b hb; omega
      · show 1 ≤ s.nb ∧ s.nb ≤ _; omega
    bmay := fun b hb => by
      rcases m hb with hb | rfl
      · exact p.bmay b hb
      · exact h1
    binc := List.pairwise_append.2 ⟨p.binc, by simp, fun a ha b hb => by
      have e : b = ⟨s.nb, t⟩ := by simpa using hb
      have := p.bid a ha
      rw [e]; show a.id < s.nb; omega⟩
    bnew := List.pairwise_append.2 ⟨p.bnew, by simp, fun a ha b hb => by
      have e : b = ⟨s.nb, t⟩ := by simpa using hb
      rw [e]; exact hn a ha⟩
    nbook := fun n hn => by
      obtain ⟨b, hb, e⟩ := p.nbook n hn
      exact ⟨b, List.mem_append_left _ hb, e⟩ }
theorem rename_own {s : Shelf} {id : Int} {t : ByteArray} (h : renameE s id t = 0) : ∀ b ∈ s.books, b.name = t → b.id = id := by
  obtain ⟨h0, h1, h2, h3⟩ := renameE_zero.1 h
  have p := mayS_iff.1 h0
  intro b hb e
  rcases h3 with h3 | h3
  · exact absurd e (nameIx_neg.1 h3 b hb)
  · obtain ⟨x, hx, hp⟩ := idx_get (p := fun x : Book => x.id == id) (l := s.books) rfl h1
    have hx2 : s.books[(nameIx s.books t).toNat]? = some x := by rw [h3]; exact hx
    obtain ⟨y, hy, hq⟩ := idx_get (p := fun x : Book => x.name.toList == t.toList) (l := s.books) (i := nameIx s.books t) rfl (by rw [h3]; exact h1)
    rw [hx2] at hy
    obtain rfl := Option.some.inj hy
    have hq2 := toList_eq.1 hq
    have hid : x.id = id := by simpa using hp
    obtain ⟨j, hj⟩ := List.getElem?_of_mem hb
    rcases Nat.lt_trichotomy (bookIx s id).toNat j with h4 | h4 | h4
    · exact absurd (hq2.trans e.symm) (pair_get p.bnew hx hj h4)
    · rw [← h4] at hj
      have hx3 : s.books[(bookIx s id).toNat]? = some x := hx
      rw [hx3] at hj
      rw [← Option.some.inj hj]; exact hid
    · exact absurd (e.trans hq2.symm) (pair_get p.bnew hj hx h4)
theorem updB_mem {id : Int} {t : ByteArray} {l : List Book} {b : Book} (h : b ∈ updB id t l) : ∃ a ∈ l, b.id = a.id ∧ (a.id = id ∧ b.name = t ∨ a.id ≠ id ∧ b.name = a.name) := by
  unfold updB at h
  obtain ⟨a, ha, rfl⟩ := List.mem_map.1 h
  refine ⟨a, ha, ?_⟩
  by_cases e : a.id = id
  · simp [e]
  · simp [e]
theorem updB_id (id : Int) (t : ByteArray) (a : Book) : (if a.id = id then (⟨a.id, t⟩ : Book) else a).id = a.id := by split <;> rfl
theorem rename_may {s : Shelf} {id : Int} {t : ByteArray} (h : renameE s id t = 0) : MayP (renameR s id t).s := by
  obtain ⟨h0, h1, h2, h3⟩ := renameE_zero.1 h
  have p := mayS_iff.1 h0
  have ho := rename_own h
  rw [renameR, resOf_ok h]
  exact { p with
    bl := by show (updB id t s.books).length ≤ 6; unfold updB; rw [List.length_map]; exact p.bl
    bid := fun b hb => by
      obtain ⟨a, ha, e, -⟩ := updB_mem hb
      rw [e]; exact p.bid a ha
    bmay := fun b hb => by
      obtain ⟨a, ha, -, ⟨-, e⟩ | ⟨-, e⟩⟩ := updB_mem hb
      · rw [e]; exact h2
      · rw [e]; exact p.bmay a ha
    binc := by
      show (updB id t s.books).Pairwise _
      unfold updB
      rw [List.pairwise_map]
      exact p.binc.imp fun {a b} h => by rw [updB_id, updB_id]; exact h
    bnew := by
      show (updB id t s.books).Pairwise _
      unfold updB
      rw [List.pairwise_map]
      have := (p.bnew.and p.binc).imp_of_mem (S := fun a b => (if a.id = id then (⟨a.id, t⟩ : Book) else a).name ≠ (if b.id = id then (⟨b.id, t⟩ : Book) else b).name) fun {a b} ha hb ⟨hab, hlt⟩ => by
        by_cases e1 : a.id = id
        · have e2 : ¬ b.id = id := by omega
          rw [if_pos e1, if_neg e2]
          exact fun e => e2 (ho b hb e.symm)
        · by_cases e2 : b.id = id
          · rw [if_neg e1, if_pos e2]
            exact fun e => e1 (ho a ha e)
          · rw [if_neg e1, if_neg e2]; exact hab
      exact this
    nbook := fun n hn => by
      obtain ⟨b, hb, e⟩ := p.nbook n hn
      exact ⟨_, List.mem_map.2 ⟨b, hb, rfl⟩, by rw [updB_id]; exact e⟩ }
theorem drop_may {s : Shelf} {id : Int} (h : dropE s id = 0) : MayP (dropR s id).s := by
  obtain ⟨h0, h1⟩ := dropE_zero.1 h
  have p := mayS_iff.1 h0
  rw [dropR, resOf_ok h]
  have q := p.subNotes (Y := s.notes.filter (fun n => !(n.book == id))) List.filter_sublist
  have hs : (s.books.filter (fun b => !(b.id == id))).Sublist s.books := List.filter_sublist
  have m := fun b (hb : b ∈ s.books.filter (fun b => !(b.id == id))) => hs.subset hb
  exact { q with
    bl := Nat.le_trans hs.length_le p.bl
    bid := fun b hb => p.bid b (m b hb)
    bmay := fun b hb => p.bmay b (m b hb)
    binc := p.binc.sublist hs
    bnew := p.bnew.sublist hs
    nbook := fun n hn => by
      obtain ⟨hn1, hn2⟩ := List.mem_filter.1 hn
      obtain ⟨b, hb, e⟩ := p.nbook n hn1
      exact ⟨b, List.mem_filter.2 ⟨hb, by rw [e]; exact hn2⟩, e⟩ }
theorem discard_may {s : Shelf} {id : Int} (h : noteE s id = 0) : MayP (discardR s id).s := by
  obtain ⟨h0, h1⟩ := noteE_zero.1 h
  rw [discardR, resOf_ok h]
  exact (mayS_iff.1 h0).subNotes List.filter_sublist
theorem any_title {l : List Note} {q : Int} {t : ByteArray} {but : Int} : l.any (titleB q t but) = false ↔ ∀ x ∈ l, x.book = q → x.name = t → x.id = but := by
  rw [List.any_eq_false]
  constructor
  · intro h x hx e1 e2
    apply Classical.byContradiction
    intro e3
    exact h x hx (by unfold titleB; simp [e1, e2, e3])
  · intro h x hx e
    unfold titleB at e
    rw [Bool.and_eq_true, Bool.and_eq_true, beq_iff_eq, toList_eq, bne_iff_ne] at e
    exact e.2 (h x hx e.1.1 e.1.2)
theorem add_may {s : Shelf} {id : Int} {t : ByteArray} (h : addE s id t = 0) : MayP (addR s id t).s := by
  obtain ⟨h0, h1, h2, h3, h4, h5⟩ := addE_zero.1 h
  have p := mayS_iff.1 h0
  rw [addR, resOf_ok h]
  have ht := any_title.1 h3
  have pnn := p.nn
  have m : ∀ {b : Note}, b ∈ s.notes ++ [⟨s.nn, id, t, [], []⟩] → b ∈ s.notes ∨ b = ⟨s.nn, id, t, [], []⟩ := fun hb => by simpa using hb
  have fl : (s.notes ++ [(⟨s.nn, id, t, [], []⟩ : Note)]).flatMap (·.sheets) = s.notes.flatMap (·.sheets) := by simp
  exact { p with
    nn := by show 1 ≤ s.nn + 1 ∧ s.nn + 1 ≤ 65536; omega
    nl := by show (s.notes ++ [_]).length ≤ 12; rw [List.length_append]; simp; omega
    nid := fun b hb => by
      show 1 ≤ b.id ∧ b.id ≤ s.nn + 1 - 1
      rcases m hb with hb | rfl
      · have := p.nid b hb; omega
      · show 1 ≤ s.nn ∧ s.nn ≤ _; omega
    nmay := fun b hb => by
      rcases m hb with hb | rfl
      · exact p.nmay b hb
      · exact h2
    nbook := fun n hn => by
      rcases m hn with hn | rfl
      · exact p.nbook n hn
      · exact bookIx_pos.1 h1
    ninc := List.pairwise_append.2 ⟨p.ninc, by simp, fun a ha b hb => by
      have e : b = ⟨s.nn, id, t, [], []⟩ := by simpa using hb
      have := p.nid a ha
      rw [e]; show a.id < s.nn; omega⟩
    nnew := List.pairwise_append.2 ⟨p.nnew, by simp, fun a ha b hb => by
      have e : b = ⟨s.nn, id, t, [], []⟩ := by simpa using hb
      rw [e]
      rintro ⟨e1, e2⟩
      have := ht a ha e1 e2
      have := p.nid a ha
      omega⟩
    tmay := fun n hn => by
      rcases m hn with hn | rfl
      · exact p.tmay n hn
      · intro t ht; cases ht
    tinc := fun n hn => by
      rcases m hn with hn | rfl
      · exact p.tinc n hn
      · exact .nil
    tl := fun n hn => by
      rcases m hn with hn | rfl
      · exact p.tl n hn
      · simp
    sl := fun n hn => by
      rcases m hn with hn | rfl
      · exact p.sl n hn
      · simp
    sid := by show ∀ x ∈ (s.notes ++ [(⟨s.nn, id, t, [], []⟩ : Note)]).flatMap (·.sheets), _; rw [fl]; exact p.sid
    snew := by show ((s.notes ++ [(⟨s.nn, id, t, [], []⟩ : Note)]).flatMap (·.sheets)).Nodup; rw [fl]; exact p.snew }
theorem updN_mem {id : Int} {f : Note → Note} {l : List Note} {b : Note} (h : b ∈ updN id f l) : ∃ a, (a ∈ l ∧ a.id = id ∧ b = f a) ∨ (a ∈ l ∧ a.id ≠ id ∧ b = a) := by
  unfold updN at h
  obtain ⟨a, ha, rfl⟩ := List.mem_map.1 h
  by_cases e : a.id = id
  · exact ⟨a, .inl ⟨ha, e, by simp [e]⟩⟩
  · exact ⟨a, .inr ⟨ha, e, by simp [e]⟩⟩
/-- One note is changed: what is to be seen of it. -/
theorem MayP.upd {s : Shelf} (p : MayP s) (id : Int) (f : Note → Note) {ns' : Int} (hns : 1 ≤ ns' ∧ ns' ≤ 4096)
    (h1 : ∀ n ∈ s.notes, n.id = id → (f n).id = n.id ∧ mayB (f n).name = true ∧ (∃ b ∈ s.books, b.id = (f n).book) ∧ (∀ t ∈ (f n).tags, mayB t = true) ∧ (f n).tags.Pairwise (fun a b => ltS a b = true) ∧ (f n).tags.length ≤ 4 ∧ (f n).sheets.length ≤ 8)
    (h2 : ∀ n ∈ s.notes, n.id = id → ∀ y ∈ s.notes, y.id ≠ id → ¬ (y.book = (f n).book ∧ y.name = (f n).name))
    (h3 : ∀ x ∈ (updN id f s.notes).flatMap (·.sheets), 1 ≤ x ∧ x ≤ ns' - 1) (h4 : ((updN id f s.notes).flatMap (·.sheets)).Nodup) : MayP { s with ns := ns', notes := updN id f s.notes } := by
  have hid : ∀ n ∈ s.notes, (if n.id = id then f n else n).id = n.id := fun n hn => by
    by_cases e : n.id = id
    · rw [if_pos e]; exact (h1 n hn e).1
    · rw [if_neg e]
  have m : ∀ {P : Note → Prop}, (∀ n ∈ s.notes, n.id = id → P (f n)) → (∀ n ∈ s.notes, P n) → ∀ n ∈ updN id f s.notes, P n := fun a b n hn => by
    obtain ⟨x, ⟨hx, e, rfl⟩ | ⟨hx, e, rfl⟩⟩ := updN_mem hn
    · exact a x hx e
    · exact b _ hx
  exact { p with
    ns := hns
    nl := by show (updN id f s.notes).length ≤ 12; unfold updN; rw [List.length_map]; exact p.nl
    nid := m (fun n hn e => by rw [(h1 n hn e).1]; exact p.nid n hn) p.nid
    nmay := m (fun n hn e => (h1 n hn e).2.1) p.nmay
    nbook := m (fun n hn e => (h1 n hn e).2.2.1) p.nbook
    tmay := m (fun n hn e => (h1 n hn e).2.2.2.1) p.tmay
    tinc := m (fun n hn e => (h1 n hn e).2.2.2.2.1) p.tinc
    tl := m (fun n hn e => (h1 n hn e).2.2.2.2.2.1) p.tl
    sl := m (fun n hn e => (h1 n hn e).2.2.2.2.2.2) p.sl
    ninc := by
      show (updN id f s.notes).Pairwise _
      unfold updN
      rw [List.pairwise_map]
      exact p.ninc.imp_of_mem fun {a b} ha hb h => by rw [hid a ha, hid b hb]; exact h
    nnew := by
      show (updN id f s.notes).Pairwise _
      unfold updN
      rw [List.pairwise_map]
      exact (p.nnew.and p.ninc).imp_of_mem fun {a b} ha hb ⟨hab, hlt⟩ => by
        by_cases e1 : a.id = id
        · have e2 : ¬ b.id = id := by omega
          rw [if_pos e1, if_neg e2]
          exact fun e => h2 a ha e1 b hb e2 ⟨e.1.symm, e.2.symm⟩
        · by_cases e2 : b.id = id
          · rw [if_neg e1, if_pos e2]
            exact h2 b hb e2 a ha e1
          · rw [if_neg e1, if_neg e2]; exact hab
    sid := h3, snew := h4 }
theorem flat_same {id : Int} {f : Note → Note} (hf : ∀ n, (f n).sheets.Sublist n.sheets) (l : List Note) : ((updN id f l).flatMap (·.sheets)).Sublist (l.flatMap (·.sheets)) :=
  flat_sub2 (fun n : Note => n.sheets) _ l fun x _ => by
    show (if x.id = id then f x else x).sheets.Sublist x.sheets
    split
    · exact hf x
    · exact List.Sublist.refl _
theorem upd_same {s : Shelf} (p : MayP s) (id : Int) (f : Note → Note) (hf : ∀ n, (f n).sheets.Sublist n.sheets)
    (h1 : ∀ n ∈ s.notes, n.id = id → (f n).id = n.id ∧ mayB (f n).name = true ∧ (∃ b ∈ s.books, b.id = (f n).book) ∧ (∀ t ∈ (f n).tags, mayB t = true) ∧ (f n).tags.Pairwise (fun a b => ltS a b = true) ∧ (f n).tags.length ≤ 4)
    (h2 : ∀ n ∈ s.notes, n.id = id → ∀ y ∈ s.notes, y.id ≠ id → ¬ (y.book = (f n).book ∧ y.name = (f n).name)) : MayP { s with notes := updN id f s.notes } :=
  p.upd id f p.ns (fun n hn e => by
    obtain ⟨a, b, c, d, e1, e2⟩ := h1 n hn e
    exact ⟨a, b, c, d, e1, e2, Nat.le_trans (hf n).length_le (p.sl n hn)⟩) h2 (fun x hx => p.sid x ((flat_same hf _).subset hx)) (p.snew.sublist (flat_same hf _))
theorem other_new {s : Shelf} (p : MayP s) {n y : Note} (hn : n ∈ s.notes) (hy : y ∈ s.notes) (e : y.id ≠ n.id) : ¬ (y.book = n.book ∧ y.name = n.name) := by
  obtain ⟨i, hi⟩ := List.getElem?_of_mem hn
  obtain ⟨j, hj⟩ := List.getElem?_of_mem hy
  rcases Nat.lt_trichotomy i j with h | h | h
  · exact fun c => pair_get p.nnew hi hj h ⟨c.1.symm, c.2.symm⟩
  · subst h; rw [hi] at hj; exact absurd (by rw [Option.some.inj hj]) e
  · exact pair_get p.nnew hj hi h
theorem retitle_may {s : Shelf} {id : Int} {t : ByteArray} (h : retitleE s id t = 0) : MayP (retitleR s id t).s := by
  obtain ⟨h0, h1, h2, h3⟩ := retitleE_zero.1 h
  have p := mayS_iff.1 h0
  rw [retitleR, resOf_ok h]
  have ht := any_title.1 h3
  refine upd_same p id _ (fun n => List.Sublist.refl _) (fun n hn e => ⟨rfl, h2, p.nbook n hn, p.tmay n hn, p.tinc n hn, p.tl n hn⟩) fun n hn e y hy hne => ?_
  have : n = noteOf s id := p.note_eq hn (noteOf_mem h1) (by rw [e, (noteOf_get h1).2])
  rintro ⟨e1, e2⟩
  exact hne (ht y hy (by rw [e1, ← this]) e2)
theorem move_may {s : Shelf} {id q : Int} (h : moveE s id q = 0) : MayP (moveR s id q).s := by
  obtain ⟨h0, h1, h2, h3⟩ := moveE_zero.1 h
  have p := mayS_iff.1 h0
  rw [moveR, resOf_ok h]
  have ht := any_title.1 h3
  refine upd_same p id _ (fun n => List.Sublist.refl _) (fun n hn e => ⟨rfl, p.nmay n hn, bookIx_pos.1 h2, p.tmay n hn, p.tinc n hn, p.tl n hn⟩) fun n hn e y hy hne => ?_
  have : n = noteOf s id := p.note_eq hn (noteOf_mem h1) (by rw [e, (noteOf_get h1).2])
  rintro ⟨e1, e2⟩
  exact hne (ht y hy e1 (by rw [e2, ← this]))
theorem hasT_iff {t : ByteArray} {l : List ByteArray} : hasT t l = true ↔ t ∈ l := by
  unfold hasT
  rw [List.any_eq_true]
  constructor
  · rintro ⟨x, hx, e⟩; rw [← toList_eq.1 e]; exact hx
  · intro h; exact ⟨t, h, by simp⟩
theorem hasT_no {t : ByteArray} {l : List ByteArray} : hasT t l = false ↔ t ∉ l := by
  rw [← hasT_iff]; cases hasT t l <;> simp
theorem insT_mem {t x : ByteArray} : ∀ {l : List ByteArray}, x ∈ insT t l ↔ x = t ∨ x ∈ l
  | [] => by simp [insT]
  | y :: l => by
    unfold insT
    split
    · rw [List.mem_cons, insT_mem (l := l), List.mem_cons]
      constructor
      · rintro (h | h | h)
        · exact .inr (.inl h)
        · exact .inl h
        · exact .inr (.inr h)
      · rintro (h | h | h)
        · exact .inr (.inl h)
        · exact .inl h
        · exact .inr (.inr h)
    · rw [List.mem_cons]
theorem insT_length (t : ByteArray) : ∀ l : List ByteArray, (insT t l).length = l.length + 1
  | [] => rfl
  | y :: l => by
    unfold insT
    split
    · rw [List.length_cons, insT_length t l, List.length_cons]
    · rfl
theorem insT_inc {t : ByteArray} : ∀ {l : List ByteArray}, l.Pairwise (fun a b => ltS a b = true) → t ∉ l → (insT t l).Pairwise (fun a b => ltS a b = true)
  | [], _, _ => by simp [insT]
  | y :: l, h, hn => by
    obtain ⟨h1, h2⟩ := List.pairwise_cons.1 h
    unfold insT
    split
    · rename_i hlt
      refine List.pairwise_cons.2 ⟨fun z hz => ?_, insT_inc h2 (fun hh => hn (List.mem_cons_of_mem _ hh))⟩
      rcases insT_mem.1 hz with rfl | hz
      · exact hlt
      · exact h1 z hz
    · rename_i hlt
      have hyt : ltS t y = true := by
        cases e : ltS t y with
        | true => rfl
        | false => exact absurd (ltS_total e (by simpa using hlt)) (fun e => hn (by rw [e]; simp))
      refine List.pairwise_cons.2 ⟨fun z hz => ?_, h⟩
      rcases List.mem_cons.1 hz with rfl | hz
      · exact hyt
      · exact ltS_trans hyt (h1 z hz)
theorem tag_may {s : Shelf} {id : Int} {t : ByteArray} (h : tagE s id t = 0) : MayP (tagR s id t).s := by
  obtain ⟨h0, h1, h2, h3, h4⟩ := tagE_zero.1 h
  have p := mayS_iff.1 h0
  rw [tagR, resOf_ok h]
  refine upd_same p id _ (fun n => List.Sublist.refl _) (fun n hn e => ?_) fun n hn e y hy hne => other_new (n := n) p hn hy (by rw [e]; exact hne)
  have en : n = noteOf s id := p.note_eq hn (noteOf_mem h1) (by rw [e, (noteOf_get h1).2])
  refine ⟨rfl, p.nmay n hn, p.nbook n hn, fun x hx => ?_, insT_inc (p.tinc n hn) (by rw [en]; exact hasT_no.1 h3), ?_⟩
  · rcases insT_mem.1 hx with rfl | hx
    · exact h2
    · exact p.tmay n hn x hx
  · show (insT t n.tags).length ≤ 4
    rw [insT_length, en]; omega
theorem untag_may {s : Shelf} {id : Int} {t : ByteArray} (h : untagE s id t = 0) : MayP (untagR s id t).s := by
  obtain ⟨h0, h1, h2⟩ := untagE_zero.1 h
  have p := mayS_iff.1 h0
  rw [untagR, resOf_ok h]
  refine upd_same p id _ (fun n => List.Sublist.refl _) (fun n hn e => ?_) fun n hn e y hy hne => other_new (n := n) p hn hy (by rw [e]; exact hne)
  have hs : (n.tags.filter (fun x => !(x.toList == t.toList))).Sublist n.tags := List.filter_sublist
  exact ⟨rfl, p.nmay n hn, p.nbook n hn, fun x hx => p.tmay n hn x (hs.subset hx), (p.tinc n hn).sublist hs, Nat.le_trans hs.length_le (p.tl n hn)⟩
theorem remove_may {s : Shelf} {id k : Int} (h : sheetE s id k = 0) : MayP (removeR s id k).s := by
  obtain ⟨h0, h1, h2⟩ := sheetE_zero.1 h
  have p := mayS_iff.1 h0
  rw [removeR, resOf_ok h]
  exact upd_same p id _ (fun n => List.eraseIdx_sublist _ _) (fun n hn e => ⟨rfl, p.nmay n hn, p.nbook n hn, p.tmay n hn, p.tinc n hn, p.tl n hn⟩) fun n hn e y hy hne => other_new (n := n) p hn hy (by rw [e]; exact hne)
theorem append_flat {id x : Int} : ∀ {l : List Note}, l.Pairwise (fun a b => a.id < b.id) → (∃ n ∈ l, n.id = id) → ((updN id (fun n => { n with sheets := n.sheets ++ [x] }) l).flatMap (·.sheets)).Perm (x :: l.flatMap (·.sheets))
  | [], _, h => by obtain ⟨n, hn, -⟩ := h; cases hn
  | y :: l, h, hh => by
    obtain ⟨h1, h2⟩ := List.pairwise_cons.1 h
    unfold updN
    rw [List.map_cons, List.flatMap_cons, List.flatMap_cons]
    by_cases e : y.id = id
    · rw [if_pos e]
      have : (l.map fun n => if n.id = id then { n with sheets := n.sheets ++ [x] } else n) = l := by
        conv => rhs; rw [← List.map_id l]
        apply List.map_congr_left
        intro n hn
        have := h1 n hn
        rw [if_neg (by omega)]; rfl
      rw [this]
      show (y.sheets ++ [x] ++ l.flatMap (·.sheets)).Perm _
      rw [List.append_assoc]
      exact List.perm_middle
    · rw [if_neg e]
      have ih := append_flat h2 (id := id) (x := x) (by
        obtain ⟨n, hn, e2⟩ := hh
        rcases List.mem_cons.1 hn with rfl | hn
        · exact absurd e2 e
        · exact ⟨n, hn, e2⟩)
      exact (ih.append_left y.sheets).trans List.perm_middle
theorem append_may {s : Shelf} {id : Int} (h : appendE s id = 0) : MayP (appendR s id).s := by
  obtain ⟨h0, h1, h2, h3⟩ := appendE_zero.1 h
  have p := mayS_iff.1 h0
  rw [appendR, resOf_ok h]
  have pf := append_flat (id := id) (x := s.ns) p.ninc (noteIx_pos.1 h1)
  have pns := p.ns
  refine p.upd id _ (ns' := s.ns + 1) ⟨by omega, by omega⟩ (fun n hn e => ?_) (fun n hn e y hy hne => other_new (n := n) p hn hy (by rw [e]; exact hne)) (fun x hx => ?_) ?_
  · have en : n = noteOf s id := p.note_eq hn (noteOf_mem h1) (by rw [e, (noteOf_get h1).2])
    refine ⟨rfl, p.nmay n hn, p.nbook n hn, p.tmay n hn, p.tinc n hn, p.tl n hn, ?_⟩
    show (n.sheets ++ [s.ns]).length ≤ 8
    rw [List.length_append, en]; simp; omega
  · rcases List.mem_cons.1 (pf.mem_iff.1 hx) with rfl | hx
    · omega
    · have := p.sid x hx; omega
  · rw [pf.nodup_iff, List.nodup_cons]
    exact ⟨fun hm => by have := p.sid _ hm; omega, p.snew⟩
end Go.Proofs.YtgpjcgcecahddaaGreatDoor
set_option linter.unusedVariables false
set_option linter.unusedSimpArgs false
namespace Go.Proofs.YtgpjcgcecahddaaGreatDoor
open Go.RowKit Go.Lib
def insI (x : Item) : List Item → List Item
  | [] => [x]
  | y :: l => if ltS y.name x.name then y :: insI x l else x :: y :: l
def sortI (l : List Item) : List Item := l.foldl (fun acc x => insI x acc) []
def itemsB (s : Shelf) : List Item := s.books.map fun b => ⟨b.id, b.name⟩
def itemsN (s : Shelf) (id : Int) : List Item := (s.notes.filter fun n => n.book == id).map fun n => ⟨n.id, n.name⟩
def booksI (s : Shelf) : List Item := if mayS s = true then sortI (itemsB s) else []
def notesI (s : Shelf) (id : Int) : List Item := if dropE s id = 0 then sortI (itemsN s id) else []
theorem insI_perm (x : Item) : ∀ l : List Item, (insI x l).Perm (x :: l)
  | [] => .refl _
  | y :: l => by
    unfold insI
    split
    · exact (List.Perm.cons y (insI_perm x l)).trans (List.Perm.swap x y l)
    · exact .refl _
theorem insI_inc {x : Item} : ∀ {l : List Item}, l.Pairwise (fun a b => ltS a.name b.name = true) → (∀ y ∈ l, y.name ≠ x.name) → (insI x l).Pairwise (fun a b => ltS a.name b.name = true)
  | [], _, _ => by simp [insI]
  | y :: l, h, hn => by
    obtain ⟨h1, h2⟩ := List.pairwise_cons.1 h
    unfold insI
    split
    · rename_i hlt
      refine List.pairwise_cons.2 ⟨fun z hz => ?_, insI_inc h2 fun z hz => hn z (List.mem_cons_of_mem _ hz)⟩
      rcases List.mem_cons.1 ((insI_perm x l).mem_iff.1 hz) with rfl | hz
      · exact hlt
      · exact h1 z hz
    · rename_i hlt
      have hxy : ltS x.name y.name = true := by
        cases e : ltS x.name y.name with
        | true => rfl
        | false => exact absurd (ltS_total (by simpa using hlt) e) (hn y (by simp))
      refine List.pairwise_cons.2 ⟨fun z hz => ?_, h⟩
      rcases List.mem_cons.1 hz with rfl | hz
      · exact hxy
      · exact ltS_trans hxy (h1 z hz)
theorem fold_perm : ∀ (l acc : List Item), (l.foldl (fun acc x => insI x acc) acc).Perm (l ++ acc)
  | [], acc => .refl _
  | x :: l, acc => by
    rw [List.foldl_cons]
    refine (fold_perm l _).trans ?_
    refine ((insI_perm x acc).append_left l).trans ?_
    exact List.perm_middle
theorem fold_inc : ∀ (l acc : List Item), acc.Pairwise (fun a b => ltS a.name b.name = true) → (∀ x ∈ l, ∀ y ∈ acc, y.name ≠ x.name) → (l.Pairwise fun a b => a.name ≠ b.name) → (l.foldl (fun acc x => insI x acc) acc).Pairwise (fun a b => ltS a.name b.name = true)
  | [], acc, h, _, _ => h
  | x :: l, acc, h, hn, hd => by
    obtain ⟨d1, d2⟩ := List.pairwise_cons.1 hd
    rw [List.foldl_cons]
    refine fold_inc l _ (insI_inc h fun y hy => hn x (by simp) y hy) (fun z hz y hy => ?_) d2
    rcases List.mem_cons.1 ((insI_perm x acc).mem_iff.1 hy) with rfl | hy
    · exact d1 z hz
    · exact hn z (List.mem_cons_of_mem _ hz) y hy
theorem sortI_perm (l : List Item) : (sortI l).Perm l := by
  have := fold_perm l []
  rw [List.append_nil] at this; exact this
theorem sortI_inc {l : List Item} (h : l.Pairwise fun a b => a.name ≠ b.name) : (sortI l).Pairwise (fun a b => ltS a.name b.name = true) := fold_inc l [] .nil (fun _ _ _ hy => by cases hy) h
/-- Strictly rising lists of the same elements are one. -/
theorem strict_eq {α : Type} {R : α → α → Prop} (ha : ∀ x y, R x y → R y x → False) : ∀ {l m : List α}, l.Perm m → l.Pairwise R → m.Pairwise R → l = m
  | [], m, hp, _, _ => (List.nil_perm.1 hp).symm
  | x :: l, [], hp, _, _ => by have := hp.length_eq; simp at this
  | x :: l, y :: m, hp, h1, h2 => by
    obtain ⟨a1, a2⟩ := List.pairwise_cons.1 h1
    obtain ⟨b1, b2⟩ := List.pairwise_cons.1 h2
    have e : x = y := by
      apply Classical.byContradiction
      intro hne
      have hx : x ∈ m := by
        rcases List.mem_cons.1 (hp.mem_iff.1 (List.mem_cons_self ..)) with h | h
        · exact absurd h hne
        · exact h
      have hy : y ∈ l := by
        rcases List.mem_cons.1 (hp.mem_iff.2 (List.mem_cons_self ..)) with h | h
        · exact absurd h.symm hne
        · exact h
      exact ha x y (a1 y hy) (b1 x hx)
    subst e
    rw [strict_eq ha hp.cons_inv a2 b2]
theorem names_ne {l m : List Item} (hp : l.Perm m) (h : m.Pairwise fun a b => a.name ≠ b.name) : l.Pairwise fun a b => a.name ≠ b.name :=
  (hp.pairwise_iff (fun h e => h e.symm)).2 h
theorem strict_of {l : List Item} (h : l.Pairwise fun a b => ltS b.name a.name = false) (hn : l.Pairwise fun a b => a.name ≠ b.name) : l.Pairwise fun a b => ltS a.name b.name = true :=
  (h.and hn).imp fun {a b} ⟨h1, h2⟩ => by
    cases e : ltS a.name b.name with
    | true => rfl
    | false => exact absurd (ltS_total e h1) h2
/-- What is sorted is the one sorted list. -/
theorem sortI_of {l l' : List Item} (hp : l'.Perm l) (hs : l'.Pairwise fun a b => ltS b.name a.name = false) (hn : l.Pairwise fun a b => a.name ≠ b.name) : l' = sortI l :=
  strict_eq (R := fun a b : Item => ltS a.name b.name = true) (fun x y h1 h2 => by rw [ltS_asymm h1] at h2; cases h2) (hp.trans (sortI_perm l).symm) (strict_of hs (names_ne hp hn)) (sortI_inc hn)
theorem itemsB_new {s : Shelf} (p : MayP s) : (itemsB s).Pairwise fun a b => a.name ≠ b.name := by
  unfold itemsB
  rw [List.pairwise_map]
  exact p.bnew
theorem itemsN_new {s : Shelf} (p : MayP s) (id : Int) : (itemsN s id).Pairwise fun a b => a.name ≠ b.name := by
  unfold itemsN
  rw [List.pairwise_map]
  have := (p.nnew.sublist (List.filter_sublist (p := fun n : Note => n.book == id)))
  refine this.imp_of_mem fun {a b} ha hb h e => h ⟨?_, e⟩
  have h1 := (List.mem_filter.1 ha).2
  have h2 := (List.mem_filter.1 hb).2
  simp only [beq_iff_eq] at h1 h2
  omega
end Go.Proofs.YtgpjcgcecahddaaGreatDoor
set_option linter.unusedVariables false
set_option linter.unusedSimpArgs false
namespace Go.Proofs.YtgpjcgcecahddaaGreatDoor
open Go.RowKit Go.Lib
/-- Bytes between blanks. -/
def partsL : List UInt8 → List (List UInt8)
  | [] => [[]]
  | c :: r => if c = 32 then [] :: partsL r else (match partsL r with | [] => [[c]] | p :: ps => (c :: p) :: ps)
theorem partsL_ne : ∀ l, partsL l ≠ []
  | [] => by simp [partsL]
  | c :: r => by
    unfold partsL
    split
    · simp
    · split <;> simp
theorem partsL_word : ∀ {a : List UInt8}, 32 ∉ a → partsL a = [a]
  | [], _ => rfl
  | c :: r, h => by
    have h1 : c ≠ 32 := fun e => h (by rw [e]; simp)
    have h2 := partsL_word (a := r) (fun e => h (List.mem_cons_of_mem _ e))
    rw [partsL, if_neg h1, h2]
theorem partsL_blank : ∀ (a b : List UInt8), partsL (a ++ 32 :: b) = partsL a ++ partsL b
  | [], b => by simp [partsL]
  | c :: a, b => by
    have ih := partsL_blank a b
    rw [List.cons_append, partsL, partsL, ih]
    split
    · rfl
    · have := partsL_ne a
      cases h : partsL a with
      | nil => exact absurd h this
      | cons p ps => rfl
theorem partsL_no : ∀ (l p : List UInt8), p ∈ partsL l → 32 ∉ p
  | [], p, h => by simp [partsL] at h; rw [h]; simp
  | c :: r, p, h => by
    rw [partsL] at h
    have ih := partsL_no r
    split at h
    · rcases List.mem_cons.1 h with rfl | h
      · simp
      · exact ih p h
    · rename_i hc
      split at h
      · rw [List.mem_singleton] at h; rw [h]; simp; exact fun e => hc e.symm
      · rename_i q ps e
        rcases List.mem_cons.1 h with rfl | h
        · have := ih q (by rw [e]; simp)
          simp; exact ⟨fun e => hc e.symm, this⟩
        · exact ih p (by rw [e]; exact List.mem_cons_of_mem _ h)
theorem occ32 (s : List UInt8) (i : Nat) : occAt s [32] i = true ↔ s[i]? = some 32 := by
  unfold occAt
  rw [List.isPrefixOf_iff_prefix]
  constructor
  · rintro ⟨r, hr⟩
    have : (s.drop i)[0]? = some 32 := by rw [← hr]; rfl
    simpa using this
  · intro h
    obtain ⟨h1, h2⟩ := List.getElem?_eq_some_iff.1 h
    exact ⟨s.drop (i + 1), by rw [List.drop_eq_getElem_cons h1, h2]; rfl⟩
/-- The library's split is ours. -/
theorem split_parts : ∀ (n : Nat) (s : List UInt8), s.length ≤ n → splitK [32] 0 (count s [32]) s = partsL s
  | n, s, hn => by
    rcases index_spec s [32] with ⟨h, hno⟩ | ⟨i, h, hi, ho, hno⟩
    · rw [count_miss h, splitK, partsL_word]
      intro hm
      obtain ⟨j, hj⟩ := List.mem_iff_getElem?.1 hm
      have := hno j (by have := (List.getElem?_eq_some_iff.1 hj).1; omega)
      rw [(occ32 s j).2 hj] at this; cases this
    · have hs := (occ32 s i).1 ho
      obtain ⟨h1, h2⟩ := List.getElem?_eq_some_iff.1 hs
      have hni : (index s [32] == -1) = false := by rw [h, beq_eq_false_iff_ne]; omega
      have e : s = s.take i ++ 32 :: s.drop (i + 1) := by
        conv => lhs; rw [← List.take_append_drop i s, List.drop_eq_getElem_cons h1, h2]
      have hw : 32 ∉ s.take i := by
        intro hm
        obtain ⟨j, hj⟩ := List.mem_iff_getElem?.1 hm
        have hj' := (List.getElem?_eq_some_iff.1 hj).1
        rw [List.length_take] at hj'
        rw [List.getElem?_take, if_pos (by omega)] at hj
        have := hno j (by omega)
        rw [(occ32 s j).2 hj] at this; cases this
      have hc := count_hit (s := s) (sub := [32]) (by simp) h
      rw [hc, Nat.add_comm, splitK, if_neg (by rw [hni]; simp), h]
      cases n with
      | zero => omega
      | succ n =>
        have ih := split_parts n (s.drop (i + 1)) (by rw [List.length_drop]; omega)
        show s.take (i + 0) :: splitK [32] 0 (count (s.drop (i + 1)) [32]) (s.drop (i + 1)) = _
        rw [ih]
        conv => rhs; rw [e, partsL_blank, partsL_word hw]
        rfl
def bytesB (l : List UInt8) : ByteArray := ⟨l.toArray⟩
theorem bytesB_list (l : List UInt8) : (bytesB l).data.toList = l := rfl
theorem bytesB_of (s : ByteArray) : bytesB s.data.toList = s := ByteArray.ext (by rw [bytesB])
theorem bytesB_inj {a b : List UInt8} (h : bytesB a = bytesB b) : a = b := by rw [← bytesB_list a, h, bytesB_list]
theorem sizeL_list (s : ByteArray) : s.size = s.data.toList.length := rfl
theorem bytesB_size (l : List UInt8) : (bytesB l).size = l.length := by rw [sizeL_list, bytesB_list]
def parts (s : ByteArray) : List ByteArray := (partsL s.data.toList).map bytesB
theorem splitB_parts (s sep : ByteArray) (hs : sep.data.toList = [32]) : splitB sep 0 (countB s sep) s = parts s := by
  have h := splitB_data sep 0 (countB s sep) s
  have hc : countB s sep = count s.data.toList [32] := by rw [← hs]; try rfl
  rw [hs, hc, split_parts _ s.data.toList (Nat.le_refl _)] at h
  unfold parts
  rw [hc, ← h, List.map_map]
  exact (List.map_id _).symm.trans (List.map_congr_left fun x _ => (bytesB_of x).symm)
/-- A text among rising ones, once. -/
def intoT (x : ByteArray) : List ByteArray → List ByteArray
  | [] => [x]
  | y :: l => if ltS y x then y :: intoT x l else if ltS x y then x :: y :: l else y :: l
def Inc (l : List ByteArray) : Prop := l.Pairwise fun a b => ltS a b = true
theorem intoT_mem {x y : ByteArray} : ∀ {l : List ByteArray}, y ∈ intoT x l ↔ y = x ∨ y ∈ l
  | [] => by simp [intoT]
  | z :: l => by
    unfold intoT
    split
    · rw [List.mem_cons, List.mem_cons, intoT_mem (l := l)]
      exact ⟨fun h => by rcases h with h | h | h <;> simp [h], fun h => by rcases h with h | h | h <;> simp [h]⟩
    · split
      · simp
      · rename_i h1 h2
        have e : z = x := ltS_total (by simpa using h1) (by simpa using h2)
        subst e
        rw [List.mem_cons]
        exact ⟨fun h => .inr h, fun h => by rcases h with h | h <;> first | exact .inl h | exact h⟩
theorem intoT_inc {x : ByteArray} : ∀ {l : List ByteArray}, Inc l → Inc (intoT x l)
  | [], _ => by simp [intoT, Inc]
  | z :: l, h => by
    obtain ⟨h1, h2⟩ := List.pairwise_cons.1 h
    unfold intoT
    split
    · rename_i hz
      refine List.pairwise_cons.2 ⟨fun y hy => ?_, intoT_inc h2⟩
      rcases intoT_mem.1 hy with rfl | hy
      · exact hz
      · exact h1 y hy
    · split
      · rename_i hx
        refine List.pairwise_cons.2 ⟨fun y hy => ?_, h⟩
        rcases List.mem_cons.1 hy with rfl | hy
        · exact hx
        · exact ltS_trans hx (h1 y hy)
      · exact h
/-- Rising lists of the same texts are one. -/
theorem inc_one : ∀ {l m : List ByteArray}, Inc l → Inc m → (∀ x, x ∈ l ↔ x ∈ m) → l = m
  | [], [], _, _, _ => rfl
  | [], y :: m, _, _, h => absurd ((h y).2 (by simp)) (by simp)
  | x :: l, [], _, _, h => absurd ((h x).1 (by simp)) (by simp)
  | x :: l, y :: m, h1, h2, h => by
    obtain ⟨a1, a2⟩ := List.pairwise_cons.1 h1
    obtain ⟨b1, b2⟩ := List.pairwise_cons.1 h2
    have e : x = y := by
      rcases List.mem_cons.1 ((h x).1 (by simp)) with e | hx
      · exact e
      rcases List.mem_cons.1 ((h y).2 (by simp)) with e | hy
      · exact e.symm
      have := ltS_asymm (b1 x hx)
      rw [a1 y hy] at this; cases this
    subst e
    have nl : x ∉ l := fun hx => by have := a1 x hx; rw [ltS_irrefl] at this; cases this
    have nm : x ∉ m := fun hx => by have := b1 x hx; rw [ltS_irrefl] at this; cases this
    rw [inc_one a2 b2 fun z => ⟨fun hz => ?_, fun hz => ?_⟩]
    · rcases List.mem_cons.1 ((h z).1 (List.mem_cons_of_mem _ hz)) with rfl | hz'
      · exact absurd hz nl
      · exact hz'
    · rcases List.mem_cons.1 ((h z).2 (List.mem_cons_of_mem _ hz)) with rfl | hz'
      · exact absurd hz nm
      · exact hz'
def gather (l : List ByteArray) : List ByteArray := l.foldl (fun acc x => intoT x acc) []
theorem gather_fold : ∀ (l acc : List ByteArray), Inc acc → Inc (l.foldl (fun acc x => intoT x acc) acc) ∧ ∀ x, x ∈ l.foldl (fun acc x => intoT x acc) acc ↔ x ∈ l ∨ x ∈ acc
  | [], acc, h => ⟨h, fun x => by simp⟩
  | y :: l, acc, h => by
    obtain ⟨h1, h2⟩ := gather_fold l (intoT y acc) (intoT_inc h)
    refine ⟨h1, fun x => ?_⟩
    rw [List.foldl_cons, h2, intoT_mem, List.mem_cons]
    exact ⟨fun h => by rcases h with h | h | h <;> simp [h], fun h => by rcases h with (h | h) | h <;> simp [h]⟩
theorem gather_inc (l : List ByteArray) : Inc (gather l) := (gather_fold l [] .nil).1
theorem gather_mem {l : List ByteArray} {x : ByteArray} : x ∈ gather l ↔ x ∈ l := by
  unfold gather; rw [(gather_fold l [] .nil).2]; simp
theorem gather_next (l : List ByteArray) (x : ByteArray) : gather (l ++ [x]) = intoT x (gather l) := by unfold gather; rw [List.foldl_append]; rfl
def full (s : ByteArray) : Bool := decide (s.size ≠ 0)
/-- A name's words. -/
def words (s : ByteArray) : List ByteArray := gather ((parts s).filter full)
theorem words_inc (s : ByteArray) : Inc (words s) := gather_inc _
theorem words_mem {s w : ByteArray} : w ∈ words s ↔ w ∈ parts s ∧ w.size ≠ 0 := by
  unfold words; rw [gather_mem, List.mem_filter]; simp [full]
theorem parts_mem {s w : ByteArray} : w ∈ parts s ↔ w.data.toList ∈ partsL s.data.toList := by
  unfold parts; rw [List.mem_map]
  exact ⟨fun ⟨l, h1, h2⟩ => by rw [← h2, bytesB_list]; exact h1, fun h => ⟨_, h, bytesB_of w⟩⟩
theorem part_le : ∀ (l p : List UInt8), p ∈ partsL l → p.length ≤ l.length
  | [], p, h => by simp [partsL] at h; simp [h]
  | c :: r, p, h => by
    rw [partsL] at h
    split at h
    · rcases List.mem_cons.1 h with rfl | h
      · simp
      · have := part_le r p h; simp; omega
    · split at h
      · rw [List.mem_singleton] at h; subst h; simp
      · rename_i q ps e
        rcases List.mem_cons.1 h with rfl | h
        · have := part_le r q (by rw [e]; simp); simp; omega
        · have := part_le r p (by rw [e]; exact List.mem_cons_of_mem _ h); simp; omega
theorem parts_len : ∀ l : List UInt8, (partsL l).length ≤ l.length + 1
  | [] => by simp [partsL]
  | c :: r => by
    have := parts_len r
    rw [partsL]
    split
    · simp; omega
    · split
      · simp
      · rename_i e; rw [e] at this; simp at *; omega
end Go.Proofs.YtgpjcgcecahddaaGreatDoor
set_option linter.unusedVariables false
set_option linter.unusedSimpArgs false
namespace Go.Proofs.YtgpjcgcecahddaaGreatDoor
open Go.RowKit Go.Lib
structure Term where
  turned : Bool
  kind : Int
  text : ByteArray
instance : Inhabited Term := ⟨⟨false, 0, ⟨#[]⟩⟩⟩
/-- A term behind its '!'. -/
def bare (t : Bool) : List UInt8 → Option Term
  | [] => none
  | c :: x => if c = 33 then none else if c = 35 then (if x = [] then none else some ⟨t, 1, bytesB x⟩) else if c = 47 then (if x = [] then none else some ⟨t, 2, bytesB x⟩) else some ⟨t, 0, bytesB (c :: x)⟩
def termL : List UInt8 → Option Term
  | [] => none
  | c :: r => if c = 33 then bare true r else bare false (c :: r)
def termsL : List (List UInt8) → Option (List Term)
  | [] => some []
  | p :: ps => match termL p with
    | none => none
    | some t => match termsL ps with
      | none => none
      | some l => some (t :: l)
/-- A question's terms; none: it is none. -/
def terms (q : ByteArray) : Option (List Term) := if 200 < q.size then none else if q.size = 0 then some [] else termsL (partsL q.data.toList)
def begins (w x : ByteArray) : Bool := x.data.toList.isPrefixOf w.data.toList
def bookB (n : Note) (x : ByteArray) (b : Book) : Bool := b.id == n.book && b.name.toList == x.toList
def isB (s : Shelf) (n : Note) (t : Term) : Bool := if t.kind = 1 then hasT t.text n.tags else if t.kind = 2 then s.books.any (bookB n t.text) else (words n.name).any fun w => begins w t.text
/-- Is a term so of a note? -/
def soB (s : Shelf) (n : Note) (t : Term) : Bool := isB s n t != t.turned
def itemOf (n : Note) : Item := ⟨n.id, n.name⟩
def lt2 (a b : Item) : Bool := ltS a.name b.name || (a.name.toList == b.name.toList && decide (a.id < b.id))
/-- Behind all that are not greater. -/
def ins2 (x : Item) : List Item → List Item
  | [] => [x]
  | y :: l => if ltS x.name y.name then x :: y :: l else y :: ins2 x l
def sort2 (l : List Item) : List Item := l.foldl (fun acc x => ins2 x acc) []
def hits (s : Shelf) (l : List Term) : List Note := s.notes.filter fun n => l.all (soB s n)
def findE (s : Shelf) (q : ByteArray) : Int := if mayS s = false then 2 else if terms q = none then 5 else 0
def findI (s : Shelf) (q : ByteArray) : List Item := if mayS s = true then (match terms q with | none => [] | some l => sort2 ((hits s l).map itemOf)) else []
def tagN (s : Shelf) (t : ByteArray) : Int := ((s.notes.filter fun n => hasT t n.tags).length : Nat)
def tagsI (s : Shelf) : List Item := if mayS s = true then (gather (s.notes.flatMap fun n => n.tags)).map fun t => ⟨tagN s t, t⟩ else []
def commonN (a b : Note) : Nat := (a.tags.filter fun t => hasT t b.tags).length
def kinL (s : Shelf) (x : Note) (m : Nat) : List Note := s.notes.filter fun n => !(n.id == x.id) && commonN n x == m
def kinI (s : Shelf) (id : Int) : List Item := if noteE s id = 0 then ([4, 3, 2, 1].flatMap (kinL s (noteOf s id))).map itemOf else []
/-! Sorted by names, then by numbers -/
theorem ins2_perm (x : Item) : ∀ l : List Item, (ins2 x l).Perm (x :: l)
  | [] => .refl _
  | y :: l => by
    unfold ins2
    split
    · exact .refl _
    · exact (List.Perm.cons y (ins2_perm x l)).trans (List.Perm.swap x y l)
theorem lt2_trans {a b c : Item} (h : lt2 a b = true) (g : lt2 b c = true) : lt2 a c = true := by
  unfold lt2 at *
  simp only [Bool.or_eq_true, Bool.and_eq_true, beq_iff_eq, decide_eq_true_eq] at *
  rcases h with h | ⟨h1, h2⟩ <;> rcases g with g | ⟨g1, g2⟩
  · exact .inl (ltS_trans h g)
  · left; rw [← eq_of_tl g1]; exact h
  · left; rw [eq_of_tl h1]; exact g
  · right; exact ⟨h1.trans g1, by omega⟩
theorem lt2_irrefl (a : Item) : lt2 a a = false := by unfold lt2; rw [ltS_irrefl]; simp
theorem lt2_asymm {a b : Item} (h : lt2 a b = true) (g : lt2 b a = true) : False := by have := lt2_trans h g; rw [lt2_irrefl] at this; cases this
theorem ins2_inc {x : Item} : ∀ {l : List Item}, l.Pairwise (fun a b => lt2 a b = true) → (∀ y ∈ l, y.id < x.id) → (ins2 x l).Pairwise (fun a b => lt2 a b = true)
  | [], _, _ => by simp [ins2]
  | y :: l, h, hn => by
    obtain ⟨h1, h2⟩ := List.pairwise_cons.1 h
    unfold ins2
    split
    · rename_i hlt
      have hxy : lt2 x y = true := by unfold lt2; rw [hlt]; rfl
      refine List.pairwise_cons.2 ⟨fun z hz => ?_, h⟩
      rcases List.mem_cons.1 hz with rfl | hz
      · exact hxy
      · exact lt2_trans hxy (h1 z hz)
    · rename_i hlt
      have hyx : lt2 y x = true := by
        unfold lt2
        cases e : ltS y.name x.name with
        | true => rfl
        | false =>
          have : y.name = x.name := ltS_total e (by simpa using hlt)
          simp [this, hn y (by simp)]
      refine List.pairwise_cons.2 ⟨fun z hz => ?_, ins2_inc h2 fun z hz => hn z (List.mem_cons_of_mem _ hz)⟩
      rcases List.mem_cons.1 ((ins2_perm x l).mem_iff.1 hz) with rfl | hz
      · exact hyx
      · exact h1 z hz
theorem fold2 : ∀ (l acc : List Item), acc.Pairwise (fun a b => lt2 a b = true) → (∀ x ∈ l, ∀ y ∈ acc, y.id < x.id) → (l.Pairwise fun a b => a.id < b.id) → (l.foldl (fun acc x => ins2 x acc) acc).Pairwise (fun a b => lt2 a b = true) ∧ (l.foldl (fun acc x => ins2 x acc) acc).Perm (l ++ acc)
  | [], acc, h, _, _ => ⟨h, .refl _⟩
  | x :: l, acc, h, hn, hd => by
    obtain ⟨d1, d2⟩ := List.pairwise_cons.1 hd
    rw [List.foldl_cons]
    obtain ⟨g1, g2⟩ := fold2 l _ (ins2_inc h fun y hy => hn x (by simp) y hy) (fun z hz y hy => by
      rcases List.mem_cons.1 ((ins2_perm x acc).mem_iff.1 hy) with rfl | hy
      · exact d1 z hz
      · exact hn z (List.mem_cons_of_mem _ hz) y hy) d2
    exact ⟨g1, g2.trans (((ins2_perm x acc).append_left l).trans List.perm_middle)⟩
theorem sort2_inc {l : List Item} (h : l.Pairwise fun a b => a.id < b.id) : (sort2 l).Pairwise (fun a b => lt2 a b = true) := (fold2 l [] .nil (fun _ _ _ hy => by cases hy) h).1
theorem sort2_perm {l : List Item} (h : l.Pairwise fun a b => a.id < b.id) : (sort2 l).Perm l := by have := (fold2 l [] .nil (fun _ _ _ hy => by cases hy) h).2; rwa [List.append_nil] at this
/-- What is sorted so is the one sorted list. -/
theorem sort2_of {l l' : List Item} (hp : l'.Perm l) (hs : l'.Pairwise fun a b => lt2 b a = false) (hd : l.Pairwise fun a b => a.id < b.id) : l' = sort2 l := by
  refine strict_eq (R := fun a b : Item => lt2 a b = true) (fun x y h1 h2 => lt2_asymm h1 h2) (hp.trans (sort2_perm hd).symm) ?_ (sort2_inc hd)
  have hne : l'.Pairwise fun a b => a.id ≠ b.id := (hp.pairwise_iff (fun h e => h e.symm)).2 (hd.imp fun h => by omega)
  refine (hs.and hne).imp fun {a b} ⟨h1, h2⟩ => ?_
  unfold lt2 at *
  cases e1 : ltS a.name b.name with
  | true => rfl
  | false =>
    cases e2 : ltS b.name a.name with
    | true => rw [e2] at h1; cases h1
    | false =>
      rw [e2] at h1
      have e := ltS_total e1 e2
      simp [e] at h1
      simp [e]; omega
theorem hits_inc {s : Shelf} (p : MayP s) (l : List Term) : ((hits s l).map itemOf).Pairwise fun a b => a.id < b.id := by
  rw [List.pairwise_map]
  exact (p.ninc.sublist List.filter_sublist).imp fun h => h
theorem findI_of {s : Shelf} {q : ByteArray} {l : List Term} (p : MayP s) (h : terms q = some l) : findI s q = sort2 ((hits s l).map itemOf) := by
  unfold findI; rw [if_pos (mayS_iff.2 p), h]
theorem findE_of {s : Shelf} {q : ByteArray} {l : List Term} (p : MayP s) (h : terms q = some l) : findE s q = 0 := by
  unfold findE; rw [if_neg (by rw [mayS_iff.2 p]; simp), if_neg (by rw [h]; simp)]
theorem find_len {s : Shelf} {q : ByteArray} {l : List Term} (p : MayP s) (h : terms q = some l) : (findI s q).length = (hits s l).length := by
  rw [findI_of p h, (sort2_perm (hits_inc p l)).length_eq, List.length_map]
theorem item_note {s : Shelf} (p : MayP s) {n m : Note} (hn : n ∈ s.notes) (hm : m ∈ s.notes) (e : itemOf n = itemOf m) : n = m := inc_eq (f := fun n : Note => n.id) p.ninc hn hm (by unfold itemOf at e; simp only [Item.mk.injEq] at e; exact e.1)
theorem find_mem {s : Shelf} {q : ByteArray} {l : List Term} (p : MayP s) (h : terms q = some l) {n : Note} (hn : n ∈ s.notes) : itemOf n ∈ findI s q ↔ l.all (soB s n) = true := by
  rw [findI_of p h, (sort2_perm (hits_inc p l)).mem_iff, List.mem_map]
  constructor
  · rintro ⟨m, hm, e⟩
    obtain ⟨h1, h2⟩ := List.mem_filter.1 hm
    rw [← item_note p h1 hn e]; exact h2
  · intro hh
    exact ⟨n, List.mem_filter.2 ⟨hn, hh⟩, rfl⟩
theorem find_note {s : Shelf} {q : ByteArray} {l : List Term} (p : MayP s) (h : terms q = some l) {x : Item} (hx : x ∈ findI s q) : ∃ n ∈ s.notes, x = itemOf n ∧ l.all (soB s n) = true := by
  rw [findI_of p h, (sort2_perm (hits_inc p l)).mem_iff, List.mem_map] at hx
  obtain ⟨n, hn, e⟩ := hx
  obtain ⟨h1, h2⟩ := List.mem_filter.1 hn
  exact ⟨n, h1, e.symm, h2⟩
/-! Terms of questions that are joined -/
theorem termsL_append : ∀ (a b : List (List UInt8)), termsL (a ++ b) = (match termsL a with | none => none | some l => match termsL b with | none => none | some m => some (l ++ m))
  | [], b => by simp [termsL]; cases termsL b <;> rfl
  | p :: a, b => by
    rw [List.cons_append, termsL, termsL, termsL_append a b]
    cases termL p <;> simp
    cases termsL a <;> simp
    cases termsL b <;> simp
theorem terms_of {q : ByteArray} {l : List Term} (h : terms q = some l) (h0 : q.size ≠ 0) : termsL (partsL q.data.toList) = some l := by
  unfold terms at h
  split at h
  · cases h
  · first | exact h | (rw [if_neg h0] at h; exact h)
theorem terms_mk {q : ByteArray} {l : List Term} (h : termsL (partsL q.data.toList) = some l) (h0 : q.size ≠ 0) (h1 : q.size ≤ 200) : terms q = some l := by
  unfold terms; rw [if_neg (by omega), if_neg h0, h]
/-- Two questions with a blank between. -/
theorem terms_join {q t u : ByteArray} {a b : List Term} (hu : u.data.toList = q.data.toList ++ 32 :: t.data.toList) (hq : terms q = some a) (ht : terms t = some b) (q0 : q.size ≠ 0) (t0 : t.size ≠ 0) (h1 : q.size + t.size + 1 ≤ 200) : terms u = some (a ++ b) := by
  have hl : u.size = q.size + t.size + 1 := by rw [sizeL_list, hu, sizeL_list, sizeL_list]; simp; omega
  refine terms_mk ?_ (by omega) (by omega)
  rw [hu, partsL_blank, termsL_append, terms_of hq q0, terms_of ht t0]
theorem terms_nil {q : ByteArray} (h : q.size = 0) : terms q = some [] := by unfold terms; rw [if_neg (by omega), if_pos h]
theorem terms_one {q : ByteArray} {t : Term} (h : 32 ∉ q.data.toList) (ht : termL q.data.toList = some t) (h0 : q.size ≠ 0) (h1 : q.size ≤ 200) : terms q = some [t] := by
  refine terms_mk ?_ h0 h1
  rw [partsL_word h]; simp only [termsL, ht]
theorem terms_one_of {q : ByteArray} {l : List Term} (h : 32 ∉ q.data.toList) (hl : terms q = some l) (h0 : q.size ≠ 0) : ∃ t, termL q.data.toList = some t ∧ l = [t] := by
  have := terms_of hl h0
  rw [partsL_word h] at this
  simp only [termsL] at this
  cases e : termL q.data.toList with
  | none => rw [e] at this; cases this
  | some t => rw [e] at this; exact ⟨t, rfl, (Option.some.inj this).symm⟩
end Go.Proofs.YtgpjcgcecahddaaGreatDoor
set_option linter.unusedVariables false
set_option linter.unusedSimpArgs false
namespace Go.Proofs.YtgpjcgcecahddaaGreatDoor
open Go.RowKit Go.Lib
def inB (l : List Item) (x : Item) : Bool := l.any fun y => y.id == x.id && y.name.toList == x.name.toList
theorem item_eq {x y : Item} : (y.id == x.id && y.name.toList == x.name.toList) = true ↔ y = x := by
  rw [Bool.and_eq_true, beq_iff_eq, beq_iff_eq]
  constructor
  · rintro ⟨h1, h2⟩
    cases x; cases y
    simp only [Item.mk.injEq]
    exact ⟨h1, eq_of_tl h2⟩
  · rintro rfl; exact ⟨rfl, rfl⟩
theorem inB_iff {l : List Item} {x : Item} : inB l x = true ↔ x ∈ l := by
  unfold inB
  rw [List.any_eq_true]
  exact ⟨fun ⟨y, h1, h2⟩ => (item_eq.1 h2) ▸ h1, fun h => ⟨x, h, item_eq.2 rfl⟩⟩
theorem bool_iff {a b : Bool} (h : a = true ↔ b = true) : a = b := by cases a <;> cases b <;> simp_all
theorem in_find {s : Shelf} {q : ByteArray} {l : List Term} (p : MayP s) (h : terms q = some l) {n : Note} (hn : n ∈ s.notes) : inB (findI s q) (itemOf n) = l.all (soB s n) := bool_iff (inB_iff.trans (find_mem p h hn))
/-! SeekTurns -/
theorem bare_turn {c : Bool} {l : List UInt8} {t : Term} (h : bare c l = some t) : bare (!c) l = some { t with turned := !t.turned } ∧ t.turned = c := by
  cases l with
  | nil => cases h
  | cons x r =>
    by_cases h1 : x = 33
    · rw [bare, if_pos h1] at h; cases h
    rw [bare, if_neg h1] at h
    rw [bare, if_neg h1]
    by_cases h2 : x = 35
    · rw [if_pos h2] at h
      rw [if_pos h2]
      by_cases h3 : r = []
      · rw [if_pos h3] at h; cases h
      · rw [if_neg h3] at h
        injection h with h; subst h
        rw [if_neg h3]; exact ⟨rfl, rfl⟩
    rw [if_neg h2] at h
    rw [if_neg h2]
    by_cases h3 : x = 47
    · rw [if_pos h3] at h
      rw [if_pos h3]
      by_cases h4 : r = []
      · rw [if_pos h4] at h; cases h
      · rw [if_neg h4] at h
        injection h with h; subst h
        rw [if_neg h4]; exact ⟨rfl, rfl⟩
    rw [if_neg h3] at h
    rw [if_neg h3]
    injection h with h; subst h
    exact ⟨rfl, rfl⟩
structure Turns (s : Shelf) (t nt u tu z : ByteArray) : Prop where
  e1 : findE s t = 0
  e2 : findE s nt = 0
  e3 : findE s u = 0
  e4 : findE s tu = 0
  e5 : findE s z = 0
  len : (findI s t).length + (findI s nt).length = s.notes.length
  all : (findI s z).length = s.notes.length
  one : ∀ x ∈ findI s z, inB (findI s t) x = !(inB (findI s nt) x) ∧ inB (findI s tu) x = (inB (findI s t) x && inB (findI s u) x)
theorem turns_law {s : Shelf} (p : MayP s) {t nt u tu z : ByteArray} (hz : z.size = 0) (hnt : nt.data.toList = 33 :: t.data.toList) (htu : tu.data.toList = t.data.toList ++ 32 :: u.data.toList) (t0 : t.size ≠ 0) (u0 : u.size ≠ 0) (t6 : t.size ≤ 60) (u6 : u.size ≤ 60)
    (ht : terms t ≠ none) (hu : terms u ≠ none) (h33 : ∀ c, t.data.toList.head? = some c → c ≠ 33) (bt : 32 ∉ t.data.toList) (bu : 32 ∉ u.data.toList) : Turns s t nt u tu z := by
  obtain ⟨lt, hlt⟩ := Option.ne_none_iff_exists'.1 ht
  obtain ⟨lu, hlu⟩ := Option.ne_none_iff_exists'.1 hu
  obtain ⟨T, hT, rfl⟩ := terms_one_of bt hlt t0
  obtain ⟨U, hU, rfl⟩ := terms_one_of bu hlu u0
  have hbt : bare false t.data.toList = some T := by
    cases e : t.data.toList with
    | nil => rw [e] at hT; cases hT
    | cons c r =>
      rw [e] at hT
      have := h33 c (by rw [e]; rfl)
      rwa [termL, if_neg this] at hT
  obtain ⟨hn, hf⟩ := bare_turn hbt
  have hnl : nt.size = t.size + 1 := by rw [sizeL_list, hnt, sizeL_list]; simp
  have hnt' : terms nt = some [{ T with turned := !T.turned }] := by
    refine terms_one ?_ ?_ (by omega) (by omega)
    · rw [hnt, List.mem_cons]; exact fun h => h.elim (by decide) bt
    · rw [hnt, termL, if_pos rfl]; exact hn
  have hall := terms_join htu hlt hlu t0 u0 (by omega)
  have hzz := terms_nil hz
  refine ⟨findE_of p hlt, findE_of p hnt', findE_of p hlu, findE_of p hall, findE_of p hzz, ?_, ?_, ?_⟩
  · rw [find_len p hlt, find_len p hnt']
    unfold hits
    have e : (s.notes.filter fun n => [({ T with turned := !T.turned } : Term)].all (soB s n)) = s.notes.filter fun n => !([T].all (soB s n)) := by
      refine List.filter_congr fun n _ => ?_
      show (isB s n _ != !T.turned && true) = !(isB s n T != T.turned && true)
      have : isB s n { T with turned := !T.turned } = isB s n T := rfl
      rw [this]
      cases isB s n T <;> cases T.turned <;> rfl
    rw [e, ← List.length_append]
    exact (List.filter_append_perm (fun n => [T].all (soB s n)) s.notes).length_eq
  · rw [find_len p hzz]; unfold hits; simp
  · intro x hx
    obtain ⟨n, hn, rfl, -⟩ := find_note p hzz hx
    rw [in_find p hlt hn, in_find p hnt' hn, in_find p hall hn, in_find p hlu hn]
    have : isB s n { T with turned := !T.turned } = isB s n T := rfl
    simp only [List.all_cons, List.all_nil, Bool.and_true, List.cons_append, List.nil_append, soB, this]
    refine ⟨?_, by first | rfl | trivial⟩
    cases isB s n T <;> cases T.turned <;> rfl
/-! SeekMore -/
structure More (s : Shelf) (q qt tq qq : ByteArray) : Prop where
  e1 : findE s q = 0
  e2 : findE s qt = 0
  e3 : findE s tq = 0
  e4 : findE s qq = 0
  swap : findI s qt = findI s tq
  twice : findI s qq = findI s q
  less : (findI s qt).length ≤ (findI s q).length
  sub : ∀ x ∈ findI s qt, inB (findI s q) x = true
  inc : (findI s qt).Pairwise fun a b => lt2 a b = true
theorem more_law {s : Shelf} (p : MayP s) {q t qt tq qq : ByteArray} (hqt : qt.data.toList = q.data.toList ++ 32 :: t.data.toList) (htq : tq.data.toList = t.data.toList ++ 32 :: q.data.toList) (hqq : qq.data.toList = q.data.toList ++ 32 :: q.data.toList) (q0 : q.size ≠ 0) (t0 : t.size ≠ 0) (q6 : q.size ≤ 60) (t6 : t.size ≤ 60)
    (hq : terms q ≠ none) (ht : terms t ≠ none) : More s q qt tq qq := by
  obtain ⟨lq, hlq⟩ := Option.ne_none_iff_exists'.1 hq
  obtain ⟨lt, hlt⟩ := Option.ne_none_iff_exists'.1 ht
  have a1 := terms_join hqt hlq hlt q0 t0 (by omega)
  have a2 := terms_join htq hlt hlq t0 q0 (by omega)
  have a3 := terms_join hqq hlq hlq q0 q0 (by omega)
  refine ⟨findE_of p hlq, findE_of p a1, findE_of p a2, findE_of p a3, ?_, ?_, ?_, ?_, ?_⟩
  · rw [findI_of p a1, findI_of p a2]
    unfold hits
    simp only [List.all_append, Bool.and_comm]
  · rw [findI_of p a3, findI_of p hlq]
    unfold hits
    simp only [List.all_append, Bool.and_self]
  · rw [find_len p a1, find_len p hlq]
    unfold hits
    have e : (s.notes.filter fun n => (lq ++ lt).all (soB s n)) = (s.notes.filter fun n => lq.all (soB s n)).filter fun n => lt.all (soB s n) := by
      rw [List.filter_filter]
      refine List.filter_congr fun n _ => ?_
      rw [List.all_append, Bool.and_comm]
    rw [e]
    exact List.length_filter_le _ _
  · intro x hx
    obtain ⟨n, hn, rfl, hh⟩ := find_note p a1 hx
    rw [in_find p hlq hn]
    rw [List.all_append, Bool.and_eq_true] at hh
    exact hh.1
  · rw [findI_of p a1]; exact sort2_inc (hits_inc p _)
/-! SeekJoins -/
theorem word_self {w : ByteArray} (h : 32 ∉ w.data.toList) (h0 : w.size ≠ 0) : words w = [w] := by
  refine inc_one (words_inc w) (by simp [Inc]) fun x => ?_
  rw [words_mem, parts_mem, partsL_word h, List.mem_singleton, List.mem_singleton]
  exact ⟨fun e => eq_of_list e.1, fun e => by subst e; exact ⟨rfl, h0⟩⟩
theorem words_join {a b c : ByteArray} (hc : c.data.toList = a.data.toList ++ 32 :: b.data.toList) {x : ByteArray} : x ∈ words c ↔ x ∈ words a ∨ x ∈ words b := by
  rw [words_mem, words_mem, words_mem, parts_mem, parts_mem, parts_mem, hc, partsL_blank, List.mem_append]
  exact ⟨fun ⟨h1, h2⟩ => h1.elim (fun h => .inl ⟨h, h2⟩) (fun h => .inr ⟨h, h2⟩), fun h => h.elim (fun h => ⟨.inl h.1, h.2⟩) (fun h => ⟨.inr h.1, h.2⟩)⟩
theorem words_one {a x : ByteArray} (h : x ∈ words a) : words x = [x] := by
  obtain ⟨h1, h2⟩ := words_mem.1 h
  exact word_self (partsL_no _ _ (parts_mem.1 h1)) h2
theorem words_pad {a c : ByteArray} (hc : c.data.toList = 32 :: (a.data.toList ++ [32, 32])) : words c = words a := by
  refine inc_one (words_inc c) (words_inc a) fun x => ?_
  have e : partsL c.data.toList = [] :: (partsL a.data.toList ++ [[], []]) := by
    rw [hc]
    show partsL ([] ++ 32 :: (a.data.toList ++ 32 :: ([] ++ 32 :: []))) = _
    rw [partsL_blank, partsL_blank, partsL_blank]; rfl
  rw [words_mem, words_mem, parts_mem, parts_mem, e]
  constructor
  · rintro ⟨h1, h2⟩
    refine ⟨?_, h2⟩
    have hx : x.data.toList ≠ [] := fun e => h2 (by rw [sizeL_list, e]; rfl)
    rcases List.mem_cons.1 h1 with h | h
    · exact absurd h hx
    · rcases List.mem_append.1 h with h | h
      · exact h
      · simp at h; exact absurd (by simp [h]) hx
  · rintro ⟨h1, h2⟩
    exact ⟨List.mem_cons_of_mem _ (List.mem_append_left _ h1), h2⟩
/-! SeekWords -/
theorem begins_word {s : Shelf} {n : Note} {w x : ByteArray} (hx : x ∈ words n.name) (hw : w.data.toList <+: x.data.toList) : isB s n ⟨false, 0, w⟩ = true := by
  show ((words n.name).any fun y => begins y w) = true
  rw [List.any_eq_true]
  exact ⟨x, hx, List.isPrefixOf_iff_prefix.2 hw⟩
theorem plain_term {w : ByteArray} {c : UInt8} (hc : w.data.toList.head? = some c) (h1 : c ≠ 33) (h2 : c ≠ 35) (h3 : c ≠ 47) : termL w.data.toList = some ⟨false, 0, w⟩ := by
  cases e : w.data.toList with
  | nil => rw [e] at hc; cases hc
  | cons x r =>
    rw [e] at hc
    injection hc with hc
    change x = c at hc
    subst hc
    rw [termL, if_neg h1, bare, if_neg h1, if_neg h2, if_neg h3, ← e, bytesB_of]
theorem tag_term {t w : ByteArray} (hw : w.data.toList = 35 :: t.data.toList) (h0 : t.size ≠ 0) : termL w.data.toList = some ⟨false, 1, t⟩ := by
  have : t.data.toList ≠ [] := fun e => h0 (by rw [sizeL_list, e]; rfl)
  rw [hw, termL, if_neg (by decide), bare, if_neg (by decide), if_pos rfl, if_neg this, bytesB_of]
/-! SeekKin -/
theorem common_symm {a b : Note} (ha : a.tags.Nodup) (hb : b.tags.Nodup) : commonN a b = commonN b a := by
  unfold commonN
  have e : (a.tags.filter fun t => hasT t b.tags).Perm (b.tags.filter fun t => hasT t a.tags) := by
    refine (List.perm_ext_iff_of_nodup (ha.sublist List.filter_sublist) (hb.sublist List.filter_sublist)).2 fun x => ?_
    rw [List.mem_filter, List.mem_filter, hasT_iff, hasT_iff, and_comm]
  exact e.length_eq
theorem tags_nodup {s : Shelf} (p : MayP s) {n : Note} (hn : n ∈ s.notes) : n.tags.Nodup := (p.tinc n hn).imp fun {a b} h e => by subst e; rw [ltS_irrefl] at h; cases h
theorem common_le {s : Shelf} (p : MayP s) {n m : Note} (hn : n ∈ s.notes) : commonN n m ≤ 4 := by
  have := p.tl n hn
  have h := List.length_filter_le (fun t => hasT t m.tags) n.tags
  unfold commonN; omega
theorem kin_mem {s : Shelf} (p : MayP s) {id : Int} (h0 : noteE s id = 0) {x : Item} : x ∈ kinI s id ↔ ∃ n ∈ s.notes, x = itemOf n ∧ n.id ≠ id ∧ commonN n (noteOf s id) ≠ 0 := by
  have hid := (noteOf_get (noteE_zero.1 h0).2).2
  unfold kinI
  rw [if_pos h0, List.mem_map]
  constructor
  · rintro ⟨n, hn, rfl⟩
    obtain ⟨m, hm, hn⟩ := List.mem_flatMap.1 hn
    unfold kinL at hn
    obtain ⟨h1, h2⟩ := List.mem_filter.1 hn
    rw [hid] at h2
    simp at h2
    refine ⟨n, h1, rfl, h2.1, ?_⟩
    simp at hm; omega
  · rintro ⟨n, hn, rfl, h1, h2⟩
    refine ⟨n, List.mem_flatMap.2 ⟨commonN n (noteOf s id), ?_, ?_⟩, rfl⟩
    · have := common_le p hn (m := noteOf s id)
      simp; omega
    · unfold kinL
      refine List.mem_filter.2 ⟨hn, ?_⟩
      rw [hid]; simp; exact h1
theorem kin_back {s : Shelf} (p : MayP s) {id : Int} (h0 : noteE s id = 0) {k : Item} (hk : k ∈ kinI s id) : noteE s k.id = 0 ∧ k.id ≠ id ∧ inB (kinI s k.id) (itemOf (noteOf s id)) = true := by
  obtain ⟨n, hn, rfl, h1, h2⟩ := (kin_mem p h0).1 hk
  obtain ⟨hg, hid⟩ := noteOf_get (noteE_zero.1 h0).2
  have hm := noteOf_mem (noteE_zero.1 h0).2
  have hx : 0 ≤ noteIx s n.id := idx_nonneg.2 ⟨n, hn, by simp⟩
  have hE : noteE s n.id = 0 := noteE_zero.2 ⟨mayS_iff.2 p, hx⟩
  obtain ⟨hg2, hid2⟩ := noteOf_get hx
  have hnn : noteOf s n.id = n := inc_eq (f := fun n : Note => n.id) p.ninc (noteOf_mem hx) hn hid2
  refine ⟨hE, h1, ?_⟩
  rw [inB_iff]
  show itemOf (noteOf s id) ∈ kinI s n.id
  rw [kin_mem p hE]
  refine ⟨noteOf s id, hm, rfl, by rw [hid]; exact fun e => h1 e.symm, ?_⟩
  rw [hnn, common_symm (tags_nodup p hm) (tags_nodup p hn)]; exact h2
theorem kin_none {s : Shelf} (p : MayP s) {id : Int} (h0 : noteE s id = 0) (ht : (noteOf s id).tags = []) : kinI s id = [] := by
  cases e : kinI s id with
  | nil => rfl
  | cons x l =>
    exfalso
    obtain ⟨n, -, -, -, h2⟩ := (kin_mem p h0).1 (show x ∈ kinI s id by rw [e]; simp)
    apply h2; unfold commonN; rw [ht]; simp [hasT]
/-- How often each text stands in lists that have it once: as many as all are. -/
theorem count_sum (c : ByteArray → Nat) : ∀ (L : List (List ByteArray)) (G : List ByteArray), G.Nodup → (∀ l ∈ L, l.Nodup ∧ ∀ x ∈ l, x ∈ G) → (∀ t, c t = (L.filter fun l => hasT t l).length) → (G.map c).sum = (L.map List.length).sum
  | L, G, hG, hL, hc => by
    induction L generalizing c with
    | nil =>
      have : G.map c = G.map fun _ => 0 := List.map_congr_left fun t _ => by rw [hc]; rfl
      rw [this]
      have z : ∀ G : List ByteArray, (G.map fun _ => 0).sum = 0 := fun G => by induction G with | nil => rfl | cons x G ih => rw [List.map_cons, List.sum_cons, ih]
      rw [z]; rfl
    | cons l L ih =>
      have ih := ih (fun t => (L.filter fun l => hasT t l).length) (fun l hl => hL l (List.mem_cons_of_mem _ hl)) (fun _ => rfl)
      obtain ⟨n1, n2⟩ := hL l (by simp)
      have e : G.map c = G.map fun t => (if hasT t l then 1 else 0) + (L.filter fun l => hasT t l).length := List.map_congr_left fun t _ => by
        rw [hc, List.filter_cons]; split <;> simp; omega
      have key : ∀ (f g : ByteArray → Nat) (G : List ByteArray), (G.map fun t => f t + g t).sum = (G.map f).sum + (G.map g).sum := fun f g G => by
        induction G with
        | nil => rfl
        | cons x G ih => simp only [List.map_cons, List.sum_cons, ih]; omega
      have ind : ∀ (p : ByteArray → Bool) (G : List ByteArray), (G.map fun t => if p t then 1 else 0).sum = (G.filter p).length := fun p G => by
        induction G with
        | nil => rfl
        | cons x G ih => rw [List.map_cons, List.sum_cons, ih, List.filter_cons]; split <;> simp; omega
      have hp : (G.filter fun t => hasT t l).Perm l := (List.perm_ext_iff_of_nodup (hG.sublist List.filter_sublist) n1).2 fun x => by
        rw [List.mem_filter, hasT_iff]; exact ⟨fun h => h.2, fun h => ⟨n2 x h, h⟩⟩
      rw [e, key, ih, ind, hp.length_eq, List.map_cons, List.sum_cons]
theorem inc_nodup {l : List ByteArray} (h : Inc l) : l.Nodup := h.imp fun {a b} h e => by subst e; rw [ltS_irrefl] at h; cases h
theorem tags_sum {s : Shelf} (p : MayP s) : ((tagsI s).map fun x => x.id).sum = ((s.notes.map fun n => n.tags.length).sum : Nat) := by
  unfold tagsI
  rw [if_pos (mayS_iff.2 p), List.map_map]
  have := count_sum (fun t => (s.notes.filter fun n => hasT t n.tags).length) (s.notes.map fun n => n.tags) (gather (s.notes.flatMap fun n => n.tags)) (inc_nodup (gather_inc _)) (fun l hl => by
    obtain ⟨n, hn, rfl⟩ := List.mem_map.1 hl
    exact ⟨tags_nodup p hn, fun x hx => gather_mem.2 (List.mem_flatMap.2 ⟨n, hn, hx⟩)⟩) (fun t => by
    rw [List.filter_map, List.length_map]; rfl)
  rw [List.map_map] at this
  have cast : ∀ (f : ByteArray → Nat) (G : List ByteArray), (G.map fun t => ((f t : Nat) : Int)).sum = ((G.map f).sum : Nat) := fun f G => by
    induction G with
    | nil => rfl
    | cons x G ih => simp only [List.map_cons, List.sum_cons, ih]; omega
  have h2 := cast (fun t => (s.notes.filter fun n => hasT t n.tags).length) (gather (s.notes.flatMap fun n => n.tags))
  rw [this] at h2
  exact h2
theorem tags_inc {s : Shelf} : (tagsI s).Pairwise fun a b => ltS a.name b.name = true := by
  unfold tagsI
  split
  · rw [List.pairwise_map]; exact gather_inc _
  · exact .nil
end Go.Proofs.YtgpjcgcecahddaaGreatDoor
