/- The walk of shelf.mayNote. -/
import Derived.Test.YtnajccljdjllgaaDoorSeen
set_option linter.unusedVariables false
set_option linter.unusedSimpArgs false
namespace Go.Proofs.YtnajccljdjllgaaDoor
open Go.RowKit Go.Lib
abbrev noteAt (s : Shelf) (i : Nat) : Note := s.notes.getD i default
/-- The head of mayNote's look at a note. -/
def noteHead (s : Shelf) (i : Nat) : Bool :=
  (decide (1 ≤ (noteAt s i).id) && decide ((noteAt s i).id ≤ s.nn - 1)) && (i == 0 || decide ((noteAt s (i - 1)).id < (noteAt s i).id)) && mayB (noteAt s i).name &&
    decide (0 ≤ idx (fun b => b.id == (noteAt s i).book) s.books) && tagsB (noteAt s i).tags && decide ((noteAt s i).sheets.length ≤ 8)
/-- No earlier note of one's book has its name. -/
def noteNew (s : Shelf) (i : Nat) : Bool := allTo i fun j => !((noteAt s j).book == (noteAt s i).book && (noteAt s j).name.toList == (noteAt s i).name.toList)
def noteOk (s : Shelf) (i : Nat) : Bool := noteHead s i && noteNew s i
/-- Are numbers of sheets good, and not seen? -/
def sheetsOk (ns : Int) : List Int → List Int → Bool
  | _, [] => true
  | S, x :: l => !decide (x ∈ S) && (decide (1 ≤ x) && decide (x ≤ ns - 1)) && sheetsOk ns (x :: S) l
def NotePost (b : Nat) (n : Nat) (S : List Int) (ns : Int) (x : Note) (ok : Bool) (W : World) (e : Ending) (w' : World) : Prop :=
  Turned b W w' ∧ ((ok && sheetsOk ns S x.sheets) = false ∧ e = .returned (.bool false) ∨ (ok && sheetsOk ns S x.sheets) = true ∧ e = .returned (.bool true) ∧ Seen w' b (n + x.sheets.length) (x.sheets.reverse ++ S))
def TameN (x : Note) : Prop := x.name.size ≤ 1000000 ∧ x.tags.length ≤ 1000000 ∧ x.sheets.length ≤ 1000000 ∧ (∀ t ∈ x.tags, t.size ≤ 1000000) ∧ ∀ y ∈ x.sheets, Wf y
set_option maxRecDepth 100000 in
set_option maxHeartbeats 4000000 in
/-- The head of mayNote, behind its two boxes. -/
theorem mayNote_any (s : Shelf) (bv nv : Value) (i : Nat) (x : Note) (b n : Nat) (S : List Int) (w0 W : World) (hx : s.notes[i]? = some x) (h : ShelfR w0 s bv nv) (g : Grow w0 W) (hb : w0.heap.size ≤ b) (hS : Seen W b n S) (hn : n ≤ 100000000)
    (hT : Tabs w0) (hz : s.books.length ≤ 1000000) (hzn : s.notes.length ≤ 1000000) (ht : TameN x) (h1 : 1 ≤ s.nn) (h2 : s.nn ≤ 65536) (h3 : 1 ≤ s.ns) (h4 : s.ns ≤ 4096) :
    Calls Tryd.prog 42 #[shelfV s bv nv, .int .i64 i, .map (some b)] W (NotePost b n S s.ns x (noteOk s i) W) := by
  obtain ⟨a1, c1, rfl⟩ := h.1.mk
  obtain ⟨a2, c2, rfl⟩ := h.2.mk
  have hlt : i < s.notes.length := (List.getElem?_eq_some_iff.1 hx).1
  have hlt' : (i : Int) < s.notes.length := by omega
  obtain ⟨bb, off, tv, sv, rfl, hb0, p0, p1, p2, p3, p4, htv, hsv⟩ := h.2.at hx
  have hbb : bb < W.heap.size := by have := g.size; omega
  replace p0 := (g.cells _ _ hb0).trans p0
  replace p1 := (g.cells _ _ hb0).trans p1
  replace p2 := (g.cells _ _ hb0).trans p2
  replace p3 := (g.cells _ _ hb0).trans p3
  replace p4 := (g.cells _ _ hb0).trans p4
  obtain ⟨at_, ct, rfl⟩ := htv.mk
  obtain ⟨as_, cs, rfl⟩ := hsv.mk
  have HX := Lib.hid (getD_of (d := (default : Note)) hx)
  obtain ⟨id, book, name, tags, sheets⟩ := x
  simp only at p0 p1 p2 p3 p4 htv hsv
  obtain ⟨t1, t2, t3, t4, t5⟩ := ht
  simp only at t1 t2 t3 t4 t5
  have hg := h.grow g
  have HS := Lib.hid hS
  have HH := Lib.hid h
  clear hS h hx
  unfold shelfV
  go_enter Tryd.func42, Tryd.ntmps42
  go_upto_region 2 with (fail)
  generalize hV : (W.alloc (.cells #[.int .i64 s.nb, .int .i64 s.nn, .int .i64 s.ns, .slice a1 s.books.length c1, .slice (some ⟨bb, off, none⟩) s.notes.length c2] 28)).alloc (.cells #[.int .i64 id, .int .i64 book, .string name, .slice at_ tags.length ct, .slice as_ sheets.length cs] 41) = V
  have gV : Grow W V := by rw [← hV]; exact ((Grow.refl W).alloc _).alloc _
  have hsz : W.heap.size + 1 < V.heap.size := by rw [← hV]; simp
  have hsz0 : W.heap.size < V.heap.size := by omega
  have hbV : bb < V.heap.size := by have := gV.size; omega
  have Q : V.cell? ⟨W.heap.size, 0, none⟩ = some (.int .i64 s.nb) ∧ V.cell? ⟨W.heap.size, 1, none⟩ = some (.int .i64 s.nn) ∧ V.cell? ⟨W.heap.size, 2, none⟩ = some (.int .i64 s.ns) ∧ V.cell? ⟨W.heap.size, 3, none⟩ = some (.slice a1 s.books.length c1) ∧
      V.cell? ⟨W.heap.size, 4, none⟩ = some (.slice (some ⟨bb, off, none⟩) s.notes.length c2) ∧ V.cell? ⟨W.heap.size + 1, 0, none⟩ = some (.int .i64 id) ∧ V.cell? ⟨W.heap.size + 1, 1, none⟩ = some (.int .i64 book) ∧ V.cell? ⟨W.heap.size + 1, 2, none⟩ = some (.string name) ∧
      V.cell? ⟨W.heap.size + 1, 3, none⟩ = some (.slice at_ tags.length ct) ∧ V.cell? ⟨W.heap.size + 1, 4, none⟩ = some (.slice as_ sheets.length cs) := by rw [← hV]; simp [go_sem]
  obtain ⟨q0, q1, q2, q3, q4, r0, r1, r2, r3, r4⟩ := Q
  clear hV p0 p1 p2 p3 p4
  have gwV := g.trans gV
  have HTV := Lib.hid (hT.below gwV)
  have cI := fun W => in_any id 1 (s.nn - 1) W
  have cM := fun y : Gr V => may_any name y.W (by omega) (HTV.out.below y.g)
  have cB := fun y : Gr V => book_any s _ _ book y.W ((hg.grow gV).grow y.g) (by omega)
  have cT := fun y : Gr V => mayTags_any (.slice at_ tags.length ct) tags y.W (Texts.grow (Texts.grow htv gwV) y.g) t2 t4 (HTV.out.below y.g)
  unfold shelfV at cB
  have HD := Lib.hid (show noteHead s i = ((decide (1 ≤ id) && decide (id ≤ s.nn - 1)) && (i == 0 || decide ((noteAt s (i - 1)).id < id)) && mayB name && decide (0 ≤ idx (fun b => b.id == book) s.books) && tagsB tags && decide (sheets.length ≤ 8)) by unfold noteHead noteAt; rw [HX.out])
  go_cut [64] (fun v64 wc => v64 = .bool (!noteHead s i) ∧ Grow V wc)
  case first =>
    have H' := HD.out
    have hno := hg.2.grow gV
    clear HD HS HH HX htv hsv hg g gV gwV hT hb t1 t2 t3 t4 t5 h3 h4 hn hz hb0
    cases e1 : (decide (1 ≤ id) && decide (id ≤ s.nn - 1))
    · have HN := Lib.hid (show noteHead s i = false by rw [H', e1]; rfl)
      rw [e1] at cI
      clear H' e1 cM cB cT hno
      refine wp_region_gr (by kernel_rfl) (by kernel_rfl) ?_
      repeat (go_big_quiet_step (first | (go_at_call 39; exact Calls.gr_same (cI _)) | (go_at_call 40; exact Calls.gr (cM _)) | (go_at_call 67; exact Calls.gr (cB _)) | (go_at_call 83; exact Calls.gr (cT _))))
      refine wpQuiet_nil ?_
      rintro _ ⟨y, rfl⟩
      go_wp2_with fail
      go_meet
      exact ⟨by rw [HN.out]; rfl, y.g⟩
    rw [e1] at cI H'
    clear e1
    have ho : ((i : Int) ≤ 0 ∧ i = 0) ∨ ((0 : Int) < i ∧ ∃ z : Note, noteAt s (i - 1) = z ∧ V.cell? ⟨bb, off + (i - 1) * 5, none⟩ = some (.int .i64 z.id)) := by
      rcases Nat.eq_zero_or_pos i with h0 | h0
      · exact .inl ⟨by omega, h0⟩
      · obtain ⟨z, hz, -⟩ := lt_get (l := s.notes) (i := i - 1) (by omega)
        obtain ⟨b', off', tv', sv', e', hb', k0, -⟩ := hno.at hz
        injection e' with e'
        injection e' with e1 e2
        subst e1 e2
        exact .inr ⟨by omega, z, getD_of hz, k0⟩
    clear hno
    by_cases hord : (0 : Int) < i ∧ id ≤ (noteAt s (i - 1)).id
    · obtain ⟨i0, hord⟩ := hord
      rcases ho with ⟨h0, -⟩ | ⟨-, z, hz, k0⟩
      · omega
      rw [hz] at hord H'
      have HN := Lib.hid (show noteHead s i = false by
        rw [H', decide_eq_false (show ¬ z.id < id by omega), show (i == 0) = false by rw [beq_eq_false_iff_ne]; omega]; rfl)
      clear H' hz cM cB cT
      have hd : decide (0 < i) = true := decide_eq_true (by omega)
      have hd' : decide ((0 : Int) < i) = true := decide_eq_true i0
      have hi0 : IntKind.i64.wrap ((i : Int) - 1) = (i : Int) - 1 := IntWalk.i64_in _ (by omega)
      have hi1 : (0 : Int) ≤ (i : Int) - 1 := by omega
      have hi2 : (i : Int) - 1 < s.notes.length := by omega
      have hd8 : decide (id ≤ z.id) = true := decide_eq_true hord
      have hi3 : ((i : Int) - 1).toNat = i - 1 := by omega
      refine wp_region_gr (by kernel_rfl) (by kernel_rfl) ?_
      repeat (go_big_quiet_step (first | (go_at_call 39; exact Calls.gr_same (cI _)) | (go_at_call 40; exact Calls.gr (cM _)) | (go_at_call 67; exact Calls.gr (cB _)) | (go_at_call 83; exact Calls.gr (cT _))))
      refine wpQuiet_nil ?_
      rintro _ ⟨y, rfl⟩
      go_wp2_with fail
      go_meet
      exact ⟨by rw [HN.out]; rfl, y.g⟩
    have H2 : noteHead s i = (mayB name && decide (0 ≤ idx (fun b => b.id == book) s.books) && tagsB tags && decide (sheets.length ≤ 8)) := by
      rw [H', show (i == 0 || decide ((noteAt s (i - 1)).id < id)) = true by
        rw [Bool.or_eq_true, beq_iff_eq, decide_eq_true_eq]; omega]; simp
    clear H'
    have ho2 : ((i : Int) ≤ 0) ∨ ((0 : Int) < i ∧ ∃ z : Note, z.id < id ∧ V.cell? ⟨bb, off + (i - 1) * 5, none⟩ = some (.int .i64 z.id)) := by
      rcases ho with ⟨h0, -⟩ | ⟨h0, z, hz, k0⟩
      · exact .inl h0
      · exact .inr ⟨h0, z, by rw [← hz]; omega, k0⟩
    clear ho hord
    cases e3 : mayB name
    · have HN := Lib.hid (show noteHead s i = false by rw [H2, e3]; rfl)
      rw [e3] at cM
      clear H2 e3 cB cT
      rcases ho2 with h0 | ⟨h0, z, hzi, k0⟩
      · have hd : decide (0 < i) = false := decide_eq_false (by omega)
        have hd' : decide ((0 : Int) < i) = false := decide_eq_false (by omega)
        refine wp_region_gr (by kernel_rfl) (by kernel_rfl) ?_
        repeat (go_big_quiet_step (first | (go_at_call 39; exact Calls.gr_same (cI _)) | (go_at_call 40; exact Calls.gr (cM _)) | (go_at_call 67; exact Calls.gr (cB _)) | (go_at_call 83; exact Calls.gr (cT _))))
        refine wpQuiet_nil ?_
        rintro _ ⟨y, rfl⟩
        go_wp2_with fail
        go_meet
        exact ⟨by rw [HN.out]; rfl, y.g⟩
      · have hd : decide (0 < i) = true := decide_eq_true (by omega)
        have hd' : decide ((0 : Int) < i) = true := decide_eq_true h0
        have hi0 : IntKind.i64.wrap ((i : Int) - 1) = (i : Int) - 1 := IntWalk.i64_in _ (by omega)
        have hi1 : (0 : Int) ≤ (i : Int) - 1 := by omega
        have hi2 : (i : Int) - 1 < s.notes.length := by omega
        have hd8 : decide (id ≤ z.id) = false := decide_eq_false (by omega)
        have hi3 : ((i : Int) - 1).toNat = i - 1 := by omega
        refine wp_region_gr (by kernel_rfl) (by kernel_rfl) ?_
        repeat (go_big_quiet_step (first | (go_at_call 39; exact Calls.gr_same (cI _)) | (go_at_call 40; exact Calls.gr (cM _)) | (go_at_call 67; exact Calls.gr (cB _)) | (go_at_call 83; exact Calls.gr (cT _))))
        refine wpQuiet_nil ?_
        rintro _ ⟨y, rfl⟩
        go_wp2_with fail
        go_meet
        exact ⟨by rw [HN.out]; rfl, y.g⟩
    rw [e3] at cM H2
    clear e3
    generalize idx (fun b : Book => b.id == book) s.books = I at *
    by_cases e4 : 0 ≤ I
    · rw [decide_eq_true e4] at H2
      have hd4 : decide (I < 0) = false := decide_eq_false (by omega)
      cases e5 : tagsB tags
      · have HN := Lib.hid (show noteHead s i = false by rw [H2, e5]; rfl)
        rw [e5] at cT
        clear H2 e5
        rcases ho2 with h0 | ⟨h0, z, hzi, k0⟩
        · have hd : decide (0 < i) = false := decide_eq_false (by omega)
          have hd' : decide ((0 : Int) < i) = false := decide_eq_false (by omega)
          refine wp_region_gr (by kernel_rfl) (by kernel_rfl) ?_
          repeat (go_big_quiet_step (first | (go_at_call 39; exact Calls.gr_same (cI _)) | (go_at_call 40; exact Calls.gr (cM _)) | (go_at_call 67; exact Calls.gr (cB _)) | (go_at_call 83; exact Calls.gr (cT _))))
          refine wpQuiet_nil ?_
          rintro _ ⟨y, rfl⟩
          go_wp2_with fail
          go_meet
          exact ⟨by rw [HN.out]; rfl, y.g⟩
        · have hd : decide (0 < i) = true := decide_eq_true (by omega)
          have hd' : decide ((0 : Int) < i) = true := decide_eq_true h0
          have hi0 : IntKind.i64.wrap ((i : Int) - 1) = (i : Int) - 1 := IntWalk.i64_in _ (by omega)
          have hi1 : (0 : Int) ≤ (i : Int) - 1 := by omega
          have hi2 : (i : Int) - 1 < s.notes.length := by omega
          have hd8 : decide (id ≤ z.id) = false := decide_eq_false (by omega)
          have hi3 : ((i : Int) - 1).toNat = i - 1 := by omega
          refine wp_region_gr (by kernel_rfl) (by kernel_rfl) ?_
          repeat (go_big_quiet_step (first | (go_at_call 39; exact Calls.gr_same (cI _)) | (go_at_call 40; exact Calls.gr (cM _)) | (go_at_call 67; exact Calls.gr (cB _)) | (go_at_call 83; exact Calls.gr (cT _))))
          refine wpQuiet_nil ?_
          rintro _ ⟨y, rfl⟩
          go_wp2_with fail
          go_meet
          exact ⟨by rw [HN.out]; rfl, y.g⟩
      rw [e5] at cT H2
      clear e5
      by_cases e6 : (sheets.length : Int) ≤ 8
      · have HN := Lib.hid (show noteHead s i = true by rw [H2, decide_eq_true (show sheets.length ≤ 8 by omega)]; rfl)
        have hd6 : decide ((8 : Int) < sheets.length) = false := decide_eq_false (by omega)
        have hd7 : decide (8 < sheets.length) = false := decide_eq_false (by omega)
        clear H2
        rcases ho2 with h0 | ⟨h0, z, hzi, k0⟩
        · have hd : decide (0 < i) = false := decide_eq_false (by omega)
          have hd' : decide ((0 : Int) < i) = false := decide_eq_false (by omega)
          refine wp_region_gr (by kernel_rfl) (by kernel_rfl) ?_
          repeat (go_big_quiet_step (first | (go_at_call 39; exact Calls.gr_same (cI _)) | (go_at_call 40; exact Calls.gr (cM _)) | (go_at_call 67; exact Calls.gr (cB _)) | (go_at_call 83; exact Calls.gr (cT _))))
          refine wpQuiet_nil ?_
          rintro _ ⟨y, rfl⟩
          go_wp2_with fail
          go_meet
          exact ⟨by rw [HN.out]; rfl, y.g⟩
        · have hd : decide (0 < i) = true := decide_eq_true (by omega)
          have hd' : decide ((0 : Int) < i) = true := decide_eq_true h0
          have hi0 : IntKind.i64.wrap ((i : Int) - 1) = (i : Int) - 1 := IntWalk.i64_in _ (by omega)
          have hi1 : (0 : Int) ≤ (i : Int) - 1 := by omega
          have hi2 : (i : Int) - 1 < s.notes.length := by omega
          have hd8 : decide (id ≤ z.id) = false := decide_eq_false (by omega)
          have hi3 : ((i : Int) - 1).toNat = i - 1 := by omega
          refine wp_region_gr (by kernel_rfl) (by kernel_rfl) ?_
          repeat (go_big_quiet_step (first | (go_at_call 39; exact Calls.gr_same (cI _)) | (go_at_call 40; exact Calls.gr (cM _)) | (go_at_call 67; exact Calls.gr (cB _)) | (go_at_call 83; exact Calls.gr (cT _))))
          refine wpQuiet_nil ?_
          rintro _ ⟨y, rfl⟩
          go_wp2_with fail
          go_meet
          exact ⟨by rw [HN.out]; rfl, y.g⟩
      · have HN := Lib.hid (show noteHead s i = false by rw [H2, decide_eq_false (show ¬ sheets.length ≤ 8 by omega)]; rfl)
        have hd6 : decide ((8 : Int) < sheets.length) = true := decide_eq_true (by omega)
        have hd7 : decide (8 < sheets.length) = true := decide_eq_true (by omega)
        clear H2
        rcases ho2 with h0 | ⟨h0, z, hzi, k0⟩
        · have hd : decide (0 < i) = false := decide_eq_false (by omega)
          have hd' : decide ((0 : Int) < i) = false := decide_eq_false (by omega)
          refine wp_region_gr (by kernel_rfl) (by kernel_rfl) ?_
          repeat (go_big_quiet_step (first | (go_at_call 39; exact Calls.gr_same (cI _)) | (go_at_call 40; exact Calls.gr (cM _)) | (go_at_call 67; exact Calls.gr (cB _)) | (go_at_call 83; exact Calls.gr (cT _))))
          refine wpQuiet_nil ?_
          rintro _ ⟨y, rfl⟩
          go_wp2_with fail
          go_meet
          exact ⟨by rw [HN.out]; rfl, y.g⟩
        · have hd : decide (0 < i) = true := decide_eq_true (by omega)
          have hd' : decide ((0 : Int) < i) = true := decide_eq_true h0
          have hi0 : IntKind.i64.wrap ((i : Int) - 1) = (i : Int) - 1 := IntWalk.i64_in _ (by omega)
          have hi1 : (0 : Int) ≤ (i : Int) - 1 := by omega
          have hi2 : (i : Int) - 1 < s.notes.length := by omega
          have hd8 : decide (id ≤ z.id) = false := decide_eq_false (by omega)
          have hi3 : ((i : Int) - 1).toNat = i - 1 := by omega
          refine wp_region_gr (by kernel_rfl) (by kernel_rfl) ?_
          repeat (go_big_quiet_step (first | (go_at_call 39; exact Calls.gr_same (cI _)) | (go_at_call 40; exact Calls.gr (cM _)) | (go_at_call 67; exact Calls.gr (cB _)) | (go_at_call 83; exact Calls.gr (cT _))))
          refine wpQuiet_nil ?_
          rintro _ ⟨y, rfl⟩
          go_wp2_with fail
          go_meet
          exact ⟨by rw [HN.out]; rfl, y.g⟩
    · have HN := Lib.hid (show noteHead s i = false by rw [H2, decide_eq_false e4]; rfl)
      have hd4 : decide (I < 0) = true := decide_eq_true (by omega)
      clear H2 cT
      rcases ho2 with h0 | ⟨h0, z, hzi, k0⟩
      · have hd : decide (0 < i) = false := decide_eq_false (by omega)
        have hd' : decide ((0 : Int) < i) = false := decide_eq_false (by omega)
        refine wp_region_gr (by kernel_rfl) (by kernel_rfl) ?_
        repeat (go_big_quiet_step (first | (go_at_call 39; exact Calls.gr_same (cI _)) | (go_at_call 40; exact Calls.gr (cM _)) | (go_at_call 67; exact Calls.gr (cB _)) | (go_at_call 83; exact Calls.gr (cT _))))
        refine wpQuiet_nil ?_
        rintro _ ⟨y, rfl⟩
        go_wp2_with fail
        go_meet
        exact ⟨by rw [HN.out]; rfl, y.g⟩
      · have hd : decide (0 < i) = true := decide_eq_true (by omega)
        have hd' : decide ((0 : Int) < i) = true := decide_eq_true h0
        have hi0 : IntKind.i64.wrap ((i : Int) - 1) = (i : Int) - 1 := IntWalk.i64_in _ (by omega)
        have hi1 : (0 : Int) ≤ (i : Int) - 1 := by omega
        have hi2 : (i : Int) - 1 < s.notes.length := by omega
        have hd8 : decide (id ≤ z.id) = false := decide_eq_false (by omega)
        have hi3 : ((i : Int) - 1).toNat = i - 1 := by omega
        refine wp_region_gr (by kernel_rfl) (by kernel_rfl) ?_
        repeat (go_big_quiet_step (first | (go_at_call 39; exact Calls.gr_same (cI _)) | (go_at_call 40; exact Calls.gr (cM _)) | (go_at_call 67; exact Calls.gr (cB _)) | (go_at_call 83; exact Calls.gr (cT _))))
        refine wpQuiet_nil ?_
        rintro _ ⟨y, rfl⟩
        go_wp2_with fail
        go_meet
        exact ⟨by rw [HN.out]; rfl, y.g⟩
  case rest =>
    obtain ⟨rfl, gc⟩ := hcut
    clear cI cM cB cT
    have gwc := gV.trans gc
    have tW : Turned b W wc := Turned.of_grow gwc
    cases hh : noteHead s i
    · have HN := Lib.hid (show noteOk s i = false by unfold noteOk; rw [hh]; rfl)
      clear hh
      go_wp2_with fail
      go_ret
      exact ⟨tW, .inl ⟨by rw [HN.out]; rfl, rfl⟩⟩
    have HK := Lib.hid (show noteOk s i = noteNew s i by unfold noteOk; rw [hh]; rfl)
    clear hh
    have s4 : wc.cell? ⟨W.heap.size, 4, none⟩ = some (.slice (some ⟨bb, off, none⟩) s.notes.length c2) := (gc.cells _ _ hsz0).trans q4
    have s2 : wc.cell? ⟨W.heap.size, 2, none⟩ = some (.int .i64 s.ns) := (gc.cells _ _ hsz0).trans q2
    have u1 : wc.cell? ⟨W.heap.size + 1, 1, none⟩ = some (.int .i64 book) := (gc.cells _ _ hsz).trans r1
    have u2 : wc.cell? ⟨W.heap.size + 1, 2, none⟩ = some (.string name) := (gc.cells _ _ hsz).trans r2
    have u4 : wc.cell? ⟨W.heap.size + 1, 4, none⟩ = some (.slice as_ sheets.length cs) := (gc.cells _ _ hsz).trans r4
    have hz1 : W.heap.size + 1 < wc.heap.size := by have := gc.size; omega
    clear q0 q1 q2 q3 q4 r0 r1 r2 r3 r4
    have hc2 : s.notes.length ≤ c2 := HH.out.2.len.2
    have hic : (i : Int) ≤ c2 := by omega
    have hi0 : (0 : Int) ≤ i := by omega
    go_wp2_with fail
    go_loopw [9, 70] (fun _ v70 wx => Grow wc wx ∧ ∃ j : Nat, v70 = .int .i64 j ∧ j ≤ i ∧ ∀ k, k < j → (!((noteAt s k).book == book && (noteAt s k).name.toList == name.toList)) = true) (fun _ v70 _ => i - (intOf v70).toNat)
    case atStart => exact ⟨Grow.refl _, 0, rfl, by omega, fun k h => absurd h (by omega)⟩
    case round =>
      obtain ⟨hgr, j, rfl, hj, hall⟩ := hrel
      have HA := Lib.hid hall
      clear hall
      have gw := gwc.trans hgr
      replace s4 := (hgr.cells _ _ (by omega)).trans s4
      replace s2 := (hgr.cells _ _ (by omega)).trans s2
      replace u1 := (hgr.cells _ _ (by omega)).trans u1
      replace u2 := (hgr.cells _ _ (by omega)).trans u2
      replace u4 := (hgr.cells _ _ (by omega)).trans u4
      replace hz1 : W.heap.size + 1 < wr.heap.size := by have := hgr.size; omega
      by_cases hji : j < i
      · have hji' : (j : Int) < i := by omega
        obtain ⟨z, hz, -⟩ := lt_get (l := s.notes) (i := j) (by omega)
        obtain ⟨b', off', tv', sv', e', hb', k0, k1, k2, k3, k4, ht', hs'⟩ := HH.out.2.at hz
        obtain ⟨xa, xc, rfl⟩ := ht'.mk
        obtain ⟨ya, yc, rfl⟩ := hs'.mk
        clear ht' hs'
        injection e' with e'
        injection e' with e1 e2
        subst e1 e2
        have g0 := g.trans gw
        replace k0 := (g0.cells _ _ hb').trans k0
        replace k1 := (g0.cells _ _ hb').trans k1
        replace k2 := (g0.cells _ _ hb').trans k2
        replace k3 := (g0.cells _ _ hb').trans k3
        replace k4 := (g0.cells _ _ hb').trans k4
        have HZ := Lib.hid (show noteAt s j = z from getD_of hz)
        have hbr : bb < wr.heap.size := by have := g0.size; omega
        clear hz
        by_cases e1 : (z.book == book) = true
        · by_cases e2 : (z.name.toList == name.toList) = true
          · have HN := Lib.hid (show noteOk s i = false by
              rw [HK.out]; unfold noteNew
              exact allTo_no hji (by rw [show noteAt s i = _ from HX.out, HZ.out, e1, e2]; rfl))
            clear HK
            go_wp2_with fail
            go_ret
            exact ⟨tW.trans (Turned.of_grow (hgr.alloc _)), .inl ⟨by rw [HN.out]; rfl, rfl⟩⟩
          · replace e2 : (z.name.toList == name.toList) = false := by simpa using e2
            have HO := Lib.hid (show (!((noteAt s j).book == book && (noteAt s j).name.toList == name.toList)) = true by rw [HZ.out, e1, e2]; rfl)
            go_wp2_with fail
            go_roundw
            case rel => exact ⟨hgr.alloc _, j + 1, by go_num, by omega, fun k hk => by
              rcases (by omega : k < j ∨ k = j) with h3 | rfl
              · exact HA.out k h3
              · exact HO.out⟩
            case measure => simp [intOf]; omega
        · replace e1 : (z.book == book) = false := by simpa using e1
          have HO := Lib.hid (show (!((noteAt s j).book == book && (noteAt s j).name.toList == name.toList)) = true by rw [HZ.out, e1]; rfl)
          go_wp2_with fail
          go_roundw
          case rel => exact ⟨hgr.alloc _, j + 1, by go_num, by omega, fun k hk => by
            rcases (by omega : k < j ∨ k = j) with h3 | rfl
            · exact HA.out k h3
            · exact HO.out⟩
          case measure => simp [intOf]; omega
      · have HN := Lib.hid (show noteOk s i = true by
          rw [HK.out]; unfold noteNew
          exact allTo_yes (fun k hk => by have := HA.out k (by omega); rwa [show noteAt s i = _ from HX.out]))
        have hji' : ¬ (j : Int) < i := by omega
        have g0 := g.trans gw
        have hSr := HS.out.grow gw
        have tr : Turned b W wr := Turned.of_grow gw
        have hbW := HS.out.lt
        clear HK HA HS gc gV hgr gwc HTV tW
        clear HH HX htv hg hT h1 h2 hz hzn t1 t2 t4 hlt hlt' hc2 hic hi0 hj hji
        have HV := Lib.hid hsv
        have HT5 := Lib.hid t5
        have hszw := g.size
        have hne : W.heap.size ≠ b := by omega
        have hne1 : W.heap.size + 1 ≠ b := by omega
        clear hsv t5
        go_wp2_with fail
        go_loopw [11, 90] (fun _ v90 wx => Turned b wr wx ∧ ∃ k : Nat, v90 = .int .i64 k ∧ k ≤ sheets.length ∧ Seen wx b (n + k) ((sheets.take k).reverse ++ S) ∧ sheetsOk s.ns S sheets = sheetsOk s.ns ((sheets.take k).reverse ++ S) (sheets.drop k)) (fun _ v90 _ => sheets.length - (intOf v90).toNat)
        case atStart => exact ⟨Turned.refl _ _, 0, rfl, by omega, hSr, rfl⟩
        case round =>
          obtain ⟨hgr, k, rfl, hk, hsn, hok⟩ := hrel
          rename_i wq _ _
          have HO := Lib.hid hok
          have HSN := Lib.hid hsn
          clear hok hsn
          replace s2 := (hgr.cell (by omega) hne).trans s2
          replace u4 := (hgr.cell hz1 hne1).trans u4
          have hz2 : W.heap.size + 1 < wr.heap.size := by have := hgr.size; omega
          by_cases hkl : k < sheets.length
          · have hkl' : (k : Int) < sheets.length := by omega
            obtain ⟨x, hx, hxk⟩ := lt_get hkl
            obtain ⟨b', off', e', hb', kc⟩ := HV.out.at hx
            have kw := (hgr.cell (o := off' + k) (Nat.lt_of_lt_of_le hb' g0.size) (by omega)).trans ((g0.cells _ _ hb').trans kc)
            have hwx : Wf x := HT5.out x (List.mem_of_getElem? hx)
            have LK := HSN.out.look hwx
            have cI := fun W => in_any x 1 (s.ns - 1) W
            have HD := Lib.hid (show sheets.drop k = x :: sheets.drop (k + 1) by rw [List.drop_eq_getElem_cons hkl, hxk])
            have HTK := Lib.hid (show (sheets.take (k + 1)).reverse ++ S = x :: ((sheets.take k).reverse ++ S) by rw [List.take_succ_eq_append_getElem hkl, hxk]; simp)
            have HW := Lib.hid hwx
            clear kc hx hxk hwx
            subst e'
            generalize hS' : (sheets.take k).reverse ++ S = S' at *
            cases e1 : decide (x ∈ S')
            · rw [e1] at LK
              cases e2 : (decide (1 ≤ x) && decide (x ≤ s.ns - 1))
              · rw [e2] at cI
                have HN := Lib.hid (show sheetsOk s.ns S sheets = false by rw [HO.out, HD.out]; unfold sheetsOk; rw [e2]; simp)
                clear e1 e2
                go_wp2_with fail
                refine (cI _).mono ?_
                rintro e w1 ⟨rfl, rfl⟩
                go_wp2_with fail
                go_ret
                exact ⟨tr.trans hgr, .inl ⟨by rw [HN.out, Bool.and_false], rfl⟩⟩
              · have hk9 : k ≤ 1000000 := by omega
                rw [e2] at cI
                have HN := Lib.hid (show sheetsOk s.ns S sheets = sheetsOk s.ns (x :: S') (sheets.drop (k + 1)) by rw [HO.out, HD.out]; rw [sheetsOk, e2, e1]; rfl)
                clear e1 e2
                go_wp2_with fail
                refine (cI _).mono ?_
                rintro e w1 ⟨rfl, rfl⟩
                obtain ⟨wu, hup, HS2, htn⟩ := Seen.put HSN.out HW.out (by omega)
                have HS2' := Lib.hid HS2
                clear HS2
                go_wp2_with fail
                go_roundw
                case rel => exact ⟨hgr.trans htn, k + 1, by go_num, by omega, by rw [HTK.out]; exact HS2'.out, by rw [HTK.out]; exact HN.out⟩
                case measure => simp [intOf]; omega
            · rw [e1] at LK
              have HN := Lib.hid (show sheetsOk s.ns S sheets = false by rw [HO.out, HD.out]; unfold sheetsOk; rw [e1]; rfl)
              clear e1
              go_wp2_with fail
              go_ret
              exact ⟨tr.trans hgr, .inl ⟨by rw [HN.out, Bool.and_false], rfl⟩⟩
          · have hkl' : ¬ (k : Int) < sheets.length := by omega
            go_wp2_with fail
            go_ret
            exact ⟨tr.trans hgr, .inr ⟨by rw [HO.out, HN.out, List.drop_of_length_le (by omega)]; rfl, rfl, by
              have := HSN.out
              rw [List.take_of_length_le (by omega), show k = sheets.length by omega] at this; exact this⟩⟩
end Go.Proofs.YtnajccljdjllgaaDoor
