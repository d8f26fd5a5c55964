/- The walks of SameBooks, SameNote, SameShelf, GreatShelf. -/
import Derived.Test.YtnajccljdjllgaaDoorSame
import Derived.Laws.StructEq
import Derived.StillTailTactics
set_option linter.unusedVariables false
set_option linter.unusedSimpArgs false
namespace Go.Proofs.YtnajccljdjllgaaDoor
open Go.RowKit Go.Lib
theorem eqBook (x y : Book) (w : World) : (Op.equalIn 10000 37 (.agg #[.int .i64 x.id, .string x.name]) (.agg #[.int .i64 y.id, .string y.name])).run Tryd.prog w = .ok (x.id == y.id && x.name.toList == y.name.toList) w := by
  refine eq_struct (d := 9999) Tryd.underlying37 (by kernel_rfl) ?_
  refine eqf_more (by rfl) (by go_simp; rfl) (by go_simp; rfl) (by go_simp) ?_
  exact eqf_one (by rfl) (by go_simp; rfl) (by go_simp; rfl) (by go_simp)
theorem neqBook (x y : Book) (r : Bool) (h : (x.id == y.id && x.name.toList == y.name.toList) = r) (w : World) : (binOp .neq 37 (.agg #[.int .i64 x.id, .string x.name]) (.agg #[.int .i64 y.id, .string y.name])).run Tryd.prog w = .ok (.bool (!r)) w := by
  rw [run_neq_struct, eqBook, h]; rfl
theorem eqlBook (x y : Book) (r : Bool) (h : (x.id == y.id && x.name.toList == y.name.toList) = r) (w : World) : (binOp .eql 37 (.agg #[.int .i64 x.id, .string x.name]) (.agg #[.int .i64 y.id, .string y.name])).run Tryd.prog w = .ok (.bool r) w := by
  rw [run_eql_struct, eqBook, h]; rfl
set_option maxRecDepth 100000 in
theorem sameBooks_any (va vb : Value) (l m : List Book) (w : World) (hl : Books w va l) (hm : Books w vb m) (hz : l.length ≤ 1000000000) :
    Calls Tryd.prog 24 #[va, vb] w fun e w' => e = .returned (.bool (same l m)) ∧ Grow w w' := by
  obtain ⟨a, c, rfl⟩ := hl.mk
  obtain ⟨a', c', rfl⟩ := hm.mk
  by_cases hlm : l.length = m.length
  · have hn : ((l.length : Int) != (m.length : Int)) = false := by rw [hlm]; simp
    have HLM := Lib.hid hlm
    clear hlm
    go_enter Tryd.func24, Tryd.ntmps24
    go_wp2
    go_loopw [5] (fun v5 wx => Grow w wx ∧ ∃ i : Nat, v5 = .int .i64 i ∧ i ≤ l.length ∧ ∀ j x y, j < i → l[j]? = some x → m[j]? = some y → x = y) (fun v5 _ => l.length - (intOf v5).toNat)
    case atStart => exact ⟨Grow.refl _, 0, rfl, by omega, fun j _ _ h => absurd h (by omega)⟩
    case round =>
      obtain ⟨hg, i, rfl, hi, hall⟩ := hrel
      have HA := Lib.hid hall
      clear hall hn
      by_cases hlt : i < l.length
      · have hlt' : (i : Int) < l.length := by omega
        have hlm' : (i : Int) < m.length := by have := HLM.out; omega
        obtain ⟨x, hx, -⟩ := lt_get hlt
        obtain ⟨y, hy, -⟩ := lt_get (l := m) (i := i) (by omega)
        obtain ⟨b, off, rfl, -, hc, hd⟩ := (hl.grow hg).at hx
        obtain ⟨b', off', rfl, -, hc', hd'⟩ := (hm.grow hg).at hy
        have HX := Lib.hid hx
        have HY := Lib.hid hy
        clear hx hy hl hm
        by_cases hxy : x = y
        · have hq := neqBook x y true (by rw [hxy]; simp)
          have HXY := Lib.hid hxy
          clear hxy
          go_wp2
          go_quiet (fail)
          go_wp2
          go_roundw
          case rel => exact ⟨hg.drewN _, i + 1, by go_num, by omega, fun j x' y' hj h1 h2 => by
            rcases (by omega : j < i ∨ j = i) with h3 | rfl
            · exact HA.out j x' y' h3 h1 h2
            · rw [HX.out] at h1; rw [HY.out] at h2; injection h1 with h1; injection h2 with h2; rw [← h1, ← h2]; exact HXY.out⟩
          case measure => simp [intOf]; omega
        · have hq : (x.id == y.id && x.name.toList == y.name.toList) = false := by
            rw [Bool.eq_false_iff]; intro e; rw [Bool.and_eq_true, beq_iff_eq, beq_iff_eq] at e
            exact hxy (by cases x; cases y; simp only [Book.mk.injEq]; exact ⟨e.1, eq_of_tl e.2⟩)
          replace hq := neqBook x y false hq
          have HR := Lib.hid (same_no (a := l) (b := m) (fun e => hxy (by have h1 := HX.out; rw [e, HY.out] at h1; injection h1 with h1; exact h1.symm)))
          clear hxy
          go_wp2
          go_quiet (fail)
          go_wp2
          go_ret
          exact ⟨ret_bool HR.out.symm, hg.drewN _⟩
      · have HR := Lib.hid (same_yes (list_same HLM.out (fun j x y h1 h2 => HA.out j x y (by have := (List.getElem?_eq_some_iff.1 h1).1; omega) h1 h2)))
        have hlt' : ¬ (i : Int) < l.length := by omega
        clear hl hm
        go_wp2
        go_ret
        exact ⟨ret_bool HR.out.symm, hg⟩
  · have hn : ((l.length : Int) != (m.length : Int)) = true := by rw [bne_iff_ne]; omega
    have HR := Lib.hid (same_no (a := l) (b := m) (fun e => hlm (by rw [e])))
    clear hlm hl hm
    go_enter Tryd.func24, Tryd.ntmps24
    go_wp2
    go_ret
    exact ⟨ret_bool HR.out.symm, Grow.refl _⟩
def noteV (x : Note) (tv sv : Value) : Value := .agg #[.int .i64 x.id, .int .i64 x.book, .string x.name, tv, sv]
theorem sameNote_eq (x y : Note) : same x y = (x.id == y.id && x.book == y.book && x.name.toList == y.name.toList && same x.tags y.tags && same x.sheets y.sheets) := by
  rw [Bool.eq_iff_iff, same_iff]
  simp only [Bool.and_eq_true, beq_iff_eq, same_iff]
  constructor
  · rintro rfl; exact ⟨⟨⟨⟨rfl, rfl⟩, rfl⟩, rfl⟩, rfl⟩
  · rintro ⟨⟨⟨⟨e1, e2⟩, e3⟩, e4⟩, e5⟩
    obtain ⟨id, book, name, tags, sheets⟩ := x
    obtain ⟨id', book', name', tags', sheets'⟩ := y
    simp only at e1 e2 e3 e4 e5
    rw [e1, e2, eq_of_tl e3, e4, e5]
set_option maxRecDepth 100000 in
theorem sameNote_any (x y : Note) (tv sv tv' sv' : Value) (w : World) (h1 : Texts w tv x.tags) (h2 : Ints w sv x.sheets) (h3 : Texts w tv' y.tags) (h4 : Ints w sv' y.sheets) (z1 : x.tags.length ≤ 1000000000) (z2 : x.sheets.length ≤ 1000000000) :
    Calls Tryd.prog 25 #[noteV x tv sv, noteV y tv' sv'] w fun e w' => e = .returned (.bool (same x y)) ∧ Grow w w' := by
  have cT := fun W (g : Grow w W) => sameTexts_any tv tv' x.tags y.tags W (Texts.grow h1 g) (Texts.grow h3 g) z1
  have cI := fun W (g : Grow w W) => sameInts_any sv sv' x.sheets y.sheets W (Ints.grow h2 g) (Ints.grow h4 g) z2
  rw [sameNote_eq]
  unfold noteV
  obtain ⟨id, book, name, tags, sheets⟩ := x
  obtain ⟨id', book', name', tags', sheets'⟩ := y
  obtain ⟨a1, c1, rfl⟩ := h1.mk
  obtain ⟨a2, c2, rfl⟩ := h2.mk
  obtain ⟨a3, c3, rfl⟩ := h3.mk
  obtain ⟨a4, c4, rfl⟩ := h4.mk
  simp only at cT cI z1 z2 ⊢
  clear h1 h2 h3 h4
  by_cases e1 : (id == id') = true
  · rw [e1]
    by_cases e2 : (book == book') = true
    · rw [e2]
      by_cases e3 : (name.toList == name'.toList) = true
      · rw [e3]
        simp only [Bool.true_and]
        generalize same tags tags' = t1 at *
        generalize same sheets sheets' = t2 at *
        cases t1
        · go_enter Tryd.func25, Tryd.ntmps25
          go_wp2_with fail
          refine (cT _ (((Grow.refl w).alloc _).alloc _)).mono ?_
          rintro e w1 ⟨rfl, g1⟩
          have hc := g1.cells
          go_wp2_with fail
          go_ret
          exact ⟨ret_bool rfl, (((Grow.refl w).alloc _).alloc _).trans g1⟩
        · go_enter Tryd.func25, Tryd.ntmps25
          go_wp2_with fail
          refine (cT _ (((Grow.refl w).alloc _).alloc _)).mono ?_
          rintro e w1 ⟨rfl, g1⟩
          have hc := g1.cells
          have g2 := (((Grow.refl w).alloc _).alloc _).trans g1
          clear cT
          go_wp2_with fail
          refine (cI _ g2).mono ?_
          rintro e w2 ⟨rfl, g3⟩
          go_wp2_with fail
          go_ret
          exact ⟨ret_bool (Bool.true_and _).symm, g2.trans g3⟩
      · replace e3 : (name.toList == name'.toList) = false := by simpa using e3
        rw [e3]
        clear cT cI
        go_enter Tryd.func25, Tryd.ntmps25
        go_wp2_with fail
        go_ret
        exact ⟨ret_bool (by simp), ((Grow.refl w).alloc _).alloc _⟩
    · replace e2 : (book == book') = false := by simpa using e2
      rw [e2]
      clear cT cI
      go_enter Tryd.func25, Tryd.ntmps25
      go_wp2_with fail
      go_ret
      exact ⟨ret_bool (by simp), ((Grow.refl w).alloc _).alloc _⟩
  · replace e1 : (id == id') = false := by simpa using e1
    rw [e1]
    clear cT cI
    go_enter Tryd.func25, Tryd.ntmps25
    go_wp2_with fail
    go_ret
    exact ⟨ret_bool (by simp), ((Grow.refl w).alloc _).alloc _⟩
theorem sameShelf_eq (x y : Shelf) : same x y = (x.nb == y.nb && x.nn == y.nn && x.ns == y.ns && same x.books y.books && same x.notes y.notes) := by
  rw [Bool.eq_iff_iff, same_iff]
  simp only [Bool.and_eq_true, beq_iff_eq, same_iff]
  constructor
  · rintro rfl; exact ⟨⟨⟨⟨rfl, rfl⟩, rfl⟩, rfl⟩, rfl⟩
  · rintro ⟨⟨⟨⟨e1, e2⟩, e3⟩, e4⟩, e5⟩
    obtain ⟨a, b, c, d, e⟩ := x
    obtain ⟨a', b', c', d', e'⟩ := y
    simp only at e1 e2 e3 e4 e5
    rw [e1, e2, e3, e4, e5]
/-- All lengths are far from int's end. -/
def Tame (s : Shelf) : Prop := s.books.length ≤ 1000000 ∧ s.notes.length ≤ 1000000 ∧ (∀ b ∈ s.books, b.name.size ≤ 1000000) ∧ ∀ n ∈ s.notes, n.name.size ≤ 1000000 ∧ n.tags.length ≤ 1000000 ∧ n.sheets.length ≤ 1000000 ∧ ∀ t ∈ n.tags, t.size ≤ 1000000
theorem Tame.note {s : Shelf} (h : Tame s) {i : Nat} {x : Note} (hx : s.notes[i]? = some x) : x.name.size ≤ 1000000 ∧ x.tags.length ≤ 1000000 ∧ x.sheets.length ≤ 1000000 ∧ ∀ t ∈ x.tags, t.size ≤ 1000000 := h.2.2.2 x (List.mem_of_getElem? hx)
theorem Tame.book {s : Shelf} (h : Tame s) {i : Nat} {x : Book} (hx : s.books[i]? = some x) : x.name.size ≤ 1000000 := h.2.2.1 x (List.mem_of_getElem? hx)
set_option maxRecDepth 100000 in
set_option maxHeartbeats 1000000 in
theorem sameShelf_any (x y : Shelf) (bv nv bv' nv' : Value) (w : World) (hx : ShelfR w x bv nv) (hy : ShelfR w y bv' nv') (hz : Tame x) :
    Calls Tryd.prog 9 #[shelfV x bv nv, shelfV y bv' nv'] w fun e w' => e = .returned (.bool (same x y)) ∧ Grow w w' := by
  rw [sameShelf_eq]
  have cB := fun W (g : Grow w W) => sameBooks_any bv bv' x.books y.books W (Books.grow hx.1 g) (Books.grow hy.1 g) (by have := hz.1; omega)
  have cN := fun (n m : Note) tv sv tv' sv' W h1 h2 h3 h4 z1 z2 => sameNote_any n m tv sv tv' sv' W h1 h2 h3 h4 z1 z2
  have zn := hz.2.1
  obtain ⟨a1, c1, rfl⟩ := hx.1.mk
  obtain ⟨a2, c2, rfl⟩ := hx.2.mk
  obtain ⟨a3, c3, rfl⟩ := hy.1.mk
  obtain ⟨a4, c4, rfl⟩ := hy.2.mk
  have hn1 := hx.2
  have hn2 := hy.2
  have HZ := Lib.hid hz
  clear hx hy hz
  unfold shelfV
  by_cases e1 : (x.nb == y.nb) = true
  · rw [e1]
    have e1' : (x.nb != y.nb) = false := by simpa using e1
    by_cases e2 : (x.nn == y.nn) = true
    · rw [e2]
      have e2' : (x.nn != y.nn) = false := by simpa using e2
      by_cases e3 : (x.ns == y.ns) = true
      · rw [e3]
        have e3' : (x.ns != y.ns) = false := by simpa using e3
        simp only [Bool.true_and]
        generalize same x.books y.books = t1 at *
        cases t1
        · go_enter Tryd.func9, Tryd.ntmps9
          go_wp2_with fail
          refine (cB _ (((Grow.refl w).alloc _).alloc _)).mono ?_
          rintro e w1 ⟨rfl, g1⟩
          have hc := g1.cells
          go_wp2_with fail
          go_ret
          exact ⟨ret_bool rfl, (((Grow.refl w).alloc _).alloc _).trans g1⟩
        · by_cases hl : x.notes.length = y.notes.length
          · have hl' : ((x.notes.length : Int) != (y.notes.length : Int)) = false := by rw [hl]; simp
            have HL := Lib.hid hl
            clear hl
            simp only [Bool.true_and]
            go_enter Tryd.func9, Tryd.ntmps9
            go_wp2_with fail
            refine (cB _ (((Grow.refl w).alloc _).alloc _)).mono ?_
            rintro e w1 ⟨rfl, g1⟩
            have hc := g1.cells
            have g2 := (((Grow.refl w).alloc _).alloc _).trans g1
            have b1 : w1.cell? ⟨w.heap.size, 4, none⟩ = some (.slice a2 x.notes.length c2) := by rw [hc _ _ (by simp; omega)]; simp [go_sem]
            have b2 : w1.cell? ⟨w.heap.size + 1, 4, none⟩ = some (.slice a4 y.notes.length c4) := by rw [hc _ _ (by simp)]; simp [go_sem]
            have hsz : w.heap.size + 1 < w1.heap.size := by have := g1.size; simp at this; omega
            clear cB g1
            go_wp2_with fail
            go_loopw [5] (fun v5 wx => Grow w1 wx ∧ ∃ i : Nat, v5 = .int .i64 i ∧ i ≤ x.notes.length ∧ ∀ (j : Nat) n m, j < i → x.notes[j]? = some n → y.notes[j]? = some m → n = m) (fun v5 _ => x.notes.length - (intOf v5).toNat)
            case atStart => exact ⟨Grow.refl _, 0, rfl, by omega, fun j _ _ h => absurd h (by omega)⟩
            case round =>
              obtain ⟨hg, i, rfl, hi, hall⟩ := hrel
              have HA := Lib.hid hall
              clear hall hc
              have b1' : wr.cell? ⟨w.heap.size, 4, none⟩ = some (.slice a2 x.notes.length c2) := (hg.cells _ _ (by omega)).trans b1
              have b2' : wr.cell? ⟨w.heap.size + 1, 4, none⟩ = some (.slice a4 y.notes.length c4) := (hg.cells _ _ (by omega)).trans b2
              have gw := g2.trans hg
              clear b1 b2
              by_cases hlt : i < x.notes.length
              · have hlt' : (i : Int) < x.notes.length := by omega
                have hlm' : (i : Int) < y.notes.length := by have := HL.out; omega
                obtain ⟨n, hn, -⟩ := lt_get hlt
                obtain ⟨m, hm, -⟩ := lt_get (l := y.notes) (i := i) (by omega)
                obtain ⟨b, off, tv, sv, rfl, -, p0, p1, p2, p3, p4, ht, hs⟩ := (hn1.grow gw).at hn
                obtain ⟨b', off', tv', sv', rfl, -, q0, q1, q2, q3, q4, ht', hs'⟩ := (hn2.grow gw).at hm
                obtain ⟨zz1, zz2, zz3, -⟩ := HZ.out.note hn
                have c := fun q => cN n m tv sv tv' sv' (wr.drewN q) (ht.grow ((Grow.refl _).drewN _)) (hs.grow ((Grow.refl _).drewN _)) (ht'.grow ((Grow.refl _).drewN _)) (hs'.grow ((Grow.refl _).drewN _)) (by omega) (by omega)
                clear cN
                unfold noteV at c
                go_wp2_with fail
                have HN := Lib.hid hn
                have HM := Lib.hid hm
                clear hn hm hn1 hn2
                cases hr : same n m
                · have HR := Lib.hid (same_no (a := x.notes) (b := y.notes) (fun e => by have h1 := HN.out; rw [e, HM.out] at h1; injection h1 with h1; rw [same_yes h1.symm] at hr; cases hr))
                  rw [hr] at c
                  clear hr
                  go_still_tail 10, (by kernel_rfl)
                  change wpList _ _ _ _ _ wr.drew
                  go_wp2_with fail
                  refine (c 1).mono ?_
                  rintro e w3 ⟨rfl, g3⟩
                  go_wp2_with fail
                  go_ret
                  exact ⟨ret_bool HR.out.symm, gw.drew.trans g3⟩
                · have HR := Lib.hid (same_iff.1 hr)
                  rw [hr] at c
                  clear hr
                  go_still_tail 10, (by kernel_rfl)
                  change wpList _ _ _ _ _ wr.drew
                  go_wp2_with fail
                  refine (c 1).mono ?_
                  rintro e w3 ⟨rfl, g3⟩
                  go_wp2_with fail
                  go_roundw
                  case rel => exact ⟨hg.drew.trans g3, i + 1, by go_num, by omega, fun j n' m' hj h1 h2 => by
                    rcases (by omega : j < i ∨ j = i) with h3 | rfl
                    · exact HA.out j n' m' h3 h1 h2
                    · rw [HN.out] at h1; rw [HM.out] at h2; injection h1 with h1; injection h2 with h2; rw [← h1, ← h2]; exact HR.out⟩
                  case measure => simp [intOf]; omega
              · have HR := Lib.hid (same_yes (list_same HL.out (fun j n m h1 h2 => HA.out j n m (by have := (List.getElem?_eq_some_iff.1 h1).1; omega) h1 h2)))
                have hlt' : ¬ (i : Int) < x.notes.length := by omega
                clear hn1 hn2 cN
                go_wp2_with fail
                go_ret
                exact ⟨ret_bool HR.out.symm, gw⟩
          · have hl' : ((x.notes.length : Int) != (y.notes.length : Int)) = true := by rw [bne_iff_ne]; omega
            have HR := Lib.hid (same_no (a := x.notes) (b := y.notes) (fun e => hl (by rw [e])))
            clear hl hn1 hn2 cN
            go_enter Tryd.func9, Tryd.ntmps9
            go_wp2_with fail
            refine (cB _ (((Grow.refl w).alloc _).alloc _)).mono ?_
            rintro e w1 ⟨rfl, g1⟩
            have hc := g1.cells
            go_wp2_with fail
            go_ret
            exact ⟨ret_bool (by rw [HR.out]; rfl), (((Grow.refl w).alloc _).alloc _).trans g1⟩
      · have e3' : (x.ns != y.ns) = true := by simpa using e3
        replace e3 : (x.ns == y.ns) = false := by simpa using e3
        rw [e3]
        clear cB cN hn1 hn2 e3
        go_enter Tryd.func9, Tryd.ntmps9
        go_wp2_with fail
        go_ret
        exact ⟨ret_bool (by simp), ((Grow.refl w).alloc _).alloc _⟩
    · have e2' : (x.nn != y.nn) = true := by simpa using e2
      replace e2 : (x.nn == y.nn) = false := by simpa using e2
      rw [e2]
      clear cB cN hn1 hn2 e2
      go_enter Tryd.func9, Tryd.ntmps9
      go_wp2_with fail
      go_ret
      exact ⟨ret_bool (by simp), ((Grow.refl w).alloc _).alloc _⟩
  · have e1' : (x.nb != y.nb) = true := by simpa using e1
    replace e1 : (x.nb == y.nb) = false := by simpa using e1
    rw [e1]
    clear cB cN hn1 hn2 e1
    go_enter Tryd.func9, Tryd.ntmps9
    go_wp2_with fail
    go_ret
    exact ⟨ret_bool (by simp), ((Grow.refl w).alloc _).alloc _⟩
end Go.Proofs.YtnajccljdjllgaaDoor
