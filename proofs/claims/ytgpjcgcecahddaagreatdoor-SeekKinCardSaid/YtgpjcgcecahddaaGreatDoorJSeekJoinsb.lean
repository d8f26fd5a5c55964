/- The walks of SameBooks, SameNote, SameShelf, GreatShelf. A copy of a shelf: shelf.own, note.own. The walks of shelf.own and note.own. Items, ordered by their names: cmp.Compare of texts, shelf.byName. The walks of slices.IndexFunc over books, of shelf.in, shelf.named, shelf.book. Plain facts on UTF-8: what the reference's rune1 reckons is the model's own decoding, but for broken runes. The walks of packages name and jotterref3: what each function answers. The walk of shelf.mayTags. The set of sheets' numbers that shelf.May keeps in a map. The walk of shelf.mayNote. -/
import Derived.Test.YtgpjcgcecahddaaGreatDoorJSeekJoinsa
import Derived.Laws.StructEq
import Derived.StillTailTactics
import Derived.Deep.RegionLaw
import Derived.Lib.DecodeNEq
import Derived.Lib.ValidAsc
import Derived.Lib.RuneCount
import Derived.Shelf.GgClosure.StringsIndexFunc
import Derived.Test.YtgpjcgcecahddaaGreatDoorShelf
import Derived.WalkKit
import Derived.Below
import Derived.Deep.QuietTactic
import Derived.BigQuiet
import Derived.WalkLawsBesides
import Derived.WalkSpells
import Derived.Lib.Hide
import Derived.Outline
import Derived.Laws.RangeString
import Derived.Laws.RangeAny
import Derived.LoopTactic
import Derived.Deep.LoopGhost
import Derived.Maps.Own
import Derived.Maps.Views
import Derived.Maps.Keyed
import Derived.Laws.OwnMore
set_option linter.unusedVariables false
set_option linter.unusedSimpArgs false
namespace Go.Proofs.YtgpjcgcecahddaaGreatDoor
open Go.RowKit Go.Lib
theorem eqBook (x y : Book) (w : World) : (Op.equalIn 10000 60 (.agg #[.int .i64 x.id, .string x.name]) (.agg #[.int .i64 y.id, .string y.name])).run Tryz.prog w = .ok (x.id == y.id && x.name.toList == y.name.toList) w := by
  refine eq_struct (d := 9999) Tryz.underlying60 (by kernel_rfl) ?_
  refine eqf_more (by rfl) (by go_simp; rfl) (by go_simp; rfl) (by go_simp) ?_
  exact eqf_one (by rfl) (by go_simp; rfl) (by go_simp; rfl) (by go_simp)
theorem neqBook (x y : Book) (r : Bool) (h : (x.id == y.id && x.name.toList == y.name.toList) = r) (w : World) : (binOp .neq 60 (.agg #[.int .i64 x.id, .string x.name]) (.agg #[.int .i64 y.id, .string y.name])).run Tryz.prog w = .ok (.bool (!r)) w := by
  rw [run_neq_struct, eqBook, h]; rfl
theorem eqlBook (x y : Book) (r : Bool) (h : (x.id == y.id && x.name.toList == y.name.toList) = r) (w : World) : (binOp .eql 60 (.agg #[.int .i64 x.id, .string x.name]) (.agg #[.int .i64 y.id, .string y.name])).run Tryz.prog w = .ok (.bool r) w := by
  rw [run_eql_struct, eqBook, h]; rfl
set_option maxRecDepth 100000 in
theorem sameBooks_any (va vb : Value) (l m : List Book) (w : World) (hl : Books w va l) (hm : Books w vb m) (hz : l.length ≤ 1000000000) :
    Calls Tryz.prog 65 #[va, vb] w fun e w' => e = .returned (.bool (same l m)) ∧ Grow w w' := by
  obtain ⟨a, c, rfl⟩ := hl.mk
  obtain ⟨a', c', rfl⟩ := hm.mk
  by_cases hlm : l.length = m.length
  · have hn : ((l.length : Int) != (m.length : Int)) = false := by rw [hlm]; simp
    have HLM := Lib.hid hlm
    clear hlm
    go_enter Tryz.func65, Tryz.ntmps65
    go_wp2
    go_loopw [5] (fun v5 wx => Grow w wx ∧ ∃ i : Nat, v5 = .int .i64 i ∧ i ≤ l.length ∧ ∀ j x y, j < i → l[j]? = some x → m[j]? = some y → x = y) (fun v5 _ => l.length - (intOf v5).toNat)
    case atStart => exact ⟨Grow.refl _, 0, rfl, by omega, fun j _ _ h => absurd h (by omega)⟩
    case round =>
      obtain ⟨hg, i, rfl, hi, hall⟩ := hrel
      have HA := Lib.hid hall
      clear hall hn
      by_cases hlt : i < l.length
      · have hlt' : (i : Int) < l.length := by omega
        have hlm' : (i : Int) < m.length := by have := HLM.out; omega
        obtain ⟨x, hx, -⟩ := lt_get hlt
        obtain ⟨y, hy, -⟩ := lt_get (l := m) (i := i) (by omega)
        obtain ⟨b, off, rfl, -, hc, hd⟩ := (hl.grow hg).at hx
        obtain ⟨b', off', rfl, -, hc', hd'⟩ := (hm.grow hg).at hy
        have HX := Lib.hid hx
        have HY := Lib.hid hy
        clear hx hy hl hm
        by_cases hxy : x = y
        · have hq := neqBook x y true (by rw [hxy]; simp)
          have HXY := Lib.hid hxy
          clear hxy
          go_wp2
          go_quiet (fail)
          go_wp2
          go_roundw
          case rel => exact ⟨hg.drewN _, i + 1, by go_num, by omega, fun j x' y' hj h1 h2 => by
            rcases (by omega : j < i ∨ j = i) with h3 | rfl
            · exact HA.out j x' y' h3 h1 h2
            · rw [HX.out] at h1; rw [HY.out] at h2; injection h1 with h1; injection h2 with h2; rw [← h1, ← h2]; exact HXY.out⟩
          case measure => simp [intOf]; omega
        · have hq : (x.id == y.id && x.name.toList == y.name.toList) = false := by
            rw [Bool.eq_false_iff]; intro e; rw [Bool.and_eq_true, beq_iff_eq, beq_iff_eq] at e
            exact hxy (by cases x; cases y; simp only [Book.mk.injEq]; exact ⟨e.1, eq_of_tl e.2⟩)
          replace hq := neqBook x y false hq
          have HR := Lib.hid (same_no (a := l) (b := m) (fun e => hxy (by have h1 := HX.out; rw [e, HY.out] at h1; injection h1 with h1; exact h1.symm)))
          clear hxy
          go_wp2
          go_quiet (fail)
          go_wp2
          go_ret
          exact ⟨ret_bool HR.out.symm, hg.drewN _⟩
      · have HR := Lib.hid (same_yes (list_same HLM.out (fun j x y h1 h2 => HA.out j x y (by have := (List.getElem?_eq_some_iff.1 h1).1; omega) h1 h2)))
        have hlt' : ¬ (i : Int) < l.length := by omega
        clear hl hm
        go_wp2
        go_ret
        exact ⟨ret_bool HR.out.symm, hg⟩
  · have hn : ((l.length : Int) != (m.length : Int)) = true := by rw [bne_iff_ne]; omega
    have HR := Lib.hid (same_no (a := l) (b := m) (fun e => hlm (by rw [e])))
    clear hlm hl hm
    go_enter Tryz.func65, Tryz.ntmps65
    go_wp2
    go_ret
    exact ⟨ret_bool HR.out.symm, Grow.refl _⟩
def noteV (x : Note) (tv sv : Value) : Value := .agg #[.int .i64 x.id, .int .i64 x.book, .string x.name, tv, sv]
theorem sameNote_eq (x y : Note) : same x y = (x.id == y.id && x.book == y.book && x.name.toList == y.name.toList && same x.tags y.tags && same x.sheets y.sheets) := by
  rw [Bool.eq_iff_iff, same_iff]
  simp only [Bool.and_eq_true, beq_iff_eq, same_iff]
  constructor
  · rintro rfl; exact ⟨⟨⟨⟨rfl, rfl⟩, rfl⟩, rfl⟩, rfl⟩
  · rintro ⟨⟨⟨⟨e1, e2⟩, e3⟩, e4⟩, e5⟩
    obtain ⟨id, book, name, tags, sheets⟩ := x
    obtain ⟨id', book', name', tags', sheets'⟩ := y
    simp only at e1 e2 e3 e4 e5
    rw [e1, e2, eq_of_tl e3, e4, e5]
set_option maxRecDepth 100000 in
theorem sameNote_any (x y : Note) (tv sv tv' sv' : Value) (w : World) (h1 : Texts w tv x.tags) (h2 : Ints w sv x.sheets) (h3 : Texts w tv' y.tags) (h4 : Ints w sv' y.sheets) (z1 : x.tags.length ≤ 1000000000) (z2 : x.sheets.length ≤ 1000000000) :
    Calls Tryz.prog 66 #[noteV x tv sv, noteV y tv' sv'] w fun e w' => e = .returned (.bool (same x y)) ∧ Grow w w' := by
  have cT := fun W (g : Grow w W) => sameTexts_any tv tv' x.tags y.tags W (Texts.grow h1 g) (Texts.grow h3 g) z1
  have cI := fun W (g : Grow w W) => sameInts_any sv sv' x.sheets y.sheets W (Ints.grow h2 g) (Ints.grow h4 g) z2
  rw [sameNote_eq]
  unfold noteV
  obtain ⟨id, book, name, tags, sheets⟩ := x
  obtain ⟨id', book', name', tags', sheets'⟩ := y
  obtain ⟨a1, c1, rfl⟩ := h1.mk
  obtain ⟨a2, c2, rfl⟩ := h2.mk
  obtain ⟨a3, c3, rfl⟩ := h3.mk
  obtain ⟨a4, c4, rfl⟩ := h4.mk
  simp only at cT cI z1 z2 ⊢
  clear h1 h2 h3 h4
  by_cases e1 : (id == id') = true
  · rw [e1]
    by_cases e2 : (book == book') = true
    · rw [e2]
      by_cases e3 : (name.toList == name'.toList) = true
      · rw [e3]
        simp only [Bool.true_and]
        generalize same tags tags' = t1 at *
        generalize same sheets sheets' = t2 at *
        cases t1
        · go_enter Tryz.func66, Tryz.ntmps66
          go_wp2_with fail
          refine (cT _ (((Grow.refl w).alloc _).alloc _)).mono ?_
          rintro e w1 ⟨rfl, g1⟩
          have hc := g1.cells
          go_wp2_with fail
          go_ret
          exact ⟨ret_bool rfl, (((Grow.refl w).alloc _).alloc _).trans g1⟩
        · go_enter Tryz.func66, Tryz.ntmps66
          go_wp2_with fail
          refine (cT _ (((Grow.refl w).alloc _).alloc _)).mono ?_
          rintro e w1 ⟨rfl, g1⟩
          have hc := g1.cells
          have g2 := (((Grow.refl w).alloc _).alloc _).trans g1
          clear cT
          go_wp2_with fail
          refine (cI _ g2).mono ?_
          rintro e w2 ⟨rfl, g3⟩
          go_wp2_with fail
          go_ret
          exact ⟨ret_bool (Bool.true_and _).symm, g2.trans g3⟩
      · replace e3 : (name.toList == name'.toList) = false := by simpa using e3
        rw [e3]
        clear cT cI
        go_enter Tryz.func66, Tryz.ntmps66
        go_wp2_with fail
        go_ret
        exact ⟨ret_bool (by simp), ((Grow.refl w).alloc _).alloc _⟩
    · replace e2 : (book == book') = false := by simpa using e2
      rw [e2]
      clear cT cI
      go_enter Tryz.func66, Tryz.ntmps66
      go_wp2_with fail
      go_ret
      exact ⟨ret_bool (by simp), ((Grow.refl w).alloc _).alloc _⟩
  · replace e1 : (id == id') = false := by simpa using e1
    rw [e1]
    clear cT cI
    go_enter Tryz.func66, Tryz.ntmps66
    go_wp2_with fail
    go_ret
    exact ⟨ret_bool (by simp), ((Grow.refl w).alloc _).alloc _⟩
theorem sameShelf_eq (x y : Shelf) : same x y = (x.nb == y.nb && x.nn == y.nn && x.ns == y.ns && same x.books y.books && same x.notes y.notes) := by
  rw [Bool.eq_iff_iff, same_iff]
  simp only [Bool.and_eq_true, beq_iff_eq, same_iff]
  constructor
  · rintro rfl; exact ⟨⟨⟨⟨rfl, rfl⟩, rfl⟩, rfl⟩, rfl⟩
  · rintro ⟨⟨⟨⟨e1, e2⟩, e3⟩, e4⟩, e5⟩
    obtain ⟨a, b, c, d, e⟩ := x
    obtain ⟨a', b', c', d', e'⟩ := y
    simp only at e1 e2 e3 e4 e5
    rw [e1, e2, e3, e4, e5]
/-- All lengths are far from int's end. -/
def Tame (s : Shelf) : Prop := s.books.length ≤ 1000000 ∧ s.notes.length ≤ 1000000 ∧ (∀ b ∈ s.books, b.name.size ≤ 1000000) ∧ ∀ n ∈ s.notes, n.name.size ≤ 1000000 ∧ n.tags.length ≤ 1000000 ∧ n.sheets.length ≤ 1000000 ∧ ∀ t ∈ n.tags, t.size ≤ 1000000
theorem Tame.note {s : Shelf} (h : Tame s) {i : Nat} {x : Note} (hx : s.notes[i]? = some x) : x.name.size ≤ 1000000 ∧ x.tags.length ≤ 1000000 ∧ x.sheets.length ≤ 1000000 ∧ ∀ t ∈ x.tags, t.size ≤ 1000000 := h.2.2.2 x (List.mem_of_getElem? hx)
theorem Tame.book {s : Shelf} (h : Tame s) {i : Nat} {x : Book} (hx : s.books[i]? = some x) : x.name.size ≤ 1000000 := h.2.2.1 x (List.mem_of_getElem? hx)
set_option maxRecDepth 100000 in
set_option maxHeartbeats 1000000 in
theorem sameShelf_any (x y : Shelf) (bv nv bv' nv' : Value) (w : World) (hx : ShelfR w x bv nv) (hy : ShelfR w y bv' nv') (hz : Tame x) :
    Calls Tryz.prog 27 #[shelfV x bv nv, shelfV y bv' nv'] w fun e w' => e = .returned (.bool (same x y)) ∧ Grow w w' := by
  rw [sameShelf_eq]
  have cB := fun W (g : Grow w W) => sameBooks_any bv bv' x.books y.books W (Books.grow hx.1 g) (Books.grow hy.1 g) (by have := hz.1; omega)
  have cN := fun (n m : Note) tv sv tv' sv' W h1 h2 h3 h4 z1 z2 => sameNote_any n m tv sv tv' sv' W h1 h2 h3 h4 z1 z2
  have zn := hz.2.1
  obtain ⟨a1, c1, rfl⟩ := hx.1.mk
  obtain ⟨a2, c2, rfl⟩ := hx.2.mk
  obtain ⟨a3, c3, rfl⟩ := hy.1.mk
  obtain ⟨a4, c4, rfl⟩ := hy.2.mk
  have hn1 := hx.2
  have hn2 := hy.2
  have HZ := Lib.hid hz
  clear hx hy hz
  unfold shelfV
  by_cases e1 : (x.nb == y.nb) = true
  · rw [e1]
    have e1' : (x.nb != y.nb) = false := by simpa using e1
    by_cases e2 : (x.nn == y.nn) = true
    · rw [e2]
      have e2' : (x.nn != y.nn) = false := by simpa using e2
      by_cases e3 : (x.ns == y.ns) = true
      · rw [e3]
        have e3' : (x.ns != y.ns) = false := by simpa using e3
        simp only [Bool.true_and]
        generalize same x.books y.books = t1 at *
        cases t1
        · go_enter Tryz.func27, Tryz.ntmps27
          go_wp2_with fail
          refine (cB _ (((Grow.refl w).alloc _).alloc _)).mono ?_
          rintro e w1 ⟨rfl, g1⟩
          have hc := g1.cells
          go_wp2_with fail
          go_ret
          exact ⟨ret_bool rfl, (((Grow.refl w).alloc _).alloc _).trans g1⟩
        · by_cases hl : x.notes.length = y.notes.length
          · have hl' : ((x.notes.length : Int) != (y.notes.length : Int)) = false := by rw [hl]; simp
            have HL := Lib.hid hl
            clear hl
            simp only [Bool.true_and]
            go_enter Tryz.func27, Tryz.ntmps27
            go_wp2_with fail
            refine (cB _ (((Grow.refl w).alloc _).alloc _)).mono ?_
            rintro e w1 ⟨rfl, g1⟩
            have hc := g1.cells
            have g2 := (((Grow.refl w).alloc _).alloc _).trans g1
            have b1 : w1.cell? ⟨w.heap.size, 4, none⟩ = some (.slice a2 x.notes.length c2) := by rw [hc _ _ (by simp; omega)]; simp [go_sem]
            have b2 : w1.cell? ⟨w.heap.size + 1, 4, none⟩ = some (.slice a4 y.notes.length c4) := by rw [hc _ _ (by simp)]; simp [go_sem]
            have hsz : w.heap.size + 1 < w1.heap.size := by have := g1.size; simp at this; omega
            clear cB g1
            go_wp2_with fail
            go_loopw [5] (fun v5 wx => Grow w1 wx ∧ ∃ i : Nat, v5 = .int .i64 i ∧ i ≤ x.notes.length ∧ ∀ (j : Nat) n m, j < i → x.notes[j]? = some n → y.notes[j]? = some m → n = m) (fun v5 _ => x.notes.length - (intOf v5).toNat)
            case atStart => exact ⟨Grow.refl _, 0, rfl, by omega, fun j _ _ h => absurd h (by omega)⟩
            case round =>
              obtain ⟨hg, i, rfl, hi, hall⟩ := hrel
              have HA := Lib.hid hall
              clear hall hc
              have b1' : wr.cell? ⟨w.heap.size, 4, none⟩ = some (.slice a2 x.notes.length c2) := (hg.cells _ _ (by omega)).trans b1
              have b2' : wr.cell? ⟨w.heap.size + 1, 4, none⟩ = some (.slice a4 y.notes.length c4) := (hg.cells _ _ (by omega)).trans b2
              have gw := g2.trans hg
              clear b1 b2
              by_cases hlt : i < x.notes.length
              · have hlt' : (i : Int) < x.notes.length := by omega
                have hlm' : (i : Int) < y.notes.length := by have := HL.out; omega
                obtain ⟨n, hn, -⟩ := lt_get hlt
                obtain ⟨m, hm, -⟩ := lt_get (l := y.notes) (i := i) (by omega)
                obtain ⟨b, off, tv, sv, rfl, -, p0, p1, p2, p3, p4, ht, hs⟩ := (hn1.grow gw).at hn
                obtain ⟨b', off', tv', sv', rfl, -, q0, q1, q2, q3, q4, ht', hs'⟩ := (hn2.grow gw).at hm
                obtain ⟨zz1, zz2, zz3, -⟩ := HZ.out.note hn
                have c := fun q => cN n m tv sv tv' sv' (wr.drewN q) (ht.grow ((Grow.refl _).drewN _)) (hs.grow ((Grow.refl _).drewN _)) (ht'.grow ((Grow.refl _).drewN _)) (hs'.grow ((Grow.refl _).drewN _)) (by omega) (by omega)
                clear cN
                unfold noteV at c
                go_wp2_with fail
                have HN := Lib.hid hn
                have HM := Lib.hid hm
                clear hn hm hn1 hn2
                cases hr : same n m
                · have HR := Lib.hid (same_no (a := x.notes) (b := y.notes) (fun e => by have h1 := HN.out; rw [e, HM.out] at h1; injection h1 with h1; rw [same_yes h1.symm] at hr; cases hr))
                  rw [hr] at c
                  clear hr
                  go_still_tail 10, (by kernel_rfl)
                  change wpList _ _ _ _ _ wr.drew
                  go_wp2_with fail
                  refine (c 1).mono ?_
                  rintro e w3 ⟨rfl, g3⟩
                  go_wp2_with fail
                  go_ret
                  exact ⟨ret_bool HR.out.symm, gw.drew.trans g3⟩
                · have HR := Lib.hid (same_iff.1 hr)
                  rw [hr] at c
                  clear hr
                  go_still_tail 10, (by kernel_rfl)
                  change wpList _ _ _ _ _ wr.drew
                  go_wp2_with fail
                  refine (c 1).mono ?_
                  rintro e w3 ⟨rfl, g3⟩
                  go_wp2_with fail
                  go_roundw
                  case rel => exact ⟨hg.drew.trans g3, i + 1, by go_num, by omega, fun j n' m' hj h1 h2 => by
                    rcases (by omega : j < i ∨ j = i) with h3 | rfl
                    · exact HA.out j n' m' h3 h1 h2
                    · rw [HN.out] at h1; rw [HM.out] at h2; injection h1 with h1; injection h2 with h2; rw [← h1, ← h2]; exact HR.out⟩
                  case measure => simp [intOf]; omega
              · have HR := Lib.hid (same_yes (list_same HL.out (fun j n m h1 h2 => HA.out j n m (by have := (List.getElem?_eq_some_iff.1 h1).1; omega) h1 h2)))
                have hlt' : ¬ (i : Int) < x.notes.length := by omega
                clear hn1 hn2 cN
                go_wp2_with fail
                go_ret
                exact ⟨ret_bool HR.out.symm, gw⟩
          · have hl' : ((x.notes.length : Int) != (y.notes.length : Int)) = true := by rw [bne_iff_ne]; omega
            have HR := Lib.hid (same_no (a := x.notes) (b := y.notes) (fun e => hl (by rw [e])))
            clear hl hn1 hn2 cN
            go_enter Tryz.func27, Tryz.ntmps27
            go_wp2_with fail
            refine (cB _ (((Grow.refl w).alloc _).alloc _)).mono ?_
            rintro e w1 ⟨rfl, g1⟩
            have hc := g1.cells
            go_wp2_with fail
            go_ret
            exact ⟨ret_bool (by rw [HR.out]; rfl), (((Grow.refl w).alloc _).alloc _).trans g1⟩
      · have e3' : (x.ns != y.ns) = true := by simpa using e3
        replace e3 : (x.ns == y.ns) = false := by simpa using e3
        rw [e3]
        clear cB cN hn1 hn2 e3
        go_enter Tryz.func27, Tryz.ntmps27
        go_wp2_with fail
        go_ret
        exact ⟨ret_bool (by simp), ((Grow.refl w).alloc _).alloc _⟩
    · have e2' : (x.nn != y.nn) = true := by simpa using e2
      replace e2 : (x.nn == y.nn) = false := by simpa using e2
      rw [e2]
      clear cB cN hn1 hn2 e2
      go_enter Tryz.func27, Tryz.ntmps27
      go_wp2_with fail
      go_ret
      exact ⟨ret_bool (by simp), ((Grow.refl w).alloc _).alloc _⟩
  · have e1' : (x.nb != y.nb) = true := by simpa using e1
    replace e1 : (x.nb == y.nb) = false := by simpa using e1
    rw [e1]
    clear cB cN hn1 hn2 e1
    go_enter Tryz.func27, Tryz.ntmps27
    go_wp2_with fail
    go_ret
    exact ⟨ret_bool (by simp), ((Grow.refl w).alloc _).alloc _⟩
end Go.Proofs.YtgpjcgcecahddaaGreatDoor
set_option linter.unusedVariables false
set_option linter.unusedSimpArgs false
namespace Go.Proofs.YtgpjcgcecahddaaGreatDoor
open Go.RowKit Go.Lib
theorem chunk_split {xs : List Value} {k : Nat} (i : Nat) : (((xs.drop k).drop (i * k)).take k) = ((xs.drop ((i + 1) * k)).take k) := by
  rw [List.drop_drop, Nat.add_mul, Nat.one_mul, Nat.add_comm k]
theorem books_cells {w : World} : ∀ (l : List Book) (xs : List Value), xs.length = l.length * 2 → (∀ (i : Nat) a, l[i]? = some a → BookR w a ((xs.drop (i * 2)).take 2)) → xs = l.flatMap bookC
  | [], xs, h, _ => List.eq_nil_of_length_eq_zero (by simpa using h)
  | a :: l, xs, h, hR => by
    have h0 : xs.take 2 = bookC a := by have := hR 0 a rfl; unfold BookR at this; simpa using this
    have ih := books_cells (w := w) l (xs.drop 2) (by rw [List.length_drop, h, List.length_cons]; omega) (fun i b hb => by rw [chunk_split]; exact hR (i + 1) b (by simpa using hb))
    rw [List.flatMap_cons, ← h0, ← ih, List.take_append_drop]
theorem notes_cells {w : World} : ∀ (l : List Note) (xs : List Value), xs.length = l.length * 5 → (∀ (i : Nat) a, l[i]? = some a → NoteR w a ((xs.drop (i * 5)).take 5)) → ∃ Y : List NV, Y.map NV.n = l ∧ xs = Y.flatMap noteC ∧ ∀ y ∈ Y, Texts w y.tv y.n.tags ∧ Ints w y.sv y.n.sheets
  | [], xs, h, _ => ⟨[], rfl, List.eq_nil_of_length_eq_zero (by simpa using h), by simp⟩
  | a :: l, xs, h, hR => by
    obtain ⟨tv, sv, h0, ht, hs⟩ := hR 0 a rfl
    obtain ⟨Y, h1, h2, h3⟩ := notes_cells (w := w) l (xs.drop 5) (by rw [List.length_drop, h, List.length_cons]; omega) (fun i b hb => by rw [chunk_split]; exact hR (i + 1) b (by simpa using hb))
    refine ⟨⟨a, tv, sv⟩ :: Y, by rw [List.map_cons, h1], ?_, fun y hy => ?_⟩
    · have h0' : xs.take 5 = noteC ⟨a, tv, sv⟩ := by simpa using h0
      rw [List.flatMap_cons, ← h0', ← h2, List.take_append_drop]
    · rcases List.mem_cons.1 hy with rfl | hy
      · exact ⟨ht, hs⟩
      · exact h3 y hy
theorem text_cells {w : World} : ∀ (l : List ByteArray) (xs : List Value), xs.length = l.length * 1 → (∀ (i : Nat) a, l[i]? = some a → TextR w a ((xs.drop (i * 1)).take 1)) → xs = strC l
  | [], xs, h, _ => List.eq_nil_of_length_eq_zero (by simpa using h)
  | a :: l, xs, h, hR => by
    have h0 : xs.take 1 = [.string a] := by have := hR 0 a rfl; unfold TextR at this; simpa using this
    have ih := text_cells (w := w) l (xs.drop 1) (by rw [List.length_drop, h, List.length_cons]; omega) (fun i b hb => by rw [chunk_split]; exact hR (i + 1) b (by simpa using hb))
    show xs = Value.string a :: strC l
    rw [← ih]
    have := List.take_append_drop 1 xs
    rw [h0] at this
    exact this.symm
theorem int_cells {w : World} : ∀ (l : List Int) (xs : List Value), xs.length = l.length * 1 → (∀ (i : Nat) a, l[i]? = some a → IntR w a ((xs.drop (i * 1)).take 1)) → xs = intC l
  | [], xs, h, _ => List.eq_nil_of_length_eq_zero (by simpa using h)
  | a :: l, xs, h, hR => by
    have h0 : xs.take 1 = [.int .i64 a] := by have := hR 0 a rfl; unfold IntR at this; simpa using this
    have ih := int_cells (w := w) l (xs.drop 1) (by rw [List.length_drop, h, List.length_cons]; omega) (fun i b hb => by rw [chunk_split]; exact hR (i + 1) b (by simpa using hb))
    show xs = Value.int .i64 a :: intC l
    rw [← ih]
    have := List.take_append_drop 1 xs
    rw [h0] at this
    exact this.symm
/-- The first i notes' rows are the call's own, the others' as they were in w0. -/
structure OwnP (base : Nat) (bv nv : Value) (X : List Book) (Y : List NV) (i : Nat) (w0 w : World) : Prop where
  books : RowO base 60 2 bv X.length (X.flatMap bookC) w
  notes : RowO base 54 5 nv Y.length (Y.flatMap noteC) w
  done : ∀ (j : Nat) y, j < i → Y[j]? = some y → RowO base 9 1 y.tv y.n.tags.length (strC y.n.tags) w ∧ RowO base 3 1 y.sv y.n.sheets.length (intC y.n.sheets) w
  rest : ∀ (j : Nat) y, i ≤ j → Y[j]? = some y → Texts w0 y.tv y.n.tags ∧ Ints w0 y.sv y.n.sheets
  tsep : ∀ (j k : Nat) y z, j < k → k < i → Y[j]? = some y → Y[k]? = some z → ∀ b, blkOf y.tv = some b → blkOf z.tv ≠ some b
  ssep : ∀ (j k : Nat) y z, j < k → k < i → Y[j]? = some y → Y[k]? = some z → ∀ b, blkOf y.sv = some b → blkOf z.sv ≠ some b
section
variable {base : Nat} {bv nv : Value} {X : List Book} {Y : List NV} {i : Nat} {w0 w w' : World}
theorem OwnP.kept (h : OwnP base bv nv X Y i w0 w) (k : KeptS w w') : OwnP base bv nv X Y i w0 w' := by
  have one : ∀ {e : TypeId} {c : Nat} {v : Value} {n : Nat} {xs : List Value}, (e = 60 ∨ e = 54 ∨ e = 9 ∨ e = 3) → RowO base e c v n xs w → RowO base e c v n xs w' := fun he hr =>
    hr.kept_of fun g hg => by obtain ⟨-, cur, hc⟩ := hr.blk hg; rw [hc]; exact k g cur _ he hc
  exact ⟨one (.inl rfl) h.books, one (.inr (.inl rfl)) h.notes, fun j y hj hy => ⟨one (.inr (.inr (.inl rfl))) (h.done j y hj hy).1, one (.inr (.inr (.inr rfl))) (h.done j y hj hy).2⟩, h.rest, h.tsep, h.ssep⟩
theorem OwnP.all (h : OwnP base bv nv X Y i w0 w) (hi : Y.length ≤ i) : OwnS base bv nv X Y w := by
  refine ⟨h.books, h.notes, fun y hy => ?_, fun y hy => ?_, ?_, ?_⟩
  · obtain ⟨j, hj⟩ := List.getElem?_of_mem hy
    exact (h.done j y (by have := (List.getElem?_eq_some_iff.1 hj).1; omega) hj).1
  · obtain ⟨j, hj⟩ := List.getElem?_of_mem hy
    exact (h.done j y (by have := (List.getElem?_eq_some_iff.1 hj).1; omega) hj).2
  · rw [List.pairwise_iff_getElem]
    intro j k hj hk hjk
    exact h.tsep j k _ _ hjk (by omega) (List.getElem?_eq_getElem hj) (List.getElem?_eq_getElem hk)
  · rw [List.pairwise_iff_getElem]
    intro j k hj hk hjk
    exact h.ssep j k _ _ hjk (by omega) (List.getElem?_eq_getElem hj) (List.getElem?_eq_getElem hk)
/-- A note's cells. -/
theorem OwnP.note (h : OwnP base bv nv X Y i w0 w) {j : Nat} {y : NV} (hy : Y[j]? = some y) {b c : Nat} (e : nv = .slice (some ⟨b, 0, none⟩) Y.length c) (p : Nat) (u : Value) (hu : (noteC y)[p]? = some u) : w.cell? ⟨b, j * 5 + p, none⟩ = some u ∧ w.frozen? ⟨b, j * 5 + p, none⟩ = false ∧ b < w.heap.size := by
  have hp : p < 5 := by have := (List.getElem?_eq_some_iff.1 hu).1; simpa using this
  have hc : (Y.flatMap noteC)[j * 5 + p]? = some u := by rw [flat_get noteC (fun _ => rfl) Y j p y hy hp]; exact hu
  obtain ⟨b', c', e1, h1, h2, h3, -⟩ := h.notes.cell hc
  rw [e] at e1
  injection e1 with e2
  injection e2 with e2
  injection e2 with e2
  subst e2
  exact ⟨h1, h2, h3⟩
theorem OwnP.start {w1 : World} (g : Grow w0 w1) (hb : RowO base 60 2 bv X.length (X.flatMap bookC) w1) (hn : RowO base 54 5 nv Y.length (Y.flatMap noteC) w1) (hr : ∀ y ∈ Y, Texts w0 y.tv y.n.tags ∧ Ints w0 y.sv y.n.sheets) : OwnP base bv nv X Y 0 w0 w1 :=
  ⟨hb, hn, fun j y hj => absurd hj (by omega), fun j y _ hy => hr y (List.mem_of_getElem? hy), fun j k y z _ hk => absurd hk (by omega), fun j k y z _ hk => absurd hk (by omega)⟩
/-- The next note's rows, laid anew. -/
theorem OwnP.step (h : OwnP base bv nv X Y i w0 w) {y : NV} (hy : Y[i]? = some y) (g : Grow w w') {tv sv : Value} (ht : RowO w.heap.size 9 1 tv y.n.tags.length (strC y.n.tags) w') (hs : RowO w.heap.size 3 1 sv y.n.sheets.length (intC y.n.sheets) w') (hbase : base ≤ w.heap.size)
    {b c : Nat} (e : nv = .slice (some ⟨b, 0, none⟩) Y.length c) :
    OwnP base bv nv X (Y.set i ⟨y.n, tv, sv⟩) (i + 1) w0 ((w'.setCell ⟨b, i * 5 + 3, none⟩ tv).setCell ⟨b, i * 5 + 4, none⟩ sv) ∧ Turned b w' ((w'.setCell ⟨b, i * 5 + 3, none⟩ tv).setCell ⟨b, i * 5 + 4, none⟩ sv) ∧ base ≤ b ∧ ∃ cur : Array Value, w'.heap[b]? = some (.cells cur 54 (0, 0)) := by
  have h' := h.kept (.of_grow g)
  have hi := (List.getElem?_eq_some_iff.1 hy).1
  have hc3 : (Y.flatMap noteC)[i * 5 + 3]? = some y.tv := by rw [flat_get noteC (fun _ => rfl) Y i 3 y hy (by decide)]; rfl
  obtain ⟨b1, c1, e1, -, hr1, t1, cur1, hcur1⟩ := h'.notes.stored hc3 tv
  rw [e] at e1
  injection e1 with e2
  injection e2 with e2
  injection e2 with e2
  subst e2
  rw [flat_set noteC (fun _ => rfl) (y := ⟨y.n, tv, y.sv⟩) hy (by decide) rfl] at hr1
  have hy2 : (Y.set i ⟨y.n, tv, y.sv⟩)[i]? = some ⟨y.n, tv, y.sv⟩ := List.getElem?_set_self hi
  have hc4 : ((Y.set i ⟨y.n, tv, y.sv⟩).flatMap noteC)[i * 5 + 4]? = some y.sv := by rw [flat_get noteC (fun _ => rfl) _ i 4 _ hy2 (by decide)]; rfl
  obtain ⟨b2, c2, e3, hb2, hr2, t2, cur2, hcur2⟩ := hr1.stored hc4 sv
  rw [e] at e3
  injection e3 with e4
  injection e4 with e4
  injection e4 with e4
  subst e4
  rw [flat_set noteC (fun _ => rfl) (y := ⟨y.n, tv, sv⟩) hy2 (by decide) rfl, List.set_set] at hr2
  have k1 := kept_of_turned hcur1 t1
  have k2 := kept_of_turned hcur2 t2
  have kk := k1.trans k2
  have hst : ∀ (j : Nat) z, (Y.set i ⟨y.n, tv, sv⟩)[j]? = some z → (j = i ∧ z = ⟨y.n, tv, sv⟩) ∨ (j ≠ i ∧ Y[j]? = some z) := fun j z hz => by
    rw [List.getElem?_set] at hz
    by_cases e : i = j
    · rw [if_pos e, if_pos (by omega)] at hz
      exact .inl ⟨e.symm, (Option.some.inj hz).symm⟩
    · rw [if_neg e] at hz; exact .inr ⟨fun e' => e e'.symm, hz⟩
  refine ⟨⟨h'.books.kept (by decide) kk, by rw [List.length_set]; exact hr2, fun j z hj hz => ?_, fun j z hj hz => ?_, fun j k p q hjk hk hp hq bb hb1 hb2' => ?_, fun j k p q hjk hk hp hq bb hb1 hb2' => ?_⟩, t1.trans t2, ?_, cur1, hcur1⟩
  · rcases hst j z hz with ⟨rfl, rfl⟩ | ⟨hne, hz⟩
    · exact ⟨(ht.base_mono hbase).kept (by decide) kk, (hs.base_mono hbase).kept (by decide) kk⟩
    · have := h'.done j z (by omega) hz
      exact ⟨this.1.kept (by decide) kk, this.2.kept (by decide) kk⟩
  · rcases hst j z hz with ⟨rfl, rfl⟩ | ⟨hne, hz⟩
    · omega
    · exact h.rest j z (by omega) hz
  · rcases hst j p hp with ⟨e7, -⟩ | ⟨hne, hp'⟩
    · omega
    rcases hst k q hq with ⟨e7, e8⟩ | ⟨hne2, hq'⟩
    · rw [e8] at hb2'
      have a1 := (h.done j p (by omega) hp').1.blk_lt hb1
      have a2 := (ht.blk hb2').1
      omega
    · exact h.tsep j k p q hjk (by omega) hp' hq' bb hb1 hb2'
  · rcases hst j p hp with ⟨e7, -⟩ | ⟨hne, hp'⟩
    · omega
    rcases hst k q hq with ⟨e7, e8⟩ | ⟨hne2, hq'⟩
    · rw [e8] at hb2'
      have a1 := (h.done j p (by omega) hp').2.blk_lt hb1
      have a2 := (hs.blk hb2').1
      omega
    · exact h.ssep j k p q hjk (by omega) hp' hq' bb hb1 hb2'
  · exact (h.notes.blk (g := b) (by
      obtain ⟨b3, c3, e5, -, -, -, hb3⟩ := h.notes.cell hc3
      have e6 : some b = some b3 := by
        have := e.symm.trans e5
        injection this with e6
        injection e6 with e6
        injection e6 with e6
        rw [e6]
      rw [e6]; exact hb3)).1
end
theorem OwnS.base_mono {base base' : Nat} {bv nv : Value} {X : List Book} {Y : List NV} {w : World} (h : OwnS base bv nv X Y w) (hb : base' ≤ base) : OwnS base' bv nv X Y w :=
  ⟨h.books.base_mono hb, h.notes.base_mono hb, fun y hy => (h.tags y hy).base_mono hb, fun y hy => (h.sheets y hy).base_mono hb, h.tsep, h.ssep⟩
/-- What a copy answers. -/
def RetOwn (s : Shelf) (w : World) (e : Ending) (w' : World) : Prop :=
  ∃ bv nv Y, e = .returned (shelfV s bv nv) ∧ OwnS w.heap.size bv nv s.books Y w' ∧ Y.map NV.n = s.notes ∧ Grow w w'
abbrev shB (s : Shelf) (bv nv : Value) : Obj := .cells #[.int .i64 s.nb, .int .i64 s.nn, .int .i64 s.ns, bv, nv] 25
theorem sh5 {w : World} {b : Nat} {t : TypeId} {m : Nat × Nat} {u0 u1 u2 u3 u4 : Value} (hb : w.heap[b]? = some (.cells #[u0, u1, u2, u3, u4] t m)) :
    w.cell? ⟨b, 0, none⟩ = some u0 ∧ w.cell? ⟨b, 1, none⟩ = some u1 ∧ w.cell? ⟨b, 2, none⟩ = some u2 ∧ w.cell? ⟨b, 3, none⟩ = some u3 ∧ w.cell? ⟨b, 4, none⟩ = some u4 :=
  ⟨(cell_of_row w b 0 _ _ _ hb).trans rfl, (cell_of_row w b 1 _ _ _ hb).trans rfl, (cell_of_row w b 2 _ _ _ hb).trans rfl, (cell_of_row w b 3 _ _ _ hb).trans rfl, (cell_of_row w b 4 _ _ _ hb).trans rfl⟩
/-- The boxes of a copy's walk: the shelf's, the result's. -/
structure OwnB (s : Shelf) (w : World) (bv nv : Value) (Y : List NV) (i : Nat) (wx : World) : Prop where
  grow : Grow w wx
  box : wx.heap[w.heap.size]? = some (shB s bv nv)
  res : wx.heap[w.heap.size + 1]? = some (shB ⟨0, 0, 0, [], []⟩ (.slice none 0 0) (.slice none 0 0))
  own : OwnP w.heap.size bv nv s.books Y i w wx
  map : Y.map NV.n = s.notes
end Go.Proofs.YtgpjcgcecahddaaGreatDoor
set_option linter.unusedVariables false
set_option linter.unusedSimpArgs false
namespace Go.Proofs.YtgpjcgcecahddaaGreatDoor
open Go.RowKit Go.Lib
theorem results_cell {P : Program} {fn : Func} {p : Tmp} {ty : TypeId} (h : fn.results = #[.cell p ty]) (tmps : Array Value) (w : World) :
    (results fn tmps).run P w = ((asAddr (tmps.getD p undef)).run P w).andThen fun a w₁ => (loadVar ty a).run P w₁ := by
  simp [results, h, Sem.run_bind]
theorem two_boxes2 (w : World) (o1 o2 : Obj) : ((w.alloc o1).alloc o2).heap[w.heap.size]? = some o1 ∧ ((w.alloc o1).alloc o2).heap[w.heap.size + 1]? = some o2 :=
  ⟨(Below.block ((Grow.refl (w.alloc o1)).alloc o2) _ (Array.getElem?_eq_some_iff.1 (heap_alloc_new w o1)).1).trans (heap_alloc_new w o1), by
    have h := heap_alloc_new (w.alloc o1) o2
    rwa [show (w.alloc o1).heap.size = w.heap.size + 1 from Array.size_push _] at h⟩
/-- The result's cell is stored. -/
def OwnD2 (base : Nat) (bv nv : Value) (X : List Book) (Y : List NV) (W0 : World) (D : Nat) (w : World) : Prop := Grow W0 w ∧ OwnS base bv nv X Y w ∧ ∃ cs : Array Value, w.heap[D]? = some (.cells cs 25 (0, 0))
theorem OwnD2.set {base D : Nat} {bv nv : Value} {X : List Book} {Y : List NV} {W0 w : World} (h : OwnD2 base bv nv X Y W0 D w) (hD : W0.heap.size ≤ D) (j : Nat) (u : Value) : OwnD2 base bv nv X Y W0 D (w.setCell ⟨D, j, none⟩ u) := by
  obtain ⟨h0, h1, cs, h2⟩ := h
  have ht : Turned D w (w.setCell ⟨D, j, none⟩ u) := ⟨rfl, rfl, rfl, by simp, fun i _ hb => heap_setCell_other w ⟨D, j, none⟩ i u hb⟩
  exact ⟨ht.grow h0 hD, h1.kept (.of_turned ht h2 (by decide)), _, heap_setCell_same w D j _ _ _ h2⟩
theorem own_begin {s : Shelf} {w V w1 w2 : World} {bv nv : Value} (h : ShelfR w s bv nv) (gV : Grow w V) (hb : V.heap[w.heap.size]? = some (shB s bv nv)) (hr : V.heap[w.heap.size + 1]? = some (shB ⟨0, 0, 0, [], []⟩ (.slice none 0 0) (.slice none 0 0)))
    {v1 v2 : Value} {xs1 xs2 : List Value} (r1 : RowO V.drew.heap.size 60 2 v1 s.books.length xs1 w1) (g1 : Grow V.drew w1) (l1 : xs1.length = s.books.length * 2) (c1 : ∀ (i : Nat) a, s.books[i]? = some a → BookR w a ((xs1.drop (i * 2)).take 2))
    (r2 : RowO w1.heap.size 54 5 v2 s.notes.length xs2 w2) (g2 : Grow w1 w2) (l2 : xs2.length = s.notes.length * 5) (c2 : ∀ (i : Nat) a, s.notes[i]? = some a → NoteR w a ((xs2.drop (i * 5)).take 5)) :
    ∃ Y, OwnB s w v1 v2 Y 0 ((w2.setCell ⟨w.heap.size, 3, none⟩ v1).setCell ⟨w.heap.size, 4, none⟩ v2) := by
  obtain ⟨Y, h1, h2, h3⟩ := notes_cells s.notes xs2 l2 c2
  have e1 := books_cells s.books xs1 l1 c1
  subst e1 h2
  have gg : Grow V w2 := ((Grow.refl V).drew.trans g1).trans g2
  have hz : w.heap.size ≤ V.heap.size := gV.size
  have hz1 : w.heap.size ≤ w1.heap.size := Nat.le_trans hz g1.size
  have hb2 := gg.blk hb
  have hr2 := gg.blk hr
  have t1 : Turned w.heap.size w2 (w2.setCell ⟨w.heap.size, 3, none⟩ v1) := ⟨rfl, rfl, rfl, by simp, fun i _ hb => heap_setCell_other w2 ⟨w.heap.size, 3, none⟩ i v1 hb⟩
  have hb3 := heap_setCell_same w2 w.heap.size 3 _ _ v1 hb2
  have t2 : Turned w.heap.size (w2.setCell ⟨w.heap.size, 3, none⟩ v1) ((w2.setCell ⟨w.heap.size, 3, none⟩ v1).setCell ⟨w.heap.size, 4, none⟩ v2) := ⟨rfl, rfl, rfl, by simp, fun i _ hb => heap_setCell_other (w2.setCell ⟨w.heap.size, 3, none⟩ v1) ⟨w.heap.size, 4, none⟩ i v2 hb⟩
  have hb4 := heap_setCell_same (w2.setCell ⟨w.heap.size, 3, none⟩ v1) w.heap.size 4 _ _ v2 hb3
  have tt := t1.trans t2
  have hn : Y.length = s.notes.length := by rw [← h1, List.length_map]
  have hlt : w.heap.size + 1 < w2.heap.size := (Array.getElem?_eq_some_iff.1 hr2).1
  refine ⟨Y, tt.grow (gV.trans gg) (Nat.le_refl _), hb4.trans rfl, (tt.block _ hlt (by omega)).trans hr2, ?_, h1⟩
  refine (OwnP.start (gV.trans gg) ((r1.grow g2).base_mono hz) ?_ h3).kept (.of_turned tt hb2 (by decide))
  rw [hn]; exact r2.base_mono hz1
theorem own_next {s : Shelf} {w wr w1 w2 : World} {bv : Value} {nb nc i : Nat} {Y : List NV} {y : NV} (hB : OwnB s w bv (.slice (some ⟨nb, 0, none⟩) s.notes.length nc) Y i wr) (hy : Y[i]? = some y) (hnv : (Value.slice (some ⟨nb, 0, none⟩) s.notes.length nc) = .slice (some ⟨nb, 0, none⟩) Y.length nc)
    {v1 v2 : Value} {xs1 xs2 : List Value} (r1 : RowO wr.drew.heap.size 9 1 v1 y.n.tags.length xs1 w1) (g1 : Grow wr.drew w1) (l1 : xs1.length = y.n.tags.length * 1) (c1 : ∀ (i : Nat) a, y.n.tags[i]? = some a → TextR w a ((xs1.drop (i * 1)).take 1))
    (r2 : RowO w1.heap.size 3 1 v2 y.n.sheets.length xs2 w2) (g2 : Grow w1 w2) (l2 : xs2.length = y.n.sheets.length * 1) (c2 : ∀ (i : Nat) a, y.n.sheets[i]? = some a → IntR w a ((xs2.drop (i * 1)).take 1)) :
    OwnB s w bv (.slice (some ⟨nb, 0, none⟩) s.notes.length nc) (Y.set i ⟨y.n, v1, v2⟩) (i + 1) ((w2.setCell ⟨nb, i * 5 + 3, none⟩ v1).setCell ⟨nb, i * 5 + 4, none⟩ v2) := by
  have e1 := text_cells y.n.tags xs1 l1 c1
  have e2 := int_cells y.n.sheets xs2 l2 c2
  subst e1 e2
  have g : Grow wr w2 := ((Grow.refl wr).drew.trans g1).trans g2
  obtain ⟨h1, h2, h3, cur, h4⟩ := hB.own.step (w' := w2) hy g (r1.grow g2) (r2.base_mono (by have := g1.size; exact this)) hB.grow.size hnv
  have hc := kept_of_turned h4 h2
  refine ⟨h2.grow (hB.grow.trans g) h3, hc _ _ _ _ (by decide) (g.blk hB.box), hc _ _ _ _ (by decide) (g.blk hB.res), h1, ?_⟩
  rw [← hB.map]
  apply List.ext_getElem?
  intro j
  rw [List.getElem?_map, List.getElem?_map, List.getElem?_set]
  have hi := (List.getElem?_eq_some_iff.1 hy).1
  by_cases e : i = j
  · subst e; rw [if_pos rfl, if_pos hi, hy]; rfl
  · rw [if_neg e]
set_option maxRecDepth 100000 in
set_option maxHeartbeats 4000000 in
theorem own_any (s : Shelf) (bv nv : Value) (w : World) (h : ShelfR w s bv nv) (hz : Tame s) :
    Calls Tryz.prog 88 #[shelfV s bv nv] w (RetOwn s w) := by
  obtain ⟨a1, c1, rfl⟩ := h.1.mk
  obtain ⟨a2, c2, rfl⟩ := h.2.mk
  have HH := Lib.hid h
  have HZ := Lib.hid hz
  have hnl := hz.2.1
  have HXX := Lib.hid (two_boxes2 w (shB s (.slice a1 s.books.length c1) (.slice a2 s.notes.length c2)) (shB ⟨0, 0, 0, [], []⟩ (.slice none 0 0) (.slice none 0 0)))
  clear h hz
  unfold shelfV
  go_enter Tryz.func88, Tryz.ntmps88
  go_upto_region 1 with (fail)
  generalize hV : (w.alloc (.cells #[.int .i64 s.nb, .int .i64 s.nn, .int .i64 s.ns, .slice a1 s.books.length c1, .slice a2 s.notes.length c2] 25)).alloc (.cells #[.int .i64 0, .int .i64 0, .int .i64 0, .slice none 0 0, .slice none 0 0] 25) = V
  have gV : Grow w V := by rw [← hV]; exact ((Grow.refl w).alloc _).alloc _
  have hbx : V.heap[w.heap.size]? = some (shB s (.slice a1 s.books.length c1) (.slice a2 s.notes.length c2)) := by rw [← hV]; exact HXX.out.1
  have hrx : V.heap[w.heap.size + 1]? = some (shB ⟨0, 0, 0, [], []⟩ (.slice none 0 0) (.slice none 0 0)) := by rw [← hV]; exact HXX.out.2
  have HBX := Lib.hid hbx
  have HRX := Lib.hid hrx
  have hsz : w.heap.size + 1 < V.heap.size := (Array.getElem?_eq_some_iff.1 hrx).1
  have gVd := gV.drew
  have cB := clone_books w (.slice a1 s.books.length c1) s.books V.drew (Reads.hold HH.out.1 gVd) HZ.out.1
  have cN := fun W (g : Grow V.drew W) => clone_notes w (.slice a2 s.notes.length c2) s.notes W (Reads.hold HH.out.2 (gVd.trans g)) HZ.out.2.1
  obtain ⟨p0, p1, p2, p3, p4⟩ := sh5 hbx
  have f3 := frozen_of_row V w.heap.size 3 _ _ hbx
  have f4 := frozen_of_row V w.heap.size 4 _ _ hbx
  clear hV hbx hrx
  go_cut [1] (fun v1 wx => v1 = .pointer (some ⟨w.heap.size, 0, none⟩) ∧ ∃ bv' nv' Y, OwnB s w bv' nv' Y 0 wx)
  case first =>
    go_region_law ((first
      | (go_simp; go_at_call 118; refine cB.mono ?_; rintro e w1 ⟨v1, xs1, rfl, hr1, g1, hl1, hR1⟩; obtain ⟨b1, d1, e1, -⟩ := hr1.slice; subst e1; have hb1 := Grow.blk (Grow.trans (Grow.refl V).drew g1) HBX.out; obtain ⟨r0, r1, r2, r3, r4⟩ := sh5 hb1; have s3 := frozen_of_row w1 w.heap.size 3 _ _ hb1; have s4 := frozen_of_row w1 w.heap.size 4 _ _ hb1; have hz1 : w.heap.size < w1.heap.size := (Array.getElem?_eq_some_iff.1 hb1).1; have HR1 := Lib.hid hr1; have HG1 := Lib.hid g1; have HL1 := Lib.hid hl1; have HC1 := Lib.hid hR1; clear hr1 g1 hl1 hR1 hb1)
      | (go_simp; go_at_call 48; refine (cN _ HG1.out).mono ?_; rintro e w2 ⟨v2, xs2, rfl, hr2, g2, hl2, hR2⟩; obtain ⟨b2, d2, e2, -⟩ := hr2.slice; subst e2; have hb2 := Grow.blk (Grow.trans (Grow.trans (Grow.refl V).drew HG1.out) g2) HBX.out; obtain ⟨t0, t1, t2, t3, t4⟩ := sh5 hb2; have u3 := frozen_of_row w2 w.heap.size 3 _ _ hb2; have u4 := frozen_of_row w2 w.heap.size 4 _ _ hb2; have hz2 : w.heap.size < w2.heap.size := (Array.getElem?_eq_some_iff.1 hb2).1; have HB2 := Lib.hid hb2; have HR2 := Lib.hid hr2; have HG2 := Lib.hid g2; have HL2 := Lib.hid hl2; have HC2 := Lib.hid hR2; clear hr2 g2 hl2 hR2 hb2)))
    all_goals
      go_wp2_with fail
      go_meet
      exact ⟨rfl, _, _, own_begin HH.out gV HBX.out HRX.out HR1.out HG1.out HL1.out HC1.out HR2.out HG2.out HL2.out HC2.out⟩
  case rest =>
    obtain ⟨rfl, bv', nv', Y0, hb0⟩ := hcut
    have hn0 : Y0.length = s.notes.length := by rw [← hb0.map, List.length_map]
    obtain ⟨na, nc, hnv, -⟩ := hb0.own.notes.slice
    rw [hn0] at hnv
    obtain ⟨ba, bc, hbv, -⟩ := hb0.own.books.slice
    subst hnv hbv
    have HB0 := Lib.hid hb0
    obtain ⟨k0, k1, k2, k3, k4⟩ := sh5 hb0.box
    have hw0 : w.heap.size < wc.heap.size := (Array.getElem?_eq_some_iff.1 hb0.box).1
    clear hb0 hn0 p0 p1 p2 p3 p4 f3 f4 cB cN gV gVd hsz HBX HRX
    go_wp2_with fail
    go_loopw [16] (fun v16 wx => ∃ i : Nat, v16 = .int .i64 i ∧ i ≤ s.notes.length ∧ ∃ Y, OwnB s w (.slice ba s.books.length bc) (.slice na s.notes.length nc) Y i wx) (fun v16 _ => s.notes.length - (Go.RowKit.intOf v16).toNat)
    case atStart => exact ⟨0, rfl, by omega, _, HB0.out⟩
    case round =>
      obtain ⟨i, rfl, hi, Y, hb⟩ := hrel
      have HB := Lib.hid hb
      obtain ⟨k0, k1, k2, k3, k4⟩ := sh5 hb.box
      have hw1 : w.heap.size < wr.heap.size := (Array.getElem?_eq_some_iff.1 hb.box).1
      have hYl : Y.length = s.notes.length := by rw [← hb.map, List.length_map]
      have HYL := Lib.hid hYl
      by_cases hlt : i < s.notes.length
      · have hlt' : (i : Int) < s.notes.length := by omega
        obtain ⟨y, hy, -⟩ := lt_get (l := Y) (i := i) (by omega)
        have HY := Lib.hid hy
        have hyn : s.notes[i]? = some y.n := by rw [← hb.map, List.getElem?_map, hy]; rfl
        obtain ⟨z1, z2, z3, z4⟩ := HZ.out.note hyn
        obtain ⟨hty, hsy⟩ := hb.own.rest i y (Nat.le_refl _) hy
        have hnb : ∃ b, na = some ⟨b, 0, none⟩ := by
          have hc : (Y.flatMap noteC)[i * 5 + 3]? = some y.tv := by rw [flat_get noteC (fun _ => rfl) Y i 3 y hy (by decide)]; rfl
          obtain ⟨b, c, e, -⟩ := hb.own.notes.cell hc
          injection e with e; exact ⟨b, e⟩
        obtain ⟨nb, rfl⟩ := hnb
        have HNV := Lib.hid (show (Value.slice (some ⟨nb, 0, none⟩) s.notes.length nc) = .slice (some ⟨nb, 0, none⟩) Y.length nc by rw [hYl])
        have q3 := hb.own.note hy HNV.out 3 _ rfl
        have q4 := hb.own.note hy HNV.out 4 _ rfl
        obtain ⟨ta, tc, etv⟩ := hty.mk
        obtain ⟨sa, sc, esv⟩ := hsy.mk
        have HTV := Lib.hid etv
        have HSV := Lib.hid esv
        rw [etv] at q3
        rw [esv] at q4
        have q3c := q3.1
        have q3f := q3.2.1
        have q4c := q4.1
        have q4f := q4.2.1
        have hnbz := q3.2.2
        have cT := clone_texts w (.slice ta y.n.tags.length tc) y.n.tags wr.drew (by rw [← etv]; exact Reads.hold hty (hb.grow.trans (Grow.refl wr).drew)) z2
        have cI := fun W (g : Grow wr.drew W) => clone_ints w (.slice sa y.n.sheets.length sc) y.n.sheets W (by rw [← esv]; exact Reads.hold hsy ((hb.grow.trans (Grow.refl wr).drew).trans g)) z3
        clear hb hYl hy hyn hty hsy etv esv q3 q4 z1 z2 z3 z4 HB0
        go_upto_region 6 with (fail)
        go_region_law ((first
          | (go_simp; go_at_call 119; refine cT.mono ?_; rintro e w1 ⟨v1, xs1, rfl, hr1, g1, hl1, hR1⟩; obtain ⟨b1, d1, e1, -⟩ := hr1.slice; subst e1; have gg := Grow.trans (Grow.refl wr).drew g1; have m3 := (gg.cells nb (i * 5 + 3) hnbz).trans q3c; have m4 := (gg.cells nb (i * 5 + 4) hnbz).trans q4c; have n3 := (gg.marks nb (i * 5 + 3) hnbz).trans q3f; have n4 := (gg.marks nb (i * 5 + 4) hnbz).trans q4f; have hz1 := Nat.lt_of_lt_of_le hnbz gg.size; have HR1 := Lib.hid hr1; have HG1 := Lib.hid g1; have HL1 := Lib.hid hl1; have HC1 := Lib.hid hR1; clear hr1 g1 hl1 hR1 gg)
          | (go_simp; go_at_call 120; refine (cI _ HG1.out).mono ?_; rintro e w2 ⟨v2, xs2, rfl, hr2, g2, hl2, hR2⟩; obtain ⟨b2, d2, e2, -⟩ := hr2.slice; subst e2; have gg := Grow.trans (Grow.trans (Grow.refl wr).drew HG1.out) g2; have m3 := (gg.cells nb (i * 5 + 3) hnbz).trans q3c; have m4 := (gg.cells nb (i * 5 + 4) hnbz).trans q4c; have n3 := (gg.marks nb (i * 5 + 3) hnbz).trans q3f; have n4 := (gg.marks nb (i * 5 + 4) hnbz).trans q4f; have hz2 := Nat.lt_of_lt_of_le hnbz gg.size; have HR2 := Lib.hid hr2; have HG2 := Lib.hid g2; have HL2 := Lib.hid hl2; have HC2 := Lib.hid hR2; clear hr2 g2 hl2 hR2 gg)))
        all_goals
          go_wp2_with fail
          go_roundw
          case rel => exact ⟨i + 1, by go_num, by omega, _, own_next HB.out HY.out HNV.out HR1.out HG1.out HL1.out HC1.out HR2.out HG2.out HL2.out HC2.out⟩
          case measure => simp [Go.RowKit.intOf]; omega
      · have hlt' : ¬ (i : Int) < s.notes.length := by omega
        obtain ⟨e0, e1, e2, e3, e4⟩ := sh5 hb.res
        have f0 := frozen_of_row wr (w.heap.size + 1) 0 _ _ hb.res
        have f1 := frozen_of_row wr (w.heap.size + 1) 1 _ _ hb.res
        have f2 := frozen_of_row wr (w.heap.size + 1) 2 _ _ hb.res
        have f3 := frozen_of_row wr (w.heap.size + 1) 3 _ _ hb.res
        have f4 := frozen_of_row wr (w.heap.size + 1) 4 _ _ hb.res
        have hi' : Y.length ≤ i := by omega
        have HOD := Lib.hid (show OwnD2 w.heap.size (.slice ba s.books.length bc) (.slice na s.notes.length nc) s.books Y w (w.heap.size + 1) wr from ⟨hb.grow, hb.own.all hi', _, hb.res⟩)
        have HMP := Lib.hid hb.map
        have hw2 : w.heap.size + 1 < wr.heap.size := (Array.getElem?_eq_some_iff.1 hb.res).1
        clear hb hYl HB0 hi'
        go_wp2_with fail
        refine bodyPost_ret (v := .agg #[.int .i64 s.nb, .int .i64 s.nn, .int .i64 s.ns, .slice ba s.books.length bc, .slice na s.notes.length nc]) ?_ rfl ?_
        · rw [results_cell rfl]
          go_simp
        · have hfin : ∀ W', OwnD2 w.heap.size (.slice ba s.books.length bc) (.slice na s.notes.length nc) s.books Y w (w.heap.size + 1) W' → RetOwn s w (.returned (.agg #[.int .i64 s.nb, .int .i64 s.nn, .int .i64 s.ns, .slice ba s.books.length bc, .slice na s.notes.length nc])) W' := fun W' hW => ⟨_, _, Y, rfl, hW.2.1, HMP.out, hW.1⟩
          refine hfin _ ?_
          repeat' (first | exact HOD.out | refine OwnD2.set ?_ (by omega) _ _)
end Go.Proofs.YtgpjcgcecahddaaGreatDoor
set_option linter.unusedVariables false
set_option linter.unusedSimpArgs false
namespace Go.Proofs.YtgpjcgcecahddaaGreatDoor
open Go.RowKit Go.Lib
structure Item where
  id : Int
  name : ByteArray
instance : Inhabited Item := ⟨⟨0, ⟨#[]⟩⟩⟩
abbrev itemC (x : Item) : List Value := [.int .i64 x.id, .string x.name]
def itemV (x : Item) : Value := .agg #[.int .i64 x.id, .string x.name]
def ItemR (_ : World) (x : Item) (cs : List Value) : Prop := cs = itemC x
abbrev Items := Reads ItemR 2
/-- Three ways. -/
def cmpS (a b : ByteArray) : Int := if ltS a b then -1 else if ltS b a then 1 else 0
set_option maxRecDepth 100000 in
theorem nan_any (a : ByteArray) (w : World) : Calls Tryz.prog 80 #[.string a] w fun e w' => e = .returned (.bool false) ∧ w = w' := by
  go_enter Tryz.func80, Tryz.ntmps80
  go_wp2_with fail
  go_ret
  exact ⟨ret_bool (by simp), rfl⟩
set_option maxRecDepth 100000 in
theorem cmpS_any (a b : ByteArray) (w : World) : Calls Tryz.prog 42 #[.string a, .string b] w fun e w' => e = .returned (.int .i64 (cmpS a b)) ∧ w = w' := by
  have c1 := nan_any a
  have c2 := nan_any b
  cases h1 : ltS a b
  · have l1 : Op.bytesLess a.toList b.toList = false := h1
    cases h2 : ltS b a
    · have l2 : Op.bytesLess b.toList a.toList = false := h2
      have l3 : (a.toList == b.toList) = true := by rw [ltS_total h1 h2]; simp
      have HR := Lib.hid (show cmpS a b = 0 by unfold cmpS; rw [h1, h2]; rfl)
      clear h1 h2
      go_enter Tryz.func42, Tryz.ntmps42
      go_wp2_with fail
      refine (c1 _).mono ?_
      rintro e w1 ⟨rfl, rfl⟩
      go_wp2_with fail
      refine (c2 _).mono ?_
      rintro e w1 ⟨rfl, rfl⟩
      go_wp2_with fail
      go_ret
      exact ⟨ret_int HR.out.symm, rfl⟩
    · have l2 : Op.bytesLess b.toList a.toList = true := h2
      have l3 : (a.toList == b.toList) = false := by
        rw [beq_eq_false_iff_ne]
        intro e
        rw [eq_of_tl e, ltS_irrefl] at h2; cases h2
      have HR := Lib.hid (show cmpS a b = 1 by unfold cmpS; rw [h1, h2]; rfl)
      clear h1 h2
      go_enter Tryz.func42, Tryz.ntmps42
      go_wp2_with fail
      refine (c1 _).mono ?_
      rintro e w1 ⟨rfl, rfl⟩
      go_wp2_with fail
      refine (c2 _).mono ?_
      rintro e w1 ⟨rfl, rfl⟩
      go_wp2_with fail
      go_ret
      exact ⟨ret_int HR.out.symm, rfl⟩
  · have l1 : Op.bytesLess a.toList b.toList = true := h1
    have HR := Lib.hid (show cmpS a b = -1 by unfold cmpS; rw [h1]; rfl)
    clear h1
    go_enter Tryz.func42, Tryz.ntmps42
    go_wp2_with fail
    refine (c1 _).mono ?_
    rintro e w1 ⟨rfl, rfl⟩
    go_wp2_with fail
    refine (c2 _).mono ?_
    rintro e w1 ⟨rfl, rfl⟩
    go_wp2_with fail
    go_ret
    exact ⟨ret_int HR.out.symm, rfl⟩
end Go.Proofs.YtgpjcgcecahddaaGreatDoor
set_option linter.unusedVariables false
set_option linter.unusedSimpArgs false
namespace Go.Proofs.YtgpjcgcecahddaaGreatDoor
open Go.RowKit Go.Lib
def bookV (x : Book) : Value := .agg #[.int .i64 x.id, .string x.name]
/-- Where the first one is of which p holds; -1. -/
def idx {α : Type} (p : α → Bool) : List α → Int
  | [] => -1
  | x :: l => if p x = true then 0 else if idx p l = -1 then -1 else idx p l + 1
theorem idx_none {α : Type} {p : α → Bool} : ∀ {l : List α}, (∀ (j : Nat) x, l[j]? = some x → p x = false) → idx p l = -1
  | [], _ => rfl
  | x :: l, h => by
    have h0 := h 0 x rfl
    have ih := idx_none (l := l) (fun j y hy => h (j + 1) y hy)
    simp [idx, h0, ih]
theorem idx_some {α : Type} {p : α → Bool} : ∀ {l : List α} {i : Nat} {x : α}, l[i]? = some x → p x = true → (∀ (j : Nat) y, j < i → l[j]? = some y → p y = false) → idx p l = i
  | [], i, x, h, _, _ => by simp at h
  | y :: l, 0, x, h, hp, _ => by
    have : y = x := by simpa using h
    subst this
    unfold idx; rw [if_pos hp]; rfl
  | y :: l, i + 1, x, h, hp, hh => by
    have h0 := hh 0 y (by omega) rfl
    have := idx_some (l := l) (i := i) (x := x) (by simpa using h) hp (fun j z hj hz => hh (j + 1) z (by omega) (by simpa using hz))
    unfold idx; rw [h0, if_neg (by simp), this, if_neg (by omega)]; omega
theorem idx_bd {α : Type} (p : α → Bool) : ∀ l : List α, idx p l = -1 ∨ (0 ≤ idx p l ∧ idx p l < l.length)
  | [] => .inl rfl
  | x :: l => by
    have ih := idx_bd p l
    unfold idx
    split
    · right; simp
    · split
      · exact .inl rfl
      · right; simp; omega
set_option maxRecDepth 100000 in
theorem in_any (n lo hi : Int) (w : World) : Calls Tryz.prog 67 #[.int .i64 n, .int .i64 lo, .int .i64 hi] w fun e w' => e = .returned (.bool (decide (lo ≤ n) && decide (n ≤ hi))) ∧ w = w' := by
  by_cases h : lo ≤ n
  · go_enter Tryz.func67, Tryz.ntmps67
    go_wp2
    go_ret
    exact ⟨ret_bool (by simp [h]), rfl⟩
  · go_enter Tryz.func67, Tryz.ntmps67
    go_wp2
    go_ret
    exact ⟨ret_bool (by simp; omega), rfl⟩
set_option maxRecDepth 100000 in
theorem indexBooks (v : Value) (l : List Book) (g : Nat) (lb : Array Value) (p : Book → Bool) (w : World) (h : Books w v l) (hz : l.length ≤ 1000000000) (eg : ∀ args w, (callFunc g args).run Tryz.prog w = .ok (.enter g args) w)
    (hp : ∀ W x, Grow w W → x ∈ l → Calls Tryz.prog g (#[bookV x] ++ lb) W fun e w' => e = .returned (.bool (p x)) ∧ Grow W w') :
    Calls Tryz.prog 98 #[v, .func (.func g) #[] lb] w fun e w' => e = .returned (.int .i64 (idx p l)) ∧ Grow w w' := by
  obtain ⟨a, c, rfl⟩ := h.mk
  unfold bookV at hp
  have HP := Lib.hid hp
  clear hp
  go_enter Tryz.func98, Tryz.ntmps98
  go_wp2
  go_loopw [5, 8] (fun v5 v8 wx => Grow w wx ∧ ∃ i : Nat, v8 = .int .i64 i ∧ i ≤ l.length ∧ ∀ (j : Nat) x, j < i → l[j]? = some x → p x = false) (fun _ v8 _ => l.length - (intOf v8).toNat)
  case atStart => exact ⟨Grow.refl _, 0, rfl, by omega, fun j _ h => absurd h (by omega)⟩
  case round =>
    obtain ⟨hg, i, rfl, hi, hall⟩ := hrel
    have HA := Lib.hid hall
    clear hall
    by_cases hlt : i < l.length
    · have hlt' : (i : Int) < l.length := by omega
      obtain ⟨x, hx, -⟩ := lt_get hlt
      obtain ⟨b, off, rfl, -, hc, hd⟩ := (h.grow hg).at hx
      have cP := HP.out wr x hg (List.mem_of_getElem? hx)
      have HX := Lib.hid hx
      clear hx h HP
      cases hpx : p x
      · rw [hpx] at cP
        have HPX := Lib.hid hpx
        clear hpx
        go_wp2_with fail
        refine cP.mono ?_
        rintro e w1 ⟨rfl, g1⟩
        go_wp2_with fail
        go_roundw
        case rel => exact ⟨hg.trans g1, i + 1, by go_num, by omega, fun j y hj h1 => by
          rcases (by omega : j < i ∨ j = i) with h3 | rfl
          · exact HA.out j y h3 h1
          · rw [HX.out] at h1; injection h1 with h1; rw [← h1]; exact HPX.out⟩
        case measure => simp [intOf]; omega
      · rw [hpx] at cP
        have HR := Lib.hid (idx_some HX.out hpx HA.out)
        clear hpx
        go_wp2_with fail
        refine cP.mono ?_
        rintro e w1 ⟨rfl, g1⟩
        go_wp2_with fail
        go_ret
        exact ⟨ret_int HR.out.symm, hg.trans g1⟩
    · have HR := Lib.hid (idx_none (p := p) (l := l) (fun j x hx => HA.out j x (by have := (List.getElem?_eq_some_iff.1 hx).1; omega) hx))
      have hlt' : ¬ (i : Int) < l.length := by omega
      clear h HP
      go_wp2_with fail
      go_ret
      exact ⟨ret_int HR.out.symm, hg⟩
set_option maxRecDepth 100000 in
theorem named1_any (x : Book) (s : ByteArray) (B : Nat) (w : World) (hb : B < w.heap.size) (h : w.cell? ⟨B, 0, none⟩ = some (.string s)) :
    Calls Tryz.prog 99 #[bookV x, .pointer (some ⟨B, 0, none⟩)] w fun e w' => e = .returned (.bool (x.name.toList == s.toList)) ∧ Grow w w' := by
  unfold bookV
  go_enter Tryz.func99, Tryz.ntmps99
  go_wp2_with fail
  go_ret
  exact ⟨rfl, (Grow.refl w).alloc _⟩
set_option maxRecDepth 100000 in
theorem book1_any (x : Book) (n : Int) (B : Nat) (w : World) (hb : B < w.heap.size) (h : w.cell? ⟨B, 0, none⟩ = some (.int .i64 n)) :
    Calls Tryz.prog 137 #[bookV x, .pointer (some ⟨B, 0, none⟩)] w fun e w' => e = .returned (.bool (x.id == n)) ∧ Grow w w' := by
  unfold bookV
  go_enter Tryz.func137, Tryz.ntmps137
  go_wp2_with fail
  go_ret
  exact ⟨rfl, (Grow.refl w).alloc _⟩
set_option maxRecDepth 100000 in
theorem named_any (v : Value) (l : List Book) (s : ByteArray) (w : World) (h : Books w v l) (hz : l.length ≤ 1000000000) :
    Calls Tryz.prog 69 #[v, .string s] w fun e w' => e = .returned (.int .i64 (idx (fun x => x.name.toList == s.toList) l)) ∧ Grow w w' := by
  have g0 : Grow w (w.alloc (.cells #[.string s] 9)) := (Grow.refl w).alloc _
  have cI := indexBooks v l 99 #[.pointer (some ⟨w.heap.size, 0, none⟩)] (fun x => x.name.toList == s.toList) (w.alloc (.cells #[.string s] 9)) (h.grow g0) hz (fun _ _ => rfl)
    (fun W x g _ => named1_any x s w.heap.size W (by have := g.size; simp at this; omega) (by rw [g.cells _ _ (by simp)]; simp [go_sem]))
  obtain ⟨a, c, rfl⟩ := h.mk
  clear h
  go_enter Tryz.func69, Tryz.ntmps69
  go_wp2_with fail
  refine cI.mono ?_
  rintro e w1 ⟨rfl, g1⟩
  go_wp2_with fail
  go_ret
  exact ⟨rfl, g0.trans g1⟩
set_option maxRecDepth 100000 in
theorem book_any (s : Shelf) (bv nv : Value) (n : Int) (w : World) (h : ShelfR w s bv nv) (hz : s.books.length ≤ 1000000000) :
    Calls Tryz.prog 100 #[shelfV s bv nv, .int .i64 n] w fun e w' => e = .returned (.int .i64 (idx (fun x => x.id == n) s.books)) ∧ Grow w w' := by
  obtain ⟨hb, -⟩ := h
  have g0 : Grow w ((w.alloc (.cells #[.int .i64 s.nb, .int .i64 s.nn, .int .i64 s.ns, bv, nv] 25)).alloc (.cells #[.int .i64 n] 3)) := ((Grow.refl w).alloc _).alloc _
  have cI := indexBooks bv s.books 137 #[.pointer (some ⟨w.heap.size + 1, 0, none⟩)] (fun x => x.id == n) _ (hb.grow g0) hz (fun _ _ => rfl)
    (fun W x g _ => book1_any x n (w.heap.size + 1) W (by have := g.size; simp at this; omega) (by rw [g.cells _ _ (by simp)]; simp [go_sem]))
  obtain ⟨a, c, rfl⟩ := hb.mk
  clear hb
  unfold shelfV
  go_enter Tryz.func100, Tryz.ntmps100
  go_wp2_with fail
  refine cI.mono ?_
  rintro e w1 ⟨rfl, g1⟩
  go_wp2_with fail
  go_ret
  exact ⟨rfl, g0.trans g1⟩
end Go.Proofs.YtgpjcgcecahddaaGreatDoor
set_option linter.unusedVariables false
set_option linter.unusedSimpArgs false
namespace Go.Proofs.YtgpjcgcecahddaaGreatDoor
open Go.Lib
/-- The reference's rune at a place, of n bytes b0 b1 b2 b3. -/
def ref1 (n b0 b1 b2 b3 : Nat) : Nat × Nat :=
  if b0 < 128 then (b0, 1)
  else if 194 ≤ b0 ∧ b0 < 224 then
    (if 2 ≤ n ∧ b1 / 64 = 2 then (if 128 ≤ (b0 - 192) * 64 + b1 % 64 then ((b0 - 192) * 64 + b1 % 64, 2) else (0, 0)) else (0, 0))
  else if 224 ≤ b0 ∧ b0 < 240 then
    (if 3 ≤ n ∧ b1 / 64 = 2 ∧ b2 / 64 = 2 then
      (if 2048 ≤ (b0 - 224) * 4096 + b1 % 64 * 64 + b2 % 64 ∧ ¬ (55296 ≤ (b0 - 224) * 4096 + b1 % 64 * 64 + b2 % 64 ∧ (b0 - 224) * 4096 + b1 % 64 * 64 + b2 % 64 ≤ 57343)
       then ((b0 - 224) * 4096 + b1 % 64 * 64 + b2 % 64, 3) else (0, 0)) else (0, 0))
  else if 240 ≤ b0 ∧ b0 < 245 then
    (if 4 ≤ n ∧ b1 / 64 = 2 ∧ b2 / 64 = 2 ∧ b3 / 64 = 2 then
      (if 65536 ≤ (b0 - 240) * 262144 + b1 % 64 * 4096 + b2 % 64 * 64 + b3 % 64 ∧ (b0 - 240) * 262144 + b1 % 64 * 4096 + b2 % 64 * 64 + b3 % 64 ≤ 1114111
       then ((b0 - 240) * 262144 + b1 % 64 * 4096 + b2 % 64 * 64 + b3 % 64, 4) else (0, 0)) else (0, 0))
  else (0, 0)
theorem ref1_eq (n b0 b1 b2 b3 : Nat) (hn : 1 ≤ n) (h0 : b0 < 256) (h1 : b1 < 256) (h2 : b2 < 256) (h3 : b3 < 256) :
    ref1 n b0 b1 b2 b3 = if decodeN n b0 b1 b2 b3 = (65533, 1) then (0, 0) else decodeN n b0 b1 b2 b3 := by
  have yes : ∀ {r : Nat × Nat}, ref1 n b0 b1 b2 b3 = r → decodeN n b0 b1 b2 b3 = r → r ≠ (65533, 1) → ref1 n b0 b1 b2 b3 = if decodeN n b0 b1 b2 b3 = (65533, 1) then (0, 0) else decodeN n b0 b1 b2 b3 :=
    fun e1 e2 e3 => by rw [e1, e2, if_neg e3]
  have no : ref1 n b0 b1 b2 b3 = (0, 0) → decodeN n b0 b1 b2 b3 = (65533, 1) → ref1 n b0 b1 b2 b3 = if decodeN n b0 b1 b2 b3 = (65533, 1) then (0, 0) else decodeN n b0 b1 b2 b3 :=
    fun e1 e2 => by rw [e1, e2, if_pos rfl]
  have ne2 : ∀ {r k : Nat}, k ≠ 1 → (r, k) ≠ (65533, 1) := fun hk h => by injection h; omega
  by_cases c0 : b0 < 128
  · exact yes (by unfold ref1; rw [if_pos c0]) (by unfold decodeN; rw [if_pos c0]) (by intro h; injection h; omega)
  by_cases c1 : 194 ≤ b0 ∧ b0 < 224
  · by_cases d1 : 2 ≤ n ∧ b1 / 64 = 2
    · refine yes (r := ((b0 - 192) * 64 + b1 % 64, 2)) ?_ ?_ (ne2 (by omega))
      · unfold ref1; rw [if_neg c0, if_pos c1, if_pos d1, if_pos (by omega)]
      · unfold decodeN; rw [if_neg c0, if_pos (by omega), show b0 % 32 = b0 - 192 by omega, if_pos (by omega)]
    · refine no ?_ ?_
      · unfold ref1; rw [if_neg c0, if_pos c1, if_neg d1]
      · unfold decodeN; rw [if_neg c0, if_neg (by omega), if_neg (by omega), if_neg (by omega)]
  by_cases c2 : 224 ≤ b0 ∧ b0 < 240
  · have e : b0 % 16 = b0 - 224 := by omega
    by_cases d1 : 3 ≤ n ∧ b1 / 64 = 2 ∧ b2 / 64 = 2
    · by_cases d2 : 2048 ≤ (b0 - 224) * 4096 + b1 % 64 * 64 + b2 % 64 ∧ ¬ (55296 ≤ (b0 - 224) * 4096 + b1 % 64 * 64 + b2 % 64 ∧ (b0 - 224) * 4096 + b1 % 64 * 64 + b2 % 64 ≤ 57343)
      · refine yes (r := ((b0 - 224) * 4096 + b1 % 64 * 64 + b2 % 64, 3)) ?_ ?_ (ne2 (by omega))
        · unfold ref1; rw [if_neg c0, if_neg c1, if_pos c2, if_pos d1, if_pos d2]
        · unfold decodeN; rw [if_neg c0, if_neg (by omega), if_pos (by omega), e, if_pos (by omega)]
      · refine no ?_ ?_
        · unfold ref1; rw [if_neg c0, if_neg c1, if_pos c2, if_pos d1, if_neg d2]
        · unfold decodeN; rw [if_neg c0, if_neg (by omega), if_pos (by omega), e, if_neg (by omega)]
    · refine no ?_ ?_
      · unfold ref1; rw [if_neg c0, if_neg c1, if_pos c2, if_neg d1]
      · unfold decodeN; rw [if_neg c0, if_neg (by omega), if_neg (by omega), if_neg (by omega)]
  by_cases c3 : 240 ≤ b0 ∧ b0 < 245
  · have e : b0 % 8 = b0 - 240 := by omega
    by_cases d1 : 4 ≤ n ∧ b1 / 64 = 2 ∧ b2 / 64 = 2 ∧ b3 / 64 = 2
    · by_cases d2 : 65536 ≤ (b0 - 240) * 262144 + b1 % 64 * 4096 + b2 % 64 * 64 + b3 % 64 ∧ (b0 - 240) * 262144 + b1 % 64 * 4096 + b2 % 64 * 64 + b3 % 64 ≤ 1114111
      · refine yes (r := ((b0 - 240) * 262144 + b1 % 64 * 4096 + b2 % 64 * 64 + b3 % 64, 4)) ?_ ?_ (ne2 (by omega))
        · unfold ref1; rw [if_neg c0, if_neg c1, if_neg c2, if_pos c3, if_pos d1, if_pos d2]
        · unfold decodeN; rw [if_neg c0, if_neg (by omega), if_neg (by omega), if_pos (by omega), e, if_pos (by omega)]
      · refine no ?_ ?_
        · unfold ref1; rw [if_neg c0, if_neg c1, if_neg c2, if_pos c3, if_pos d1, if_neg d2]
        · unfold decodeN; rw [if_neg c0, if_neg (by omega), if_neg (by omega), if_pos (by omega), e, if_neg (by omega)]
    · refine no ?_ ?_
      · unfold ref1; rw [if_neg c0, if_neg c1, if_neg c2, if_pos c3, if_neg d1]
      · unfold decodeN; rw [if_neg c0, if_neg (by omega), if_neg (by omega), if_neg (by omega)]
  refine no ?_ ?_
  · unfold ref1; rw [if_neg c0, if_neg c1, if_neg c2, if_neg c3]
  · unfold decodeN
    rw [if_neg c0]
    by_cases k1 : b0 / 32 = 6 ∧ (1 < n ∧ b1 / 64 = 2)
    · rw [if_pos k1, if_neg (by omega)]
    rw [if_neg k1, if_neg (by omega)]
    by_cases k3 : b0 / 8 = 30 ∧ (1 < n ∧ b1 / 64 = 2) ∧ (2 < n ∧ b2 / 64 = 2) ∧ (3 < n ∧ b3 / 64 = 2)
    · rw [if_pos k3, if_neg (by omega)]
    · rw [if_neg k3]

/-- A rune of a string, or (0, 0): none that is whole. -/
def rune (s : ByteArray) (i : Nat) : Nat × Nat := if Utf8.decode s i = (65533, 1) then (0, 0) else Utf8.decode s i
theorem rune_ref (s : ByteArray) (i : Nat) (h : i < s.size) : rune s i = ref1 (s.size - i) (s.get! i).toNat (s.get! (i + 1)).toNat (s.get! (i + 2)).toNat (s.get! (i + 3)).toNat := by
  unfold rune
  rw [decode_at, ref1_eq _ _ _ _ _ (by omega) (UInt8.toNat_lt _) (UInt8.toNat_lt _) (UInt8.toNat_lt _) (UInt8.toNat_lt _)]
theorem rune_two (s : ByteArray) (i : Nat) : (rune s i).2 = 0 ∨ rune s i = Utf8.decode s i := by
  unfold rune; split
  · exact .inl rfl
  · exact .inr rfl
theorem rune_bd (s : ByteArray) (i : Nat) : (rune s i).1 ≤ 1114111 ∧ (rune s i).2 ≤ 4 := by
  unfold rune
  split
  · simp
  · refine ⟨rune_le s i, ?_⟩
    rw [decode_at]; unfold decodeN
    (repeat' split) <;> simp

/-- Are all runes from a place on whole? -/
def wholeFrom (s : ByteArray) : Nat → Nat → Bool
  | 0, _ => true
  | f + 1, i => if i < s.size then (if (rune s i).2 = 0 then false else wholeFrom s f (i + (rune s i).2)) else true
def whole (s : ByteArray) : Bool := wholeFrom s s.size 0
theorem dec_pos (s : ByteArray) (i : Nat) (h : i < s.size) : (rune s i).2 = 0 ↔ Utf8.decode s i = (65533, 1) := by
  unfold rune; split
  · simp_all
  · rename_i h'
    have := decode_width_pos s i h
    constructor
    · intro e; omega
    · intro e; exact absurd e h'
theorem size_list (s : ByteArray) : s.data.toList.length = s.size := by simp
theorem get_ext (s : ByteArray) (i k : Nat) : (s.extract i s.size).get! k = s.get! (i + k) := by
  have e : (s.extract i s.size).data = s.data.extract i s.size := by
    apply Array.toList_inj.1; rw [ext_list, Array.toList_extract, List.extract_eq_drop_take', List.take_of_length_le (by rw [size_list]; exact Nat.le_refl _)]
  show (s.extract i s.size).data[k]! = s.data[i + k]!
  rw [e]
  simp only [Array.getElem!_eq_getD, Array.getD_eq_getD_getElem?, Array.getElem?_extract]
  by_cases h : k < s.size - i
  · rw [if_pos (by simp at h ⊢; omega)]
  · rw [if_neg (by simp at h ⊢; omega), Array.getElem?_eq_none (by simp at h ⊢; omega)]
theorem decodeL_drop (s : ByteArray) (i : Nat) : decodeL (s.data.toList.drop i) = Utf8.decode s i := by
  have e : (⟨(s.data.toList.drop i).toArray⟩ : ByteArray) = s.extract i s.size := by
    apply ByteArray.ext; apply Array.toList_inj.1
    rw [ext_list]
  unfold decodeL
  rw [e, decode_at, decode_at, ext_size]
  simp only [get_ext, Nat.add_zero, Nat.zero_add, Nat.sub_zero, Nat.add_assoc]
theorem valid_whole (s : ByteArray) : ∀ (f i : Nat), validGoD f (s.data.toList.drop i) = wholeFrom s f i
  | 0, _ => rfl
  | f + 1, i => by
    unfold validGoD wholeFrom
    by_cases h : i < s.size
    · rw [if_neg (by intro e; have := List.drop_eq_nil_iff.1 e; simp at h this; omega), if_pos h, decodeL_drop]
      have hp := dec_pos s i h
      by_cases hz : (rune s i).2 = 0
      · rw [if_pos hz, if_pos (by rw [hp.1 hz]; exact ⟨rfl, rfl⟩)]
      · have hd : Utf8.decode s i ≠ (65533, 1) := fun e => hz (hp.2 e)
        rw [if_neg hz, if_neg (fun e => hd (Prod.ext e.1 e.2)), List.drop_drop, valid_whole s f]
        rcases rune_two s i with h2 | h2
        · exact absurd h2 hz
        · rw [h2]
    · rw [if_neg h, if_pos (List.drop_eq_nil_iff.2 (by simp at h ⊢; omega))]
theorem validD_whole (s : ByteArray) : validD s.data.toList = whole s := by
  have := valid_whole s s.size 0
  rw [List.drop_zero] at this
  unfold validD whole
  rw [← this, size_list]

/-- How many runes, from a place on. -/
def runesFrom (s : ByteArray) : Nat → Nat → Nat
  | 0, _ => 0
  | f + 1, i => if i < s.size then 1 + runesFrom s f (i + (rune s i).2) else 0
theorem runes_count (s : ByteArray) : ∀ (f i : Nat), wholeFrom s f i = true → runeCountFrom s f i = runesFrom s f i
  | 0, _, _ => rfl
  | f + 1, i, h => by
    unfold wholeFrom at h
    unfold runeCountFrom runesFrom
    by_cases hi : i < s.size
    · rw [if_pos hi] at h ⊢
      rw [if_pos hi]
      by_cases hz : (rune s i).2 = 0
      · rw [if_pos hz] at h; exact absurd h (by simp)
      · rw [if_neg hz] at h
        rcases rune_two s i with h2 | h2
        · exact absurd h2 hz
        · rw [h2] at h ⊢; rw [runes_count s f _ h]
    · rw [if_neg hi, if_neg hi]
/-- May a rune not stand in a name? -/
def oddN (r : Nat) : Bool := decide (r < 32) || (decide (127 ≤ r) && decide (r ≤ 159)) || r == 47
/-- Are all runes from a place on whole, and none of them odd? -/
def fineFrom (s : ByteArray) : Nat → Nat → Bool
  | 0, _ => true
  | f + 1, i => if i < s.size then (if (rune s i).2 = 0 ∨ oddN (rune s i).1 = true then false else fineFrom s f (i + (rune s i).2)) else true
theorem fine_eq (s : ByteArray) : ∀ (f i : Nat), fineFrom s f i = (wholeFrom s f i && !decide (0 ≤ idxFuncFrom oddN true s f i))
  | 0, _ => by simp [fineFrom, wholeFrom, idxFuncFrom]
  | f + 1, i => by
    unfold fineFrom wholeFrom idxFuncFrom
    by_cases hi : i < s.size
    · rw [if_pos hi, if_pos hi, if_pos hi]
      by_cases hz : (rune s i).2 = 0
      · rw [if_pos (.inl hz), if_pos hz, Bool.false_and]
      · rw [if_neg hz]
        rcases rune_two s i with h2 | h2
        · exact absurd h2 hz
        · rw [h2]
          by_cases ho : oddN (Utf8.decode s i).1 = true
          · rw [if_pos (.inr ho), if_pos ho]
            have : (0 : Int) ≤ i := by omega
            simp [this]
          · rw [if_neg (by rintro (h | h); exact hz (h2 ▸ h); exact ho h), if_neg ho, fine_eq s f]
    · rw [if_neg hi, if_neg hi, if_neg hi]; simp
/-- A byte of a text. -/
def byteAt (s : ByteArray) (i : Nat) : Nat := (s.get! i).toNat
/-- May a name be? -/
def mayB (s : ByteArray) : Bool := decide (1 ≤ s.size) && decide (s.size ≤ 20) && fineFrom s s.size 0 && byteAt s 0 != 32 && byteAt s (s.size - 1) != 32
theorem may_prog (s : ByteArray) : mayB s = (decide (1 ≤ s.size) && decide (s.size ≤ 20) && validD s.data.toList && !decide (0 ≤ idxFunc oddN true s) && byteAt s 0 != 32 && byteAt s (s.size - 1) != 32) := by
  unfold mayB
  rw [fine_eq, validD_whole]
  unfold whole idxFunc
  cases decide (1 ≤ s.size) <;> cases decide (s.size ≤ 20) <;> cases wholeFrom s s.size 0 <;> simp
end Go.Proofs.YtgpjcgcecahddaaGreatDoor
set_option linter.unusedVariables false
set_option linter.unusedSimpArgs false
namespace Go.Proofs.YtgpjcgcecahddaaGreatDoor
open Go.RowKit Go.Lib

def oddB (r : Int) : Bool := decide (r < 32) || (decide (127 ≤ r) && decide (r ≤ 159)) || r == 47
theorem odd_any (r : Int) (w : World) :
    Calls Tryz.prog 97 #[.int .i32 r] w fun e w' => e = .returned (.bool (oddB r)) ∧ w = w' := by
  unfold oddB
  by_cases c1 : r < 32
  · go_enter Tryz.func97, Tryz.ntmps97
    go_wp2
    go_ret
    exact ⟨ret_bool (by simp [c1]), rfl⟩
  · by_cases c2 : 127 ≤ r
    · by_cases c3 : r ≤ 159
      · go_enter Tryz.func97, Tryz.ntmps97
        go_wp2
        go_ret
        exact ⟨ret_bool (by simp [c2, c3]), rfl⟩
      · go_enter Tryz.func97, Tryz.ntmps97
        go_wp2
        go_ret
        exact ⟨ret_bool (by rw [Bool.eq_iff_iff]; simp <;> omega), rfl⟩
    · go_enter Tryz.func97, Tryz.ntmps97
      go_wp2
      go_ret
      exact ⟨ret_bool (by rw [Bool.eq_iff_iff]; simp <;> omega), rfl⟩
theorem oddB_nat (x : Nat) : oddB x = oddN x := by
  unfold oddB oddN
  rw [Bool.eq_iff_iff]; simp; omega
set_option maxRecDepth 100000 in
theorem odd_runes (w : World) : PredAtRunes Tryz.prog 97 #[] oddN w := fun W x hx hb => by
  refine (odd_any (x : Int) W).mono ?_
  rintro e w' ⟨rfl, rfl⟩
  exact ⟨by rw [oddB_nat], 0, rfl⟩

/-- The tables of utf8 stand as its text lays them. -/
def Tabs (w : World) : Prop := Lib.Utf8Tabs (Tryz.laysValid_ren.g 3) (Tryz.laysValid_ren.g 4) w
theorem Tabs.below {w w' : World} (h : Tabs w) (hb : Below w.heap.size w w') : Tabs w' := Utf8Tabs_below h hb

theorem valid_any (s : ByteArray) (w : World) (hs : s.size ≤ 1000000000) (hT : Tabs w) :
    Calls Tryz.prog 95 #[.string s] w fun e w' => e = .returned (.bool (whole s)) ∧ Below w.heap.size w w' := by
  have h := Tryz.utf8_ValidString s w (by omega) hT
  rw [validD_whole] at h
  exact h
set_option maxRecDepth 100000 in
theorem contains_odd (s : ByteArray) (w : World) :
    Calls Tryz.prog 96 #[.string s, .func (.func 97) #[] #[]] w fun e w' => e = .returned (.bool (decide (0 ≤ idxFunc oddN true s))) ∧ Below w.heap.size w w' :=
  Tryz.strings_ContainsFunc_runes 97 #[] (fun _ _ => rfl) oddN s w (odd_runes w)

theorem byte_get (s : ByteArray) (i : Nat) (h : i < s.size) : (s[i]'h).toNat = byteAt s i := by
  unfold byteAt; rw [Utf8W.get!_of_lt s i h]
set_option maxRecDepth 100000 in
theorem may_any (s : ByteArray) (w : World) (hs : s.size ≤ 1000000000) (hT : Tabs w) :
    Calls Tryz.prog 68 #[.string s] w fun e w' => e = .returned (.bool (mayB s)) ∧ Below w.heap.size w w' := by
  have cV := valid_any s w hs hT
  have cC := contains_odd s
  rw [may_prog, validD_whole]
  by_cases c1 : (1 : Int) ≤ s.size ∧ (s.size : Int) ≤ 20
  · obtain ⟨c1, c2⟩ := c1
    rw [decide_eq_true (show 1 ≤ s.size by omega), decide_eq_true (show s.size ≤ 20 by omega), Bool.true_and, Bool.true_and]
    cases hv : whole s
    · rw [hv] at cV; clear hv
      go_enter Tryz.func68, Tryz.ntmps68
      go_wp2_with (go_at_call 95; refine cV.mono ?_; rintro e w1 ⟨rfl, hb⟩)
      go_ret
      exact ⟨by simp, hb⟩
    · rw [hv] at cV; clear hv
      rw [Bool.true_and]
      cases ho : decide (0 ≤ idxFunc oddN true s)
      · simp only [ho] at cC; clear ho
        have h0 : 0 < s.size := by omega
        have h0' : (0 : Int) < s.size := by omega
        have b0 := byte_get s 0 h0
        have b1 := byte_get s (s.size - 1) (by omega)
        have B0 := Lib.hid b0
        have B1 := Lib.hid b1
        clear b0 b1
        go_enter Tryz.func68, Tryz.ntmps68
        go_wp2_with (first | (go_at_call 95; refine cV.mono ?_; rintro e w1 ⟨rfl, hb⟩) | (go_at_call 96; refine (cC _).mono ?_; rintro e w2 ⟨rfl, hb2⟩))
        all_goals go_ret
        all_goals refine ⟨ret_bool ?_, hb.trans (hb2.mono hb.size)⟩
        all_goals rw [← B0.out, ← B1.out, Bool.eq_iff_iff]
        all_goals simp <;> omega
      · simp only [ho] at cC; clear ho
        go_enter Tryz.func68, Tryz.ntmps68
        go_wp2_with (first | (go_at_call 95; refine cV.mono ?_; rintro e w1 ⟨rfl, hb⟩) | (go_at_call 96; refine (cC _).mono ?_; rintro e w2 ⟨rfl, hb2⟩))
        go_ret
        exact ⟨by simp, hb.trans (hb2.mono hb.size)⟩
  · have hm : (decide (1 ≤ s.size) && decide (s.size ≤ 20)) = false := by
      rw [Bool.eq_false_iff]; simp; omega
    rw [hm]; simp only [Bool.false_and]
    by_cases c2 : (1 : Int) ≤ s.size
    · have c3 : ¬ (s.size : Int) ≤ 20 := by omega
      go_enter Tryz.func68, Tryz.ntmps68
      go_wp2_with fail
      go_ret
      exact ⟨rfl, Below.refl _ _⟩
    · go_enter Tryz.func68, Tryz.ntmps68
      go_wp2_with fail
      go_ret
      exact ⟨rfl, Below.refl _ _⟩

end Go.Proofs.YtgpjcgcecahddaaGreatDoor
set_option linter.unusedVariables false
set_option linter.unusedSimpArgs false
namespace Go.Proofs.YtgpjcgcecahddaaGreatDoor
open Go.RowKit Go.Lib
/-- May the i-th tag stand there? -/
def tagOk (l : List ByteArray) (i : Nat) : Bool := mayB (l.getD i ⟨#[]⟩) && (i == 0 || ltS (l.getD (i - 1) ⟨#[]⟩) (l.getD i ⟨#[]⟩))
def tagsB (l : List ByteArray) : Bool := allTo l.length (tagOk l) && decide (l.length ≤ 4)
set_option maxRecDepth 100000 in
set_option maxHeartbeats 1000000 in
theorem mayTags_any (v : Value) (l : List ByteArray) (w : World) (h : Texts w v l) (hz : l.length ≤ 1000000) (hs : ∀ t ∈ l, t.size ≤ 1000000) (hT : Tabs w) :
    Calls Tryz.prog 101 #[v] w fun e w' => e = .returned (.bool (tagsB l)) ∧ Grow w w' := by
  obtain ⟨a, c, rfl⟩ := h.mk
  go_enter Tryz.func101, Tryz.ntmps101
  go_wp2_with fail
  go_loopw [3, 4, 7] (fun _ _ v7 wx => Grow w wx ∧ ∃ i : Nat, v7 = .int .i64 i ∧ i ≤ l.length ∧ ∀ (j : Nat), j < i → tagOk l j = true) (fun _ _ v7 _ => l.length - (intOf v7).toNat)
  case atStart => exact ⟨Grow.refl _, 0, rfl, by omega, fun j h => absurd h (by omega)⟩
  case round =>
    obtain ⟨hg, i, rfl, hi, hall⟩ := hrel
    have HA := Lib.hid hall
    clear hall
    by_cases hlt : i < l.length
    · have hlt' : (i : Int) < l.length := by omega
      obtain ⟨x, hx, -⟩ := lt_get hlt
      obtain ⟨b, off, rfl, -, hc⟩ := (h.grow hg).at hx
      have cM := may_any x wr (by have := hs x (List.mem_of_getElem? hx); omega) (hT.below hg)
      have HX := Lib.hid (getD_of (d := ⟨#[]⟩) hx)
      clear hx
      cases hm : mayB x
      · rw [hm] at cM
        have HR := Lib.hid (show tagsB l = false by
          have : tagOk l i = false := by unfold tagOk; rw [HX.out, hm]; rfl
          unfold tagsB; rw [allTo_no hlt this]; rfl)
        clear hm h
        go_wp2_with fail
        refine cM.mono ?_
        rintro e w1 ⟨rfl, g1⟩
        go_wp2_with fail
        go_ret
        exact ⟨ret_bool HR.out.symm, hg.trans g1⟩
      · rw [hm] at cM
        by_cases h0 : (0 : Int) < i
        · obtain ⟨y, hy, -⟩ := lt_get (l := l) (i := i - 1) (by omega)
          obtain ⟨b', off', e', hb', hc'⟩ := (h.grow hg).at hy
          injection e' with e'
          injection e' with e1 e2
          subst e1 e2
          have HY := Lib.hid (getD_of (d := ⟨#[]⟩) hy)
          clear hy h
          by_cases hl : ltS y x = true
          · have HO := Lib.hid (show tagOk l i = true by
              unfold tagOk; rw [HX.out, HY.out, hm, hl]; simp)
            have hl' : Op.bytesLess y.toList x.toList = true := hl
            clear hm hl
            go_wp2_with fail
            refine cM.mono ?_
            rintro e w1 ⟨rfl, g1⟩
            have hcc : w1.cell? ⟨b, off + (i - 1), none⟩ = some (.string y) := (Grow.cells g1 _ _ hb').trans hc'
            go_wp2_with fail
            go_roundw
            case rel => exact ⟨hg.trans g1, i + 1, by go_num, by omega, fun j hj => by
              rcases (by omega : j < i ∨ j = i) with h3 | rfl
              · exact HA.out j h3
              · exact HO.out⟩
            case measure => simp [intOf]; omega
          · have HR := Lib.hid (show tagsB l = false by
              have : tagOk l i = false := by
                unfold tagOk; rw [HX.out, HY.out, hm]; simp at hl; rw [hl]; simp; omega
              unfold tagsB; rw [allTo_no hlt this]; rfl)
            have hl' : Op.bytesLess y.toList x.toList = false := by simpa [ltS] using hl
            clear hm hl
            go_wp2_with fail
            refine cM.mono ?_
            rintro e w1 ⟨rfl, g1⟩
            have hcc : w1.cell? ⟨b, off + (i - 1), none⟩ = some (.string y) := (Grow.cells g1 _ _ hb').trans hc'
            go_wp2_with fail
            go_ret
            exact ⟨ret_bool HR.out.symm, hg.trans g1⟩
        · obtain rfl : i = 0 := by omega
          rw [Nat.add_zero] at hc
          have HO := Lib.hid (show tagOk l 0 = true by unfold tagOk; rw [HX.out, hm]; rfl)
          clear hm h
          go_wp2_with fail
          refine cM.mono ?_
          rintro e w1 ⟨rfl, g1⟩
          go_wp2_with fail
          go_roundw
          case rel => exact ⟨hg.trans g1, 1, by go_num, by omega, fun j hj => by
            obtain rfl : j = 0 := by omega
            exact HO.out⟩
          case measure => simp [intOf]; omega
    · have HO := Lib.hid (allTo_yes (n := l.length) (p := tagOk l) (fun j hj => HA.out j (by omega)))
      have hlt' : ¬ (i : Int) < l.length := by omega
      clear h
      go_wp2_with fail
      go_ret
      exact ⟨ret_bool (by unfold tagsB; rw [HO.out, Bool.true_and]; congr 1; simp; omega), hg⟩
end Go.Proofs.YtgpjcgcecahddaaGreatDoor
set_option linter.unusedVariables false
set_option linter.unusedSimpArgs false
namespace Go.Proofs.YtgpjcgcecahddaaGreatDoor
open Go.RowKit Go.Lib Go.Maps
/-- Block b is the set S. -/
def Seen (w : World) (b n : Nat) (S : List Int) : Prop := ∃ D : DataW Unit, w.ownsMap Tryz.prog 3 (plainElem Tryz.prog 4) b n D ∧ IsMap D ∧ ∀ x, Wf x → D.atKey (.int .i64 x) (.lit (.bool false)) = .lit (.bool (decide (x ∈ S)))
theorem Seen.lt {w : World} {b n : Nat} {S : List Int} (h : Seen w b n S) : b < w.heap.size := by obtain ⟨D, h, _⟩ := h; exact h.lt
theorem Seen.kept {w w' : World} {b n : Nat} {S : List Int} (h : Seen w b n S) (e : w'.heap[b]? = w.heap[b]?) : Seen w' b n S := by
  obtain ⟨D, ⟨es, c, h1, h2, h3, h4⟩, h5, h6⟩ := h
  exact ⟨D, ⟨es, c, e.trans h1, h2, h3, h4⟩, h5, h6⟩
theorem Seen.grow {w w' : World} {b n : Nat} {S : List Int} (h : Seen w b n S) (g : Grow w w') : Seen w' b n S := h.kept (Below.block g b h.lt)
theorem Seen.made (w : World) : Seen (w.alloc (.map #[] 0)) w.heap.size 0 [] :=
  ⟨.map [], World.ownsMap_made w _ _ _, isMap_empty, fun x _ => by simp [DataW.atKey]⟩
set_option maxRecDepth 100000 in
theorem plainElem_bool_inv {v : Value} {d : DataW Unit} {ps : List MemPlace} (h : plainElem Tryz.prog 4 v = some (d, ps)) : ∃ c, v = .bool c ∧ d = .lit (.bool c) := by
  unfold plainElem at h
  rw [Tryz.underlying4] at h
  cases v <;> simp at h
  exact ⟨_, rfl, h.1.symm⟩
set_option maxRecDepth 100000 in
theorem Seen.look {w : World} {b n : Nat} {S : List Int} (h : Seen w b n S) {x : Int} (hx : Wf x) :
    (Instr.lookup 94 (.map (some b)) (.int .i64 x) false).run Tryz.prog w = .ok (.bool (decide (x ∈ S))) w := by
  obtain ⟨D, h1, h2, h3⟩ := h
  obtain ⟨v, ps, hrun, hv⟩ := h1.lookup (int_keyed Tryz.underlying3) Tryz.underlying94 (z := .bool false) (by kernel_rfl) (plainElem_bool Tryz.underlying4 false) (keyOf_int_mk Tryz.underlying3 hx.lit)
  rw [h3 x hx] at hv
  obtain ⟨c, rfl, e⟩ := plainElem_bool_inv hv
  injection e with e
  injection e with e
  rw [e]; exact hrun
set_option maxRecDepth 100000 in
theorem Seen.put {w : World} {b n : Nat} {S : List Int} (h : Seen w b n S) {x : Int} (hx : Wf x) (hn : n ≤ 1000000000) :
    ∃ w', (Instr.mapUpdate 94 (.map (some b)) (.int .i64 x) (.bool true)).run Tryz.prog w = .ok () w' ∧ Seen w' b (n + 1) (x :: S) ∧ Turned b w w' := by
  obtain ⟨D, h1, h2, h3⟩ := h
  obtain ⟨w', hrun, h4, h5⟩ := h1.update (int_keyed Tryz.underlying3) Tryz.underlying94 (by unfold maxLen; omega) (keyOf_int_mk Tryz.underlying3 hx.lit) (plainElem_bool Tryz.underlying4 true)
  refine ⟨w', hrun, ⟨_, h4, h2.put _ _, fun y hy => ?_⟩, Turned.of_grown h5⟩
  by_cases e : y = x
  · subst e; rw [atKey_put_same h2 (by trivial)]; simp
  · rw [atKey_put_other (by intro e'; injection e' with e1 e2; exact e e2), h3 y hy]; simp [e]
end Go.Proofs.YtgpjcgcecahddaaGreatDoor
set_option linter.unusedVariables false
set_option linter.unusedSimpArgs false
namespace Go.Proofs.YtgpjcgcecahddaaGreatDoor
open Go.RowKit Go.Lib
abbrev noteAt (s : Shelf) (i : Nat) : Note := s.notes.getD i default
/-- The head of mayNote's look at a note. -/
def noteHead (s : Shelf) (i : Nat) : Bool :=
  (decide (1 ≤ (noteAt s i).id) && decide ((noteAt s i).id ≤ s.nn - 1)) && (i == 0 || decide ((noteAt s (i - 1)).id < (noteAt s i).id)) && mayB (noteAt s i).name &&
    decide (0 ≤ idx (fun b => b.id == (noteAt s i).book) s.books) && tagsB (noteAt s i).tags && decide ((noteAt s i).sheets.length ≤ 8)
/-- No earlier note of one's book has its name. -/
def noteNew (s : Shelf) (i : Nat) : Bool := allTo i fun j => !((noteAt s j).book == (noteAt s i).book && (noteAt s j).name.toList == (noteAt s i).name.toList)
def noteOk (s : Shelf) (i : Nat) : Bool := noteHead s i && noteNew s i
/-- Are numbers of sheets good, and not seen? -/
def sheetsOk (ns : Int) : List Int → List Int → Bool
  | _, [] => true
  | S, x :: l => !decide (x ∈ S) && (decide (1 ≤ x) && decide (x ≤ ns - 1)) && sheetsOk ns (x :: S) l
def NotePost (b : Nat) (n : Nat) (S : List Int) (ns : Int) (x : Note) (ok : Bool) (W : World) (e : Ending) (w' : World) : Prop :=
  Turned b W w' ∧ ((ok && sheetsOk ns S x.sheets) = false ∧ e = .returned (.bool false) ∨ (ok && sheetsOk ns S x.sheets) = true ∧ e = .returned (.bool true) ∧ Seen w' b (n + x.sheets.length) (x.sheets.reverse ++ S))
def TameN (x : Note) : Prop := x.name.size ≤ 1000000 ∧ x.tags.length ≤ 1000000 ∧ x.sheets.length ≤ 1000000 ∧ (∀ t ∈ x.tags, t.size ≤ 1000000) ∧ ∀ y ∈ x.sheets, Wf y
set_option maxRecDepth 100000 in
set_option maxHeartbeats 4000000 in
/-- The head of mayNote, behind its two boxes. -/
theorem mayNote_any (s : Shelf) (bv nv : Value) (i : Nat) (x : Note) (b n : Nat) (S : List Int) (w0 W : World) (hx : s.notes[i]? = some x) (h : ShelfR w0 s bv nv) (g : Grow w0 W) (hb : w0.heap.size ≤ b) (hS : Seen W b n S) (hn : n ≤ 100000000)
    (hT : Tabs w0) (hz : s.books.length ≤ 1000000) (hzn : s.notes.length ≤ 1000000) (ht : TameN x) (h1 : 1 ≤ s.nn) (h2 : s.nn ≤ 65536) (h3 : 1 ≤ s.ns) (h4 : s.ns ≤ 4096) :
    Calls Tryz.prog 70 #[shelfV s bv nv, .int .i64 i, .map (some b)] W (NotePost b n S s.ns x (noteOk s i) W) := by
  obtain ⟨a1, c1, rfl⟩ := h.1.mk
  obtain ⟨a2, c2, rfl⟩ := h.2.mk
  have hlt : i < s.notes.length := (List.getElem?_eq_some_iff.1 hx).1
  have hlt' : (i : Int) < s.notes.length := by omega
  obtain ⟨bb, off, tv, sv, rfl, hb0, p0, p1, p2, p3, p4, htv, hsv⟩ := h.2.at hx
  have hbb : bb < W.heap.size := by have := g.size; omega
  replace p0 := (g.cells _ _ hb0).trans p0
  replace p1 := (g.cells _ _ hb0).trans p1
  replace p2 := (g.cells _ _ hb0).trans p2
  replace p3 := (g.cells _ _ hb0).trans p3
  replace p4 := (g.cells _ _ hb0).trans p4
  obtain ⟨at_, ct, rfl⟩ := htv.mk
  obtain ⟨as_, cs, rfl⟩ := hsv.mk
  have HX := Lib.hid (getD_of (d := (default : Note)) hx)
  obtain ⟨id, book, name, tags, sheets⟩ := x
  simp only at p0 p1 p2 p3 p4 htv hsv
  obtain ⟨t1, t2, t3, t4, t5⟩ := ht
  simp only at t1 t2 t3 t4 t5
  have hg := h.grow g
  have HS := Lib.hid hS
  have HH := Lib.hid h
  clear hS h hx
  unfold shelfV
  go_enter Tryz.func70, Tryz.ntmps70
  go_upto_region 2 with (fail)
  generalize hV : (W.alloc (.cells #[.int .i64 s.nb, .int .i64 s.nn, .int .i64 s.ns, .slice a1 s.books.length c1, .slice (some ⟨bb, off, none⟩) s.notes.length c2] 25)).alloc (.cells #[.int .i64 id, .int .i64 book, .string name, .slice at_ tags.length ct, .slice as_ sheets.length cs] 54) = V
  have gV : Grow W V := by rw [← hV]; exact ((Grow.refl W).alloc _).alloc _
  have hsz : W.heap.size + 1 < V.heap.size := by rw [← hV]; simp
  have hsz0 : W.heap.size < V.heap.size := by omega
  have hbV : bb < V.heap.size := by have := gV.size; omega
  have Q : V.cell? ⟨W.heap.size, 0, none⟩ = some (.int .i64 s.nb) ∧ V.cell? ⟨W.heap.size, 1, none⟩ = some (.int .i64 s.nn) ∧ V.cell? ⟨W.heap.size, 2, none⟩ = some (.int .i64 s.ns) ∧ V.cell? ⟨W.heap.size, 3, none⟩ = some (.slice a1 s.books.length c1) ∧
      V.cell? ⟨W.heap.size, 4, none⟩ = some (.slice (some ⟨bb, off, none⟩) s.notes.length c2) ∧ V.cell? ⟨W.heap.size + 1, 0, none⟩ = some (.int .i64 id) ∧ V.cell? ⟨W.heap.size + 1, 1, none⟩ = some (.int .i64 book) ∧ V.cell? ⟨W.heap.size + 1, 2, none⟩ = some (.string name) ∧
      V.cell? ⟨W.heap.size + 1, 3, none⟩ = some (.slice at_ tags.length ct) ∧ V.cell? ⟨W.heap.size + 1, 4, none⟩ = some (.slice as_ sheets.length cs) := by rw [← hV]; simp [go_sem]
  obtain ⟨q0, q1, q2, q3, q4, r0, r1, r2, r3, r4⟩ := Q
  clear hV p0 p1 p2 p3 p4
  have gwV := g.trans gV
  have HTV := Lib.hid (hT.below gwV)
  have cI := fun W => in_any id 1 (s.nn - 1) W
  have cM := fun y : Gr V => may_any name y.W (by omega) (HTV.out.below y.g)
  have cB := fun y : Gr V => book_any s _ _ book y.W ((hg.grow gV).grow y.g) (by omega)
  have cT := fun y : Gr V => mayTags_any (.slice at_ tags.length ct) tags y.W (Texts.grow (Texts.grow htv gwV) y.g) t2 t4 (HTV.out.below y.g)
  unfold shelfV at cB
  have HD := Lib.hid (show noteHead s i = ((decide (1 ≤ id) && decide (id ≤ s.nn - 1)) && (i == 0 || decide ((noteAt s (i - 1)).id < id)) && mayB name && decide (0 ≤ idx (fun b => b.id == book) s.books) && tagsB tags && decide (sheets.length ≤ 8)) by unfold noteHead noteAt; rw [HX.out])
  go_cut [64] (fun v64 wc => v64 = .bool (!noteHead s i) ∧ Grow V wc)
  case first =>
    have H' := HD.out
    have hno := hg.2.grow gV
    clear HD HS HH HX htv hsv hg g gV gwV hT hb t1 t2 t3 t4 t5 h3 h4 hn hz hb0
    cases e1 : (decide (1 ≤ id) && decide (id ≤ s.nn - 1))
    · have HN := Lib.hid (show noteHead s i = false by rw [H', e1]; rfl)
      rw [e1] at cI
      clear H' e1 cM cB cT hno
      refine wp_region_gr (by kernel_rfl) (by kernel_rfl) ?_
      repeat (go_big_quiet_step (first | (go_at_call 67; exact Calls.gr_same (cI _)) | (go_at_call 68; exact Calls.gr (cM _)) | (go_at_call 100; exact Calls.gr (cB _)) | (go_at_call 101; exact Calls.gr (cT _))))
      refine wpQuiet_nil ?_
      rintro _ ⟨y, rfl⟩
      go_wp2_with fail
      go_meet
      exact ⟨by rw [HN.out]; rfl, y.g⟩
    rw [e1] at cI H'
    clear e1
    have ho : ((i : Int) ≤ 0 ∧ i = 0) ∨ ((0 : Int) < i ∧ ∃ z : Note, noteAt s (i - 1) = z ∧ V.cell? ⟨bb, off + (i - 1) * 5, none⟩ = some (.int .i64 z.id)) := by
      rcases Nat.eq_zero_or_pos i with h0 | h0
      · exact .inl ⟨by omega, h0⟩
      · obtain ⟨z, hz, -⟩ := lt_get (l := s.notes) (i := i - 1) (by omega)
        obtain ⟨b', off', tv', sv', e', hb', k0, -⟩ := hno.at hz
        injection e' with e'
        injection e' with e1 e2
        subst e1 e2
        exact .inr ⟨by omega, z, getD_of hz, k0⟩
    clear hno
    by_cases hord : (0 : Int) < i ∧ id ≤ (noteAt s (i - 1)).id
    · obtain ⟨i0, hord⟩ := hord
      rcases ho with ⟨h0, -⟩ | ⟨-, z, hz, k0⟩
      · omega
      rw [hz] at hord H'
      have HN := Lib.hid (show noteHead s i = false by
        rw [H', decide_eq_false (show ¬ z.id < id by omega), show (i == 0) = false by rw [beq_eq_false_iff_ne]; omega]; rfl)
      clear H' hz cM cB cT
      have hd : decide (0 < i) = true := decide_eq_true (by omega)
      have hd' : decide ((0 : Int) < i) = true := decide_eq_true i0
      have hi0 : IntKind.i64.wrap ((i : Int) - 1) = (i : Int) - 1 := IntWalk.i64_in _ (by omega)
      have hi1 : (0 : Int) ≤ (i : Int) - 1 := by omega
      have hi2 : (i : Int) - 1 < s.notes.length := by omega
      have hd8 : decide (id ≤ z.id) = true := decide_eq_true hord
      have hi3 : ((i : Int) - 1).toNat = i - 1 := by omega
      refine wp_region_gr (by kernel_rfl) (by kernel_rfl) ?_
      repeat (go_big_quiet_step (first | (go_at_call 67; exact Calls.gr_same (cI _)) | (go_at_call 68; exact Calls.gr (cM _)) | (go_at_call 100; exact Calls.gr (cB _)) | (go_at_call 101; exact Calls.gr (cT _))))
      refine wpQuiet_nil ?_
      rintro _ ⟨y, rfl⟩
      go_wp2_with fail
      go_meet
      exact ⟨by rw [HN.out]; rfl, y.g⟩
    have H2 : noteHead s i = (mayB name && decide (0 ≤ idx (fun b => b.id == book) s.books) && tagsB tags && decide (sheets.length ≤ 8)) := by
      rw [H', show (i == 0 || decide ((noteAt s (i - 1)).id < id)) = true by
        rw [Bool.or_eq_true, beq_iff_eq, decide_eq_true_eq]; omega]; simp
    clear H'
    have ho2 : ((i : Int) ≤ 0) ∨ ((0 : Int) < i ∧ ∃ z : Note, z.id < id ∧ V.cell? ⟨bb, off + (i - 1) * 5, none⟩ = some (.int .i64 z.id)) := by
      rcases ho with ⟨h0, -⟩ | ⟨h0, z, hz, k0⟩
      · exact .inl h0
      · exact .inr ⟨h0, z, by rw [← hz]; omega, k0⟩
    clear ho hord
    cases e3 : mayB name
    · have HN := Lib.hid (show noteHead s i = false by rw [H2, e3]; rfl)
      rw [e3] at cM
      clear H2 e3 cB cT
      rcases ho2 with h0 | ⟨h0, z, hzi, k0⟩
      · have hd : decide (0 < i) = false := decide_eq_false (by omega)
        have hd' : decide ((0 : Int) < i) = false := decide_eq_false (by omega)
        refine wp_region_gr (by kernel_rfl) (by kernel_rfl) ?_
        repeat (go_big_quiet_step (first | (go_at_call 67; exact Calls.gr_same (cI _)) | (go_at_call 68; exact Calls.gr (cM _)) | (go_at_call 100; exact Calls.gr (cB _)) | (go_at_call 101; exact Calls.gr (cT _))))
        refine wpQuiet_nil ?_
        rintro _ ⟨y, rfl⟩
        go_wp2_with fail
        go_meet
        exact ⟨by rw [HN.out]; rfl, y.g⟩
      · have hd : decide (0 < i) = true := decide_eq_true (by omega)
        have hd' : decide ((0 : Int) < i) = true := decide_eq_true h0
        have hi0 : IntKind.i64.wrap ((i : Int) - 1) = (i : Int) - 1 := IntWalk.i64_in _ (by omega)
        have hi1 : (0 : Int) ≤ (i : Int) - 1 := by omega
        have hi2 : (i : Int) - 1 < s.notes.length := by omega
        have hd8 : decide (id ≤ z.id) = false := decide_eq_false (by omega)
        have hi3 : ((i : Int) - 1).toNat = i - 1 := by omega
        refine wp_region_gr (by kernel_rfl) (by kernel_rfl) ?_
        repeat (go_big_quiet_step (first | (go_at_call 67; exact Calls.gr_same (cI _)) | (go_at_call 68; exact Calls.gr (cM _)) | (go_at_call 100; exact Calls.gr (cB _)) | (go_at_call 101; exact Calls.gr (cT _))))
        refine wpQuiet_nil ?_
        rintro _ ⟨y, rfl⟩
        go_wp2_with fail
        go_meet
        exact ⟨by rw [HN.out]; rfl, y.g⟩
    rw [e3] at cM H2
    clear e3
    generalize idx (fun b : Book => b.id == book) s.books = I at *
    by_cases e4 : 0 ≤ I
    · rw [decide_eq_true e4] at H2
      have hd4 : decide (I < 0) = false := decide_eq_false (by omega)
      cases e5 : tagsB tags
      · have HN := Lib.hid (show noteHead s i = false by rw [H2, e5]; rfl)
        rw [e5] at cT
        clear H2 e5
        rcases ho2 with h0 | ⟨h0, z, hzi, k0⟩
        · have hd : decide (0 < i) = false := decide_eq_false (by omega)
          have hd' : decide ((0 : Int) < i) = false := decide_eq_false (by omega)
          refine wp_region_gr (by kernel_rfl) (by kernel_rfl) ?_
          repeat (go_big_quiet_step (first | (go_at_call 67; exact Calls.gr_same (cI _)) | (go_at_call 68; exact Calls.gr (cM _)) | (go_at_call 100; exact Calls.gr (cB _)) | (go_at_call 101; exact Calls.gr (cT _))))
          refine wpQuiet_nil ?_
          rintro _ ⟨y, rfl⟩
          go_wp2_with fail
          go_meet
          exact ⟨by rw [HN.out]; rfl, y.g⟩
        · have hd : decide (0 < i) = true := decide_eq_true (by omega)
          have hd' : decide ((0 : Int) < i) = true := decide_eq_true h0
          have hi0 : IntKind.i64.wrap ((i : Int) - 1) = (i : Int) - 1 := IntWalk.i64_in _ (by omega)
          have hi1 : (0 : Int) ≤ (i : Int) - 1 := by omega
          have hi2 : (i : Int) - 1 < s.notes.length := by omega
          have hd8 : decide (id ≤ z.id) = false := decide_eq_false (by omega)
          have hi3 : ((i : Int) - 1).toNat = i - 1 := by omega
          refine wp_region_gr (by kernel_rfl) (by kernel_rfl) ?_
          repeat (go_big_quiet_step (first | (go_at_call 67; exact Calls.gr_same (cI _)) | (go_at_call 68; exact Calls.gr (cM _)) | (go_at_call 100; exact Calls.gr (cB _)) | (go_at_call 101; exact Calls.gr (cT _))))
          refine wpQuiet_nil ?_
          rintro _ ⟨y, rfl⟩
          go_wp2_with fail
          go_meet
          exact ⟨by rw [HN.out]; rfl, y.g⟩
      rw [e5] at cT H2
      clear e5
      by_cases e6 : (sheets.length : Int) ≤ 8
      · have HN := Lib.hid (show noteHead s i = true by rw [H2, decide_eq_true (show sheets.length ≤ 8 by omega)]; rfl)
        have hd6 : decide ((8 : Int) < sheets.length) = false := decide_eq_false (by omega)
        have hd7 : decide (8 < sheets.length) = false := decide_eq_false (by omega)
        clear H2
        rcases ho2 with h0 | ⟨h0, z, hzi, k0⟩
        · have hd : decide (0 < i) = false := decide_eq_false (by omega)
          have hd' : decide ((0 : Int) < i) = false := decide_eq_false (by omega)
          refine wp_region_gr (by kernel_rfl) (by kernel_rfl) ?_
          repeat (go_big_quiet_step (first | (go_at_call 67; exact Calls.gr_same (cI _)) | (go_at_call 68; exact Calls.gr (cM _)) | (go_at_call 100; exact Calls.gr (cB _)) | (go_at_call 101; exact Calls.gr (cT _))))
          refine wpQuiet_nil ?_
          rintro _ ⟨y, rfl⟩
          go_wp2_with fail
          go_meet
          exact ⟨by rw [HN.out]; rfl, y.g⟩
        · have hd : decide (0 < i) = true := decide_eq_true (by omega)
          have hd' : decide ((0 : Int) < i) = true := decide_eq_true h0
          have hi0 : IntKind.i64.wrap ((i : Int) - 1) = (i : Int) - 1 := IntWalk.i64_in _ (by omega)
          have hi1 : (0 : Int) ≤ (i : Int) - 1 := by omega
          have hi2 : (i : Int) - 1 < s.notes.length := by omega
          have hd8 : decide (id ≤ z.id) = false := decide_eq_false (by omega)
          have hi3 : ((i : Int) - 1).toNat = i - 1 := by omega
          refine wp_region_gr (by kernel_rfl) (by kernel_rfl) ?_
          repeat (go_big_quiet_step (first | (go_at_call 67; exact Calls.gr_same (cI _)) | (go_at_call 68; exact Calls.gr (cM _)) | (go_at_call 100; exact Calls.gr (cB _)) | (go_at_call 101; exact Calls.gr (cT _))))
          refine wpQuiet_nil ?_
          rintro _ ⟨y, rfl⟩
          go_wp2_with fail
          go_meet
          exact ⟨by rw [HN.out]; rfl, y.g⟩
      · have HN := Lib.hid (show noteHead s i = false by rw [H2, decide_eq_false (show ¬ sheets.length ≤ 8 by omega)]; rfl)
        have hd6 : decide ((8 : Int) < sheets.length) = true := decide_eq_true (by omega)
        have hd7 : decide (8 < sheets.length) = true := decide_eq_true (by omega)
        clear H2
        rcases ho2 with h0 | ⟨h0, z, hzi, k0⟩
        · have hd : decide (0 < i) = false := decide_eq_false (by omega)
          have hd' : decide ((0 : Int) < i) = false := decide_eq_false (by omega)
          refine wp_region_gr (by kernel_rfl) (by kernel_rfl) ?_
          repeat (go_big_quiet_step (first | (go_at_call 67; exact Calls.gr_same (cI _)) | (go_at_call 68; exact Calls.gr (cM _)) | (go_at_call 100; exact Calls.gr (cB _)) | (go_at_call 101; exact Calls.gr (cT _))))
          refine wpQuiet_nil ?_
          rintro _ ⟨y, rfl⟩
          go_wp2_with fail
          go_meet
          exact ⟨by rw [HN.out]; rfl, y.g⟩
        · have hd : decide (0 < i) = true := decide_eq_true (by omega)
          have hd' : decide ((0 : Int) < i) = true := decide_eq_true h0
          have hi0 : IntKind.i64.wrap ((i : Int) - 1) = (i : Int) - 1 := IntWalk.i64_in _ (by omega)
          have hi1 : (0 : Int) ≤ (i : Int) - 1 := by omega
          have hi2 : (i : Int) - 1 < s.notes.length := by omega
          have hd8 : decide (id ≤ z.id) = false := decide_eq_false (by omega)
          have hi3 : ((i : Int) - 1).toNat = i - 1 := by omega
          refine wp_region_gr (by kernel_rfl) (by kernel_rfl) ?_
          repeat (go_big_quiet_step (first | (go_at_call 67; exact Calls.gr_same (cI _)) | (go_at_call 68; exact Calls.gr (cM _)) | (go_at_call 100; exact Calls.gr (cB _)) | (go_at_call 101; exact Calls.gr (cT _))))
          refine wpQuiet_nil ?_
          rintro _ ⟨y, rfl⟩
          go_wp2_with fail
          go_meet
          exact ⟨by rw [HN.out]; rfl, y.g⟩
    · have HN := Lib.hid (show noteHead s i = false by rw [H2, decide_eq_false e4]; rfl)
      have hd4 : decide (I < 0) = true := decide_eq_true (by omega)
      clear H2 cT
      rcases ho2 with h0 | ⟨h0, z, hzi, k0⟩
      · have hd : decide (0 < i) = false := decide_eq_false (by omega)
        have hd' : decide ((0 : Int) < i) = false := decide_eq_false (by omega)
        refine wp_region_gr (by kernel_rfl) (by kernel_rfl) ?_
        repeat (go_big_quiet_step (first | (go_at_call 67; exact Calls.gr_same (cI _)) | (go_at_call 68; exact Calls.gr (cM _)) | (go_at_call 100; exact Calls.gr (cB _)) | (go_at_call 101; exact Calls.gr (cT _))))
        refine wpQuiet_nil ?_
        rintro _ ⟨y, rfl⟩
        go_wp2_with fail
        go_meet
        exact ⟨by rw [HN.out]; rfl, y.g⟩
      · have hd : decide (0 < i) = true := decide_eq_true (by omega)
        have hd' : decide ((0 : Int) < i) = true := decide_eq_true h0
        have hi0 : IntKind.i64.wrap ((i : Int) - 1) = (i : Int) - 1 := IntWalk.i64_in _ (by omega)
        have hi1 : (0 : Int) ≤ (i : Int) - 1 := by omega
        have hi2 : (i : Int) - 1 < s.notes.length := by omega
        have hd8 : decide (id ≤ z.id) = false := decide_eq_false (by omega)
        have hi3 : ((i : Int) - 1).toNat = i - 1 := by omega
        refine wp_region_gr (by kernel_rfl) (by kernel_rfl) ?_
        repeat (go_big_quiet_step (first | (go_at_call 67; exact Calls.gr_same (cI _)) | (go_at_call 68; exact Calls.gr (cM _)) | (go_at_call 100; exact Calls.gr (cB _)) | (go_at_call 101; exact Calls.gr (cT _))))
        refine wpQuiet_nil ?_
        rintro _ ⟨y, rfl⟩
        go_wp2_with fail
        go_meet
        exact ⟨by rw [HN.out]; rfl, y.g⟩
  case rest =>
    obtain ⟨rfl, gc⟩ := hcut
    clear cI cM cB cT
    have gwc := gV.trans gc
    have tW : Turned b W wc := Turned.of_grow gwc
    cases hh : noteHead s i
    · have HN := Lib.hid (show noteOk s i = false by unfold noteOk; rw [hh]; rfl)
      clear hh
      go_wp2_with fail
      go_ret
      exact ⟨tW, .inl ⟨by rw [HN.out]; rfl, rfl⟩⟩
    have HK := Lib.hid (show noteOk s i = noteNew s i by unfold noteOk; rw [hh]; rfl)
    clear hh
    have s4 : wc.cell? ⟨W.heap.size, 4, none⟩ = some (.slice (some ⟨bb, off, none⟩) s.notes.length c2) := (gc.cells _ _ hsz0).trans q4
    have s2 : wc.cell? ⟨W.heap.size, 2, none⟩ = some (.int .i64 s.ns) := (gc.cells _ _ hsz0).trans q2
    have u1 : wc.cell? ⟨W.heap.size + 1, 1, none⟩ = some (.int .i64 book) := (gc.cells _ _ hsz).trans r1
    have u2 : wc.cell? ⟨W.heap.size + 1, 2, none⟩ = some (.string name) := (gc.cells _ _ hsz).trans r2
    have u4 : wc.cell? ⟨W.heap.size + 1, 4, none⟩ = some (.slice as_ sheets.length cs) := (gc.cells _ _ hsz).trans r4
    have hz1 : W.heap.size + 1 < wc.heap.size := by have := gc.size; omega
    clear q0 q1 q2 q3 q4 r0 r1 r2 r3 r4
    have hc2 : s.notes.length ≤ c2 := HH.out.2.len.2
    have hic : (i : Int) ≤ c2 := by omega
    have hi0 : (0 : Int) ≤ i := by omega
    go_wp2_with fail
    go_loopw [9, 70] (fun _ v70 wx => Grow wc wx ∧ ∃ j : Nat, v70 = .int .i64 j ∧ j ≤ i ∧ ∀ k, k < j → (!((noteAt s k).book == book && (noteAt s k).name.toList == name.toList)) = true) (fun _ v70 _ => i - (intOf v70).toNat)
    case atStart => exact ⟨Grow.refl _, 0, rfl, by omega, fun k h => absurd h (by omega)⟩
    case round =>
      obtain ⟨hgr, j, rfl, hj, hall⟩ := hrel
      have HA := Lib.hid hall
      clear hall
      have gw := gwc.trans hgr
      replace s4 := (hgr.cells _ _ (by omega)).trans s4
      replace s2 := (hgr.cells _ _ (by omega)).trans s2
      replace u1 := (hgr.cells _ _ (by omega)).trans u1
      replace u2 := (hgr.cells _ _ (by omega)).trans u2
      replace u4 := (hgr.cells _ _ (by omega)).trans u4
      replace hz1 : W.heap.size + 1 < wr.heap.size := by have := hgr.size; omega
      by_cases hji : j < i
      · have hji' : (j : Int) < i := by omega
        obtain ⟨z, hz, -⟩ := lt_get (l := s.notes) (i := j) (by omega)
        obtain ⟨b', off', tv', sv', e', hb', k0, k1, k2, k3, k4, ht', hs'⟩ := HH.out.2.at hz
        obtain ⟨xa, xc, rfl⟩ := ht'.mk
        obtain ⟨ya, yc, rfl⟩ := hs'.mk
        clear ht' hs'
        injection e' with e'
        injection e' with e1 e2
        subst e1 e2
        have g0 := g.trans gw
        replace k0 := (g0.cells _ _ hb').trans k0
        replace k1 := (g0.cells _ _ hb').trans k1
        replace k2 := (g0.cells _ _ hb').trans k2
        replace k3 := (g0.cells _ _ hb').trans k3
        replace k4 := (g0.cells _ _ hb').trans k4
        have HZ := Lib.hid (show noteAt s j = z from getD_of hz)
        have hbr : bb < wr.heap.size := by have := g0.size; omega
        clear hz
        by_cases e1 : (z.book == book) = true
        · by_cases e2 : (z.name.toList == name.toList) = true
          · have HN := Lib.hid (show noteOk s i = false by
              rw [HK.out]; unfold noteNew
              exact allTo_no hji (by rw [show noteAt s i = _ from HX.out, HZ.out, e1, e2]; rfl))
            clear HK
            go_wp2_with fail
            go_ret
            exact ⟨tW.trans (Turned.of_grow (hgr.alloc _)), .inl ⟨by rw [HN.out]; rfl, rfl⟩⟩
          · replace e2 : (z.name.toList == name.toList) = false := by simpa using e2
            have HO := Lib.hid (show (!((noteAt s j).book == book && (noteAt s j).name.toList == name.toList)) = true by rw [HZ.out, e1, e2]; rfl)
            go_wp2_with fail
            go_roundw
            case rel => exact ⟨hgr.alloc _, j + 1, by go_num, by omega, fun k hk => by
              rcases (by omega : k < j ∨ k = j) with h3 | rfl
              · exact HA.out k h3
              · exact HO.out⟩
            case measure => simp [intOf]; omega
        · replace e1 : (z.book == book) = false := by simpa using e1
          have HO := Lib.hid (show (!((noteAt s j).book == book && (noteAt s j).name.toList == name.toList)) = true by rw [HZ.out, e1]; rfl)
          go_wp2_with fail
          go_roundw
          case rel => exact ⟨hgr.alloc _, j + 1, by go_num, by omega, fun k hk => by
            rcases (by omega : k < j ∨ k = j) with h3 | rfl
            · exact HA.out k h3
            · exact HO.out⟩
          case measure => simp [intOf]; omega
      · have HN := Lib.hid (show noteOk s i = true by
          rw [HK.out]; unfold noteNew
          exact allTo_yes (fun k hk => by have := HA.out k (by omega); rwa [show noteAt s i = _ from HX.out]))
        have hji' : ¬ (j : Int) < i := by omega
        have g0 := g.trans gw
        have hSr := HS.out.grow gw
        have tr : Turned b W wr := Turned.of_grow gw
        have hbW := HS.out.lt
        clear HK HA HS gc gV hgr gwc HTV tW
        clear HH HX htv hg hT h1 h2 hz hzn t1 t2 t4 hlt hlt' hc2 hic hi0 hj hji
        have HV := Lib.hid hsv
        have HT5 := Lib.hid t5
        have hszw := g.size
        have hne : W.heap.size ≠ b := by omega
        have hne1 : W.heap.size + 1 ≠ b := by omega
        clear hsv t5
        go_wp2_with fail
        go_loopw [11, 90] (fun _ v90 wx => Turned b wr wx ∧ ∃ k : Nat, v90 = .int .i64 k ∧ k ≤ sheets.length ∧ Seen wx b (n + k) ((sheets.take k).reverse ++ S) ∧ sheetsOk s.ns S sheets = sheetsOk s.ns ((sheets.take k).reverse ++ S) (sheets.drop k)) (fun _ v90 _ => sheets.length - (intOf v90).toNat)
        case atStart => exact ⟨Turned.refl _ _, 0, rfl, by omega, hSr, rfl⟩
        case round =>
          obtain ⟨hgr, k, rfl, hk, hsn, hok⟩ := hrel
          rename_i wq _ _
          have HO := Lib.hid hok
          have HSN := Lib.hid hsn
          clear hok hsn
          replace s2 := (hgr.cell (by omega) hne).trans s2
          replace u4 := (hgr.cell hz1 hne1).trans u4
          have hz2 : W.heap.size + 1 < wr.heap.size := by have := hgr.size; omega
          by_cases hkl : k < sheets.length
          · have hkl' : (k : Int) < sheets.length := by omega
            obtain ⟨x, hx, hxk⟩ := lt_get hkl
            obtain ⟨b', off', e', hb', kc⟩ := HV.out.at hx
            have kw := (hgr.cell (o := off' + k) (Nat.lt_of_lt_of_le hb' g0.size) (by omega)).trans ((g0.cells _ _ hb').trans kc)
            have hwx : Wf x := HT5.out x (List.mem_of_getElem? hx)
            have LK := HSN.out.look hwx
            have cI := fun W => in_any x 1 (s.ns - 1) W
            have HD := Lib.hid (show sheets.drop k = x :: sheets.drop (k + 1) by rw [List.drop_eq_getElem_cons hkl, hxk])
            have HTK := Lib.hid (show (sheets.take (k + 1)).reverse ++ S = x :: ((sheets.take k).reverse ++ S) by rw [List.take_succ_eq_append_getElem hkl, hxk]; simp)
            have HW := Lib.hid hwx
            clear kc hx hxk hwx
            subst e'
            generalize hS' : (sheets.take k).reverse ++ S = S' at *
            cases e1 : decide (x ∈ S')
            · rw [e1] at LK
              cases e2 : (decide (1 ≤ x) && decide (x ≤ s.ns - 1))
              · rw [e2] at cI
                have HN := Lib.hid (show sheetsOk s.ns S sheets = false by rw [HO.out, HD.out]; unfold sheetsOk; rw [e2]; simp)
                clear e1 e2
                go_wp2_with fail
                refine (cI _).mono ?_
                rintro e w1 ⟨rfl, rfl⟩
                go_wp2_with fail
                go_ret
                exact ⟨tr.trans hgr, .inl ⟨by rw [HN.out, Bool.and_false], rfl⟩⟩
              · have hk9 : k ≤ 1000000 := by omega
                rw [e2] at cI
                have HN := Lib.hid (show sheetsOk s.ns S sheets = sheetsOk s.ns (x :: S') (sheets.drop (k + 1)) by rw [HO.out, HD.out]; rw [sheetsOk, e2, e1]; rfl)
                clear e1 e2
                go_wp2_with fail
                refine (cI _).mono ?_
                rintro e w1 ⟨rfl, rfl⟩
                obtain ⟨wu, hup, HS2, htn⟩ := Seen.put HSN.out HW.out (by omega)
                have HS2' := Lib.hid HS2
                clear HS2
                go_wp2_with fail
                go_roundw
                case rel => exact ⟨hgr.trans htn, k + 1, by go_num, by omega, by rw [HTK.out]; exact HS2'.out, by rw [HTK.out]; exact HN.out⟩
                case measure => simp [intOf]; omega
            · rw [e1] at LK
              have HN := Lib.hid (show sheetsOk s.ns S sheets = false by rw [HO.out, HD.out]; unfold sheetsOk; rw [e1]; rfl)
              clear e1
              go_wp2_with fail
              go_ret
              exact ⟨tr.trans hgr, .inl ⟨by rw [HN.out, Bool.and_false], rfl⟩⟩
          · have hkl' : ¬ (k : Int) < sheets.length := by omega
            go_wp2_with fail
            go_ret
            exact ⟨tr.trans hgr, .inr ⟨by rw [HO.out, HN.out, List.drop_of_length_le (by omega)]; rfl, rfl, by
              have := HSN.out
              rw [List.take_of_length_le (by omega), show k = sheets.length by omega] at this; exact this⟩⟩
end Go.Proofs.YtgpjcgcecahddaaGreatDoor
