/- Items sorted by their names: plain words. shelf.Books, shelf.Notes. SameItems, Empty; the awake of chapter 17. The awake of chapter 17. The state of the laws' both: two shelves in boxes; what a change answers, opened. The walk of jotterlaw17.both. What each change of a shelf leaves, in plain words (ShelfScript). Acts on a shelf, as arguments. The walk of the law ShelfScript. -/
import Derived.Test.YtnajccljdjllgaaDoorItem
import Derived.Test.YtnajccljdjllgaaDoorChg
import Derived.Test.YtnajccljdjllgaaDoorRowS
import Derived.Test.YtnajccljdjllgaaDoorOut
import Derived.Test.YtnajccljdjllgaaDoorJc17
import Derived.Laws.StructEq
import Derived.StillTailTactics
import Derived.Test.YtnajccljdjllgaaDoorSameb
import Derived.Test.YtnajccljdjllgaaDoorJs17
import Derived.Deep.RegionLaw
import Derived.Deep.RegionHeld3
import Derived.Test.YtnajccljdjllgaaDoorOpen
import Derived.Test.YtnajccljdjllgaaDoorGr
set_option linter.unusedVariables false
set_option linter.unusedSimpArgs false
namespace Go.Proofs.YtnajccljdjllgaaDoor
open Go.RowKit Go.Lib
def insI (x : Item) : List Item → List Item
  | [] => [x]
  | y :: l => if ltS y.name x.name then y :: insI x l else x :: y :: l
def sortI (l : List Item) : List Item := l.foldl (fun acc x => insI x acc) []
def itemsB (s : Shelf) : List Item := s.books.map fun b => ⟨b.id, b.name⟩
def itemsN (s : Shelf) (id : Int) : List Item := (s.notes.filter fun n => n.book == id).map fun n => ⟨n.id, n.name⟩
def booksI (s : Shelf) : List Item := if mayS s = true then sortI (itemsB s) else []
def notesI (s : Shelf) (id : Int) : List Item := if dropE s id = 0 then sortI (itemsN s id) else []
theorem insI_perm (x : Item) : ∀ l : List Item, (insI x l).Perm (x :: l)
  | [] => .refl _
  | y :: l => by
    unfold insI
    split
    · exact (List.Perm.cons y (insI_perm x l)).trans (List.Perm.swap x y l)
    · exact .refl _
theorem insI_inc {x : Item} : ∀ {l : List Item}, l.Pairwise (fun a b => ltS a.name b.name = true) → (∀ y ∈ l, y.name ≠ x.name) → (insI x l).Pairwise (fun a b => ltS a.name b.name = true)
  | [], _, _ => by simp [insI]
  | y :: l, h, hn => by
    obtain ⟨h1, h2⟩ := List.pairwise_cons.1 h
    unfold insI
    split
    · rename_i hlt
      refine List.pairwise_cons.2 ⟨fun z hz => ?_, insI_inc h2 fun z hz => hn z (List.mem_cons_of_mem _ hz)⟩
      rcases List.mem_cons.1 ((insI_perm x l).mem_iff.1 hz) with rfl | hz
      · exact hlt
      · exact h1 z hz
    · rename_i hlt
      have hxy : ltS x.name y.name = true := by
        cases e : ltS x.name y.name with
        | true => rfl
        | false => exact absurd (ltS_total (by simpa using hlt) e) (hn y (by simp))
      refine List.pairwise_cons.2 ⟨fun z hz => ?_, h⟩
      rcases List.mem_cons.1 hz with rfl | hz
      · exact hxy
      · exact ltS_trans hxy (h1 z hz)
theorem fold_perm : ∀ (l acc : List Item), (l.foldl (fun acc x => insI x acc) acc).Perm (l ++ acc)
  | [], acc => .refl _
  | x :: l, acc => by
    rw [List.foldl_cons]
    refine (fold_perm l _).trans ?_
    refine ((insI_perm x acc).append_left l).trans ?_
    exact List.perm_middle
theorem fold_inc : ∀ (l acc : List Item), acc.Pairwise (fun a b => ltS a.name b.name = true) → (∀ x ∈ l, ∀ y ∈ acc, y.name ≠ x.name) → (l.Pairwise fun a b => a.name ≠ b.name) → (l.foldl (fun acc x => insI x acc) acc).Pairwise (fun a b => ltS a.name b.name = true)
  | [], acc, h, _, _ => h
  | x :: l, acc, h, hn, hd => by
    obtain ⟨d1, d2⟩ := List.pairwise_cons.1 hd
    rw [List.foldl_cons]
    refine fold_inc l _ (insI_inc h fun y hy => hn x (by simp) y hy) (fun z hz y hy => ?_) d2
    rcases List.mem_cons.1 ((insI_perm x acc).mem_iff.1 hy) with rfl | hy
    · exact d1 z hz
    · exact hn z (List.mem_cons_of_mem _ hz) y hy
theorem sortI_perm (l : List Item) : (sortI l).Perm l := by
  have := fold_perm l []
  rw [List.append_nil] at this; exact this
theorem sortI_inc {l : List Item} (h : l.Pairwise fun a b => a.name ≠ b.name) : (sortI l).Pairwise (fun a b => ltS a.name b.name = true) := fold_inc l [] .nil (fun _ _ _ hy => by cases hy) h
/-- Strictly rising lists of the same elements are one. -/
theorem strict_eq {α : Type} {R : α → α → Prop} (ha : ∀ x y, R x y → R y x → False) : ∀ {l m : List α}, l.Perm m → l.Pairwise R → m.Pairwise R → l = m
  | [], m, hp, _, _ => (List.nil_perm.1 hp).symm
  | x :: l, [], hp, _, _ => by have := hp.length_eq; simp at this
  | x :: l, y :: m, hp, h1, h2 => by
    obtain ⟨a1, a2⟩ := List.pairwise_cons.1 h1
    obtain ⟨b1, b2⟩ := List.pairwise_cons.1 h2
    have e : x = y := by
      apply Classical.byContradiction
      intro hne
      have hx : x ∈ m := by
        rcases List.mem_cons.1 (hp.mem_iff.1 (List.mem_cons_self ..)) with h | h
        · exact absurd h hne
        · exact h
      have hy : y ∈ l := by
        rcases List.mem_cons.1 (hp.mem_iff.2 (List.mem_cons_self ..)) with h | h
        · exact absurd h.symm hne
        · exact h
      exact ha x y (a1 y hy) (b1 x hx)
    subst e
    rw [strict_eq ha hp.cons_inv a2 b2]
theorem names_ne {l m : List Item} (hp : l.Perm m) (h : m.Pairwise fun a b => a.name ≠ b.name) : l.Pairwise fun a b => a.name ≠ b.name :=
  (hp.pairwise_iff (fun h e => h e.symm)).2 h
theorem strict_of {l : List Item} (h : l.Pairwise fun a b => ltS b.name a.name = false) (hn : l.Pairwise fun a b => a.name ≠ b.name) : l.Pairwise fun a b => ltS a.name b.name = true :=
  (h.and hn).imp fun {a b} ⟨h1, h2⟩ => by
    cases e : ltS a.name b.name with
    | true => rfl
    | false => exact absurd (ltS_total e h1) h2
/-- What is sorted is the one sorted list. -/
theorem sortI_of {l l' : List Item} (hp : l'.Perm l) (hs : l'.Pairwise fun a b => ltS b.name a.name = false) (hn : l.Pairwise fun a b => a.name ≠ b.name) : l' = sortI l :=
  strict_eq (R := fun a b : Item => ltS a.name b.name = true) (fun x y h1 h2 => by rw [ltS_asymm h1] at h2; cases h2) (hp.trans (sortI_perm l).symm) (strict_of hs (names_ne hp hn)) (sortI_inc hn)
theorem itemsB_new {s : Shelf} (p : MayP s) : (itemsB s).Pairwise fun a b => a.name ≠ b.name := by
  unfold itemsB
  rw [List.pairwise_map]
  exact p.bnew
theorem itemsN_new {s : Shelf} (p : MayP s) (id : Int) : (itemsN s id).Pairwise fun a b => a.name ≠ b.name := by
  unfold itemsN
  rw [List.pairwise_map]
  have := (p.nnew.sublist (List.filter_sublist (p := fun n : Note => n.book == id)))
  refine this.imp_of_mem fun {a b} ha hb h e => h ⟨?_, e⟩
  have h1 := (List.mem_filter.1 ha).2
  have h2 := (List.mem_filter.1 hb).2
  simp only [beq_iff_eq] at h1 h2
  omega
end Go.Proofs.YtnajccljdjllgaaDoor
set_option linter.unusedVariables false
set_option linter.unusedSimpArgs false
namespace Go.Proofs.YtnajccljdjllgaaDoor
open Go.RowKit Go.Lib
theorem info_item : (Tryd.prog.info? 63).map (fun i => (i.zero, i.size, i.bytes)) = some (some (.agg #[.int .i64 0, .string ⟨#[]⟩]), 2, 24) := by kernel_rfl
/-- A list of items of the call's own. -/
def RetI (l : List Item) (w : World) (v : Value) (w' : World) : Prop := Grow w w' ∧ RowO w.heap.size 63 2 v l.length (l.flatMap itemC) w'
theorem itemC_one (x : Item) : ∀ u ∈ itemC x, u.oneCell' = true := fun u hu => by simp at hu; rcases hu with rfl | rfl <;> rfl
theorem row_add {base : Nat} {v v' : Value} {l : List Item} {x : Item} {w w' : World} (ra : AppR base 63 2 w v l.length (l.flatMap itemC) (itemC x) v' w') : RowO base 63 2 v' (l ++ [x]).length ((l ++ [x]).flatMap itemC) w' := by
  have := ra.1
  rw [List.length_append, List.flatMap_append]
  simpa using this
theorem ret_v {a b : Value} (h : a = b) : Ending.returned a = .returned b := by rw [h]
set_option maxRecDepth 100000 in
set_option maxHeartbeats 4000000 in
theorem books_any (s : Shelf) (bv nv : Value) (w : World) (h : ShelfR w s bv nv) (hz : TameS s) (hT : Tabs w) :
    Calls Tryd.prog 23 #[shelfV s bv nv] w fun e w' => ∃ v, e = .returned v ∧ RetI (booksI s) w v w' := by
  obtain ⟨i0, hi0, hz0, hz1, hz2⟩ := info_parts info_item
  have g0 : Grow w (w.alloc (.cells #[.int .i64 s.nb, .int .i64 s.nn, .int .i64 s.ns, bv, nv] 28)) := (Grow.refl w).alloc _
  have cM := mayS_any s bv nv _ (h.grow g0) hz (hT.below g0)
  have hbl := hz.1.1
  obtain ⟨a1, c1, rfl⟩ := h.1.mk
  obtain ⟨a2, c2, rfl⟩ := h.2.mk
  have HH := Lib.hid h
  have HG0 := Lib.hid g0
  clear h hz hT g0
  unfold shelfV at *
  cases hm : mayS s with
  | false =>
    have HM := Lib.hid hm
    rw [hm] at cM
    clear hm
    go_enter Tryd.func23, Tryd.ntmps23
    go_wp2_with fail
    refine cM.mono ?_
    rintro e w1 ⟨rfl, g1⟩
    go_wp2_with fail
    go_ret
    refine ⟨_, rfl, HG0.out.trans g1, ?_⟩
    rw [booksI, if_neg (by rw [HM.out]; simp)]
    exact RowO.nil
  | true =>
    have HM := Lib.hid hm
    rw [hm] at cM
    clear hm
    have HBX := Lib.hid (heap_alloc_new w (.cells #[.int .i64 s.nb, .int .i64 s.nn, .int .i64 s.ns, .slice a1 s.books.length c1, .slice a2 s.notes.length c2] 28))
    go_enter Tryd.func23, Tryd.ntmps23
    go_wp2_with fail
    refine cM.mono ?_
    rintro e w1 ⟨rfl, g1⟩
    obtain ⟨⟨p0, p1, p2, p3, p4⟩, hpz⟩ := n5 (g1.blk HBX.out)
    have gw1 := HG0.out.trans g1
    have HG1 := Lib.hid gw1
    clear cM
    go_wp2_with fail
    go_loopw [3, 12] (fun v3 v12 wx => ∃ (i : Nat) (L : List Item) (o : Option Addr) (k : Nat), v3 = .slice o i k ∧ v12 = .int .i64 i ∧ i ≤ s.books.length ∧ L = (itemsB s).take i ∧ L.length = i ∧ RowO w.heap.size 63 2 (.slice o i k) L.length (L.flatMap itemC) wx ∧ Grow w wx) (fun _ v12 _ => s.books.length - (Go.RowKit.intOf v12).toNat)
    case atStart => exact ⟨0, [], none, 0, rfl, rfl, by omega, by simp, rfl, RowO.nil, gw1⟩
    case round =>
      obtain ⟨i, L, o, k, rfl, rfl, hi, hL, hLl, hr, hg⟩ := hrel
      have HL := Lib.hid hL
      have HLL := Lib.hid hLl
      have HR := Lib.hid hr
      have HG := Lib.hid hg
      clear hL hLl
      by_cases hlt : i < s.books.length
      · have hlt' : (i : Int) < s.books.length := by omega
        obtain ⟨x, hx, -⟩ := lt_get hlt
        obtain ⟨b, off, rfl, hb, q0, q1⟩ := (Books.grow HH.out.1 hg).at hx
        have HX := Lib.hid hx
        have hgs := hg.size
        clear hx hr hg
        go_wp2_with (at_builtin; refine app_R (base := w.heap.size) (by rfl) _ _ 61 (by rfl) 63 i0 _ 2 24 Tryd.underlying61 hi0 hz0 hz1 hz2 (by rfl) (by decide) (.slice o i k) i (L.flatMap itemC) (by rfl) _ ?_ ?_ (itemC ⟨x.id, x.name⟩) rfl (itemC_one _) ?_ ?_ (by decide) ?_; (have h9 := HR.out; rw [HLL.out] at h9; exact h9.grow ((Grow.refl wr).alloc _)); (simp; omega); (simp; rfl); omega; intro v' w4 ra; obtain ⟨va, vc, e3, -⟩ := ra.1.slice; subst e3; have HRA := Lib.hid ra; clear ra)
        have hadd : RowO w.heap.size 63 2 (.slice va (i + 1) vc) (L ++ [(⟨x.id, x.name⟩ : Item)]).length ((L ++ [(⟨x.id, x.name⟩ : Item)]).flatMap itemC) w4 := row_add (l := L) (by rw [HLL.out]; exact HRA.out)
        have hgr : Grow w w4 := by
          have hrr := HR.out
          rw [HLL.out] at hrr
          exact grown_grow (HG.out.alloc _) (hrr.grow ((Grow.refl wr).alloc _)) HRA.out.2.1
        have HADD := Lib.hid hadd
        have HGR := Lib.hid hgr
        clear hadd hgr HRA
        go_wp2_with fail
        go_roundw
        case rel => exact ⟨i + 1, L ++ [⟨x.id, x.name⟩], va, vc, by go_num, by go_num, by omega, by rw [HL.out, List.take_add_one]; congr 1; unfold itemsB; rw [List.getElem?_map, HX.out]; rfl, by rw [List.length_append, HLL.out]; rfl, HADD.out, HGR.out⟩
        case measure => simp [Go.RowKit.intOf]; omega
      · have hlt' : ¬ (i : Int) < s.books.length := by omega
        have hLa : L = itemsB s := by rw [HL.out]; exact List.take_of_length_le (by unfold itemsB; rw [List.length_map]; omega)
        have cS := sortItems_any w.heap.size (.slice o i k) L wr hr (by rw [HLL.out]; omega)
        have HLA := Lib.hid hLa
        clear hr hg hLa
        go_wp2_with fail
        refine cS.mono ?_
        rintro e w5 ⟨rfl, l', hp, hs, hr', hg'⟩
        have HF := Lib.hid (show l' = booksI s by rw [booksI, if_pos HM.out]; exact sortI_of (by rw [← HLA.out]; exact hp) hs (itemsB_new (mayS_iff.1 HM.out)))
        have HR5 := Lib.hid hr'
        have HG5 := Lib.hid (grown_grow HG.out HR.out hg')
        clear cS hp hs hr' hg'
        go_wp2_with fail
        go_ret
        refine ⟨_, rfl, HG5.out, ?_⟩
        rw [← HF.out]; exact HR5.out
end Go.Proofs.YtnajccljdjllgaaDoor
set_option linter.unusedVariables false
set_option linter.unusedSimpArgs false
namespace Go.Proofs.YtnajccljdjllgaaDoor
open Go.RowKit Go.Lib
theorem Items.grow {w W : World} {v : Value} {l : List Item} (h : Items w v l) (g : Grow w W) : Items W v l := Reads.grow (w := w) (W := W) (fun _ _ h => h) h g
theorem Items.at {w : World} {a : Option Addr} {n c : Nat} {l : List Item} (h : Items w (.slice a n c) l) {i : Nat} {x : Item} (hx : l[i]? = some x) :
    ∃ b off, a = some ⟨b, off, none⟩ ∧ b < w.heap.size ∧ w.cell? ⟨b, off + i * 2, none⟩ = some (.int .i64 x.id) ∧ w.cell? ⟨b, off + i * 2 + 1, none⟩ = some (.string x.name) := by
  obtain ⟨b, off, e, hb, cs, h1, h2, h3⟩ := Reads.at h hx
  exact ⟨b, off, e, hb, h3 0 _ (by rw [h2]; rfl), h3 1 _ (by rw [h2]; rfl)⟩
theorem row_items {base : Nat} {v : Value} {l : List Item} {w : World} (h : RowO base 63 2 v l.length (l.flatMap itemC) w) : Items w v l := h.reads fun i x hx => flat_part itemC (fun _ => rfl) hx
theorem eqItem (x y : Item) (w : World) : (Op.equalIn 10000 63 (.agg #[.int .i64 x.id, .string x.name]) (.agg #[.int .i64 y.id, .string y.name])).run Tryd.prog w = .ok (x.id == y.id && x.name.toList == y.name.toList) w := by
  refine eq_struct (d := 9999) Tryd.underlying63 (by kernel_rfl) ?_
  refine eqf_more (by rfl) (by go_simp; rfl) (by go_simp; rfl) (by go_simp) ?_
  exact eqf_one (by rfl) (by go_simp; rfl) (by go_simp; rfl) (by go_simp)
theorem neqItem (x y : Item) (r : Bool) (h : (x.id == y.id && x.name.toList == y.name.toList) = r) (w : World) : (binOp .neq 63 (.agg #[.int .i64 x.id, .string x.name]) (.agg #[.int .i64 y.id, .string y.name])).run Tryd.prog w = .ok (.bool (!r)) w := by
  rw [run_neq_struct, eqItem, h]; rfl
theorem eqlItem (x y : Item) (r : Bool) (h : (x.id == y.id && x.name.toList == y.name.toList) = r) (w : World) : (binOp .eql 63 (.agg #[.int .i64 x.id, .string x.name]) (.agg #[.int .i64 y.id, .string y.name])).run Tryd.prog w = .ok (.bool r) w := by
  rw [run_eql_struct, eqItem, h]; rfl
set_option maxRecDepth 100000 in
theorem sameItems_any (va vb : Value) (l m : List Item) (w : World) (hl : Items w va l) (hm : Items w vb m) (hz : l.length ≤ 1000000000) :
    Calls Tryd.prog 22 #[va, vb] w fun e w' => e = .returned (.bool (same l m)) ∧ Grow w w' := by
  obtain ⟨a, c, rfl⟩ := hl.mk
  obtain ⟨a', c', rfl⟩ := hm.mk
  by_cases hlm : l.length = m.length
  · have hn : ((l.length : Int) != (m.length : Int)) = false := by rw [hlm]; simp
    have HLM := Lib.hid hlm
    clear hlm
    go_enter Tryd.func22, Tryd.ntmps22
    go_wp2
    go_loopw [5] (fun v5 wx => Grow w wx ∧ ∃ i : Nat, v5 = .int .i64 i ∧ i ≤ l.length ∧ ∀ j x y, j < i → l[j]? = some x → m[j]? = some y → x = y) (fun v5 _ => l.length - (intOf v5).toNat)
    case atStart => exact ⟨Grow.refl _, 0, rfl, by omega, fun j _ _ h => absurd h (by omega)⟩
    case round =>
      obtain ⟨hg, i, rfl, hi, hall⟩ := hrel
      have HA := Lib.hid hall
      clear hall hn
      by_cases hlt : i < l.length
      · have hlt' : (i : Int) < l.length := by omega
        have hlm' : (i : Int) < m.length := by have := HLM.out; omega
        obtain ⟨x, hx, -⟩ := lt_get hlt
        obtain ⟨y, hy, -⟩ := lt_get (l := m) (i := i) (by omega)
        obtain ⟨b, off, rfl, -, hc, hd⟩ := (hl.grow hg).at hx
        obtain ⟨b', off', rfl, -, hc', hd'⟩ := (hm.grow hg).at hy
        have HX := Lib.hid hx
        have HY := Lib.hid hy
        clear hx hy hl hm
        by_cases hxy : x = y
        · have hq := neqItem x y true (by rw [hxy]; simp)
          have HXY := Lib.hid hxy
          clear hxy
          go_wp2
          go_quiet (fail)
          go_wp2
          go_roundw
          case rel => exact ⟨hg.drewN _, i + 1, by go_num, by omega, fun j x' y' hj h1 h2 => by
            rcases (by omega : j < i ∨ j = i) with h3 | rfl
            · exact HA.out j x' y' h3 h1 h2
            · rw [HX.out] at h1; rw [HY.out] at h2; injection h1 with h1; injection h2 with h2; rw [← h1, ← h2]; exact HXY.out⟩
          case measure => simp [intOf]; omega
        · have hq : (x.id == y.id && x.name.toList == y.name.toList) = false := by
            rw [Bool.eq_false_iff]; intro e; rw [Bool.and_eq_true, beq_iff_eq, beq_iff_eq] at e
            exact hxy (by cases x; cases y; simp only [Item.mk.injEq]; exact ⟨e.1, eq_of_tl e.2⟩)
          replace hq := neqItem x y false hq
          have HR := Lib.hid (same_no (a := l) (b := m) (fun e => hxy (by have h1 := HX.out; rw [e, HY.out] at h1; injection h1 with h1; exact h1.symm)))
          clear hxy
          go_wp2
          go_quiet (fail)
          go_wp2
          go_ret
          exact ⟨ret_bool HR.out.symm, hg.drewN _⟩
      · have HR := Lib.hid (same_yes (list_same HLM.out (fun j x y h1 h2 => HA.out j x y (by have := (List.getElem?_eq_some_iff.1 h1).1; omega) h1 h2)))
        have hlt' : ¬ (i : Int) < l.length := by omega
        clear hl hm
        go_wp2
        go_ret
        exact ⟨ret_bool HR.out.symm, hg⟩
  · have hn : ((l.length : Int) != (m.length : Int)) = true := by rw [bne_iff_ne]; omega
    have HR := Lib.hid (same_no (a := l) (b := m) (fun e => hlm (by rw [e])))
    clear hlm hl hm
    go_enter Tryd.func22, Tryd.ntmps22
    go_wp2
    go_ret
    exact ⟨ret_bool HR.out.symm, Grow.refl _⟩
def eS : Shelf := ⟨1, 1, 1, [], []⟩
def tb : ByteArray := ⟨#[98]⟩
def ta : ByteArray := ⟨#[97]⟩
def s1 : Shelf := ⟨2, 1, 1, [⟨1, tb⟩], []⟩
def s2 : Shelf := ⟨3, 1, 1, [⟨1, tb⟩, ⟨2, ta⟩], []⟩
theorem may_eS : mayS eS = true := by decide +kernel
theorem may_s1 : mayS s1 = true := by decide +kernel
theorem may_s2 : mayS s2 = true := by decide +kernel
theorem make_1 : makeR eS tb = ⟨s1, 1, 0⟩ := by
  have : makeE eS tb = 0 := by decide +kernel
  rw [makeR, resOf_ok this]; rfl
theorem make_2 : makeR s1 ta = ⟨s2, 2, 0⟩ := by
  have : makeE s1 ta = 0 := by decide +kernel
  rw [makeR, resOf_ok this]; rfl
theorem make_3 : makeR s2 ta = ⟨zS, 0, 7⟩ := by
  have : makeE s2 ta = 7 := by decide +kernel
  rw [makeR, resOf_no (by rw [this]; decide), this]; rfl
theorem books_2 : booksI s2 = [⟨2, ta⟩, ⟨1, tb⟩] := by
  have h1 : ltS tb ta = false := by decide +kernel
  rw [booksI, if_pos may_s2]
  show insI ⟨2, ta⟩ [⟨1, tb⟩] = _
  simp only [insI, h1]; rfl
set_option maxRecDepth 100000 in
theorem empty_any (w : World) : Calls Tryd.prog 8 #[] w fun e w' => e = .returned (.agg #[.int .i64 1, .int .i64 1, .int .i64 1, .slice none 0 0, .slice none 0 0]) ∧ Grow w w' := by
  go_enter Tryd.func8, Tryd.ntmps8
  go_wp2_with fail
  refine bodyPost_ret (v := .agg #[.int .i64 1, .int .i64 1, .int .i64 1, .slice none 0 0, .slice none 0 0]) ?_ rfl ?_
  · rw [results_cell rfl]
    go_simp
  · refine ⟨rfl, ?_⟩
    repeat' (first | with_reducible exact (Grow.refl w).alloc _ | with_reducible refine Grow.set ?_ (by first | (simp; done) | (simp; omega)) _)
end Go.Proofs.YtnajccljdjllgaaDoor
set_option linter.unusedVariables false
set_option linter.unusedSimpArgs false
namespace Go.Proofs.YtnajccljdjllgaaDoor
open Go.RowKit Go.Lib
theorem tame_of (s : Shelf) (h : mayS s = true) : TameS s := (mayS_iff.1 h).tame
abbrev lit17 : List Item := [⟨2, ta⟩, ⟨1, tb⟩]
set_option maxRecDepth 100000 in
set_option maxHeartbeats 4000000 in
theorem awake17_any (w : World) (hT : Tabs w) : Calls Tryd.prog 7 #[] w fun e w' => e = .returned (.bool true) ∧ Grow w w' := by
  have GW := Lib.hid (Grow.refl w)
  have HTB := Lib.hid hT
  clear hT
  go_enter Tryd.func7, Tryd.ntmps7
  have c := empty_any w
  try unfold shelfV at c
  go_wp2_with fail
  refine c.mono ?_
  clear c
  rintro e U1 ⟨rfl, g⟩
  replace GW := Lib.hid (GW.out.trans g)
  clear g
  obtain ⟨a, hRES, hea⟩ : ∃ a, makeR eS tb = ⟨a, 1, 0⟩ ∧ a = s1 := ⟨s1, make_1, rfl⟩
  have HEA := Lib.hid hea
  clear hea
  have HRES_a := Lib.hid hRES
  have c0 := (make_any eS (.slice none 0 0) (.slice none 0 0) tb U1 ⟨Reads.nil, Reads.nil⟩ (tame_of eS may_eS) (by decide) (HTB.out.below GW.out)).mono fun _ _ => RetM.out hRES
  clear hRES
  have c := c0
  try unfold shelfV at c
  go_wp2_with fail
  refine c.mono ?_
  clear c c0
  rintro e U2 ⟨xa_a, xc_a, ya_a, yc_a, g, rfl, hr⟩
  go_upto_region 2 with (fail)
  generalize hV : U2.alloc (.cells #[.int .i64 a.nb, .int .i64 a.nn, .int .i64 a.ns, .slice xa_a a.books.length xc_a, .slice ya_a a.notes.length yc_a] 28) = U3
  have gV : Grow U2 U3 := by rw [← hV]; exact (Grow.refl U2).alloc _
  have HB_a : Hid (U3.heap[U2.heap.size]? = some (.cells #[.int .i64 a.nb, .int .i64 a.nn, .int .i64 a.ns, .slice xa_a a.books.length xc_a, .slice ya_a a.notes.length yc_a] 28 (0, 0))) := by rw [← hV]; exact Lib.hid (heap_alloc_new U2 _)
  clear hV
  replace GW := Lib.hid (GW.out.trans (g.trans gV))
  have HR_a := Lib.hid (ShelfR.grow hr gV)
  clear hr g gV
  obtain ⟨b, hRES, heb⟩ : ∃ b, makeR a ta = ⟨b, 2, 0⟩ ∧ b = s2 := ⟨s2, by rw [HEA.out]; exact make_2, rfl⟩
  have HEB := Lib.hid heb
  clear heb
  have HRES_b := Lib.hid hRES
  have c0 := (make_any a _ _ ta _ HR_a.out (by rw [HEA.out]; exact tame_of s1 may_s1) (by decide) (HTB.out.below GW.out)).mono fun _ _ => RetM.out hRES
  clear hRES
  have c := c0
  try unfold shelfV at c
  obtain ⟨⟨p0, p1, p2, p3, p4⟩, pz⟩ := n5 HB_a.out
  go_wp2_with fail
  refine c.mono ?_
  clear c c0
  clear p0 p1 p2 p3 p4 pz
  rintro e U4 ⟨xa_b, xc_b, ya_b, yc_b, g, rfl, hr⟩
  go_upto_region 3 with (fail)
  generalize hV : U4.alloc (.cells #[.int .i64 b.nb, .int .i64 b.nn, .int .i64 b.ns, .slice xa_b b.books.length xc_b, .slice ya_b b.notes.length yc_b] 28) = U5
  have gV : Grow U4 U5 := by rw [← hV]; exact (Grow.refl U4).alloc _
  have HB_b : Hid (U5.heap[U4.heap.size]? = some (.cells #[.int .i64 b.nb, .int .i64 b.nn, .int .i64 b.ns, .slice xa_b b.books.length xc_b, .slice ya_b b.notes.length yc_b] 28 (0, 0))) := by rw [← hV]; exact Lib.hid (heap_alloc_new U4 _)
  clear hV
  replace GW := Lib.hid (GW.out.trans (g.trans gV))
  replace HR_a := Lib.hid (HR_a.out.grow (g.trans gV))
  replace HB_a := Lib.hid (Grow.blk (g.trans gV) HB_a.out)
  have HR_b := Lib.hid (ShelfR.grow hr gV)
  clear hr g gV
  obtain ⟨z, hRES⟩ : ∃ z, makeR b ta = ⟨z, 0, 7⟩ := ⟨zS, by rw [HEB.out]; exact make_3⟩
  have HRES_z := Lib.hid hRES
  have c0 := (make_any b _ _ ta _ HR_b.out (by rw [HEB.out]; exact tame_of s2 may_s2) (by decide) (HTB.out.below GW.out)).mono fun _ _ => RetM.out hRES
  clear hRES
  have c := c0
  try unfold shelfV at c
  obtain ⟨⟨p0, p1, p2, p3, p4⟩, pz⟩ := n5 HB_b.out
  go_wp2_with fail
  refine c.mono ?_
  clear c c0
  clear p0 p1 p2 p3 p4 pz
  rintro e U6 ⟨xa_z, xc_z, ya_z, yc_z, g, rfl, hr⟩
  go_upto_region 4 with (fail)
  generalize hV : U6.alloc (.cells #[.int .i64 z.nb, .int .i64 z.nn, .int .i64 z.ns, .slice xa_z z.books.length xc_z, .slice ya_z z.notes.length yc_z] 28) = U7
  have gV : Grow U6 U7 := by rw [← hV]; exact (Grow.refl U6).alloc _
  have HB_z : Hid (U7.heap[U6.heap.size]? = some (.cells #[.int .i64 z.nb, .int .i64 z.nn, .int .i64 z.ns, .slice xa_z z.books.length xc_z, .slice ya_z z.notes.length yc_z] 28 (0, 0))) := by rw [← hV]; exact Lib.hid (heap_alloc_new U6 _)
  clear hV
  replace GW := Lib.hid (GW.out.trans (g.trans gV))
  replace HR_a := Lib.hid (HR_a.out.grow (g.trans gV))
  replace HB_a := Lib.hid (Grow.blk (g.trans gV) HB_a.out)
  replace HR_b := Lib.hid (HR_b.out.grow (g.trans gV))
  replace HB_b := Lib.hid (Grow.blk (g.trans gV) HB_b.out)
  have HR_z := Lib.hid (ShelfR.grow hr gV)
  clear hr g gV
  have c := books_any b _ _ _ HR_b.out (by rw [HEB.out]; exact tame_of s2 may_s2) (HTB.out.below GW.out)
  try unfold shelfV at c
  obtain ⟨⟨p0, p1, p2, p3, p4⟩, pz⟩ := n5 HB_b.out
  go_wp2_with fail
  refine c.mono ?_
  clear c
  clear p0 p1 p2 p3 p4 pz
  rintro e U8 ⟨v, rfl, g, hr⟩
  replace GW := Lib.hid (GW.out.trans g)
  replace HR_a := Lib.hid (HR_a.out.grow g)
  replace HB_a := Lib.hid (Grow.blk g HB_a.out)
  replace HR_b := Lib.hid (HR_b.out.grow g)
  replace HB_b := Lib.hid (Grow.blk g HB_b.out)
  replace HR_z := Lib.hid (HR_z.out.grow g)
  replace HB_z := Lib.hid (Grow.blk g HB_z.out)
  rw [HEB.out, books_2] at hr
  obtain ⟨xa, xc, ev, -⟩ := hr.slice
  subst ev
  have hri := row_items hr
  have c := sameItems_any _ _ lit17 lit17 _ (Items.grow hri ((Grow.refl _).alloc _)) (lit_reads itemC (fun _ => rfl) U8 lit17 63 (fun x => rfl)) (by decide)
  rw [same_yes rfl] at c
  obtain ⟨⟨p0, p1, p2, p3, p4⟩, pz⟩ := n5 HB_b.out
  go_wp2_with fail
  refine c.mono ?_
  clear c p0 p1 p2 p3 p4 pz
  rintro e UX ⟨rfl, gX⟩
  replace GW := Lib.hid (GW.out.trans (((Grow.refl _).alloc _).trans gX))
  replace HR_a := Lib.hid (HR_a.out.grow (((Grow.refl _).alloc _).trans gX))
  replace HB_a := Lib.hid (Grow.blk (((Grow.refl _).alloc _).trans gX) HB_a.out)
  replace HR_b := Lib.hid (HR_b.out.grow (((Grow.refl _).alloc _).trans gX))
  replace HB_b := Lib.hid (Grow.blk (((Grow.refl _).alloc _).trans gX) HB_b.out)
  replace HR_z := Lib.hid (HR_z.out.grow (((Grow.refl _).alloc _).trans gX))
  replace HB_z := Lib.hid (Grow.blk (((Grow.refl _).alloc _).trans gX) HB_z.out)
  have c := mayS_any b _ _ _ HR_b.out (by rw [HEB.out]; exact tame_of s2 may_s2) (HTB.out.below GW.out)
  try unfold shelfV at c
  obtain ⟨⟨p0, p1, p2, p3, p4⟩, pz⟩ := n5 HB_b.out
  rw [show mayS b = true by rw [HEB.out]; exact may_s2] at c
  go_wp2_with fail
  refine c.mono ?_
  clear c
  clear p0 p1 p2 p3 p4 pz
  rintro e U9 ⟨rfl, g2⟩
  replace GW := Lib.hid (GW.out.trans g2)
  replace HR_a := Lib.hid (HR_a.out.grow g2)
  replace HB_a := Lib.hid (Grow.blk g2 HB_a.out)
  replace HR_b := Lib.hid (HR_b.out.grow g2)
  replace HB_b := Lib.hid (Grow.blk g2 HB_b.out)
  replace HR_z := Lib.hid (HR_z.out.grow g2)
  replace HB_z := Lib.hid (Grow.blk g2 HB_z.out)
  go_wp2_with fail
  go_ret
  exact ⟨rfl, GW.out⟩
end Go.Proofs.YtnajccljdjllgaaDoor
set_option linter.unusedVariables false
set_option linter.unusedSimpArgs false
namespace Go.Proofs.YtnajccljdjllgaaDoor
open Go.RowKit Go.Lib
theorem numOf_any (n : Int) (w : World) : Calls Tryd.prog 20 #[.int .i64 n] w fun e w' => e = .returned (.int .i64 n) ∧ w' = w := by
  go_enter Tryd.func20, Tryd.ntmps20
  go_wp2_with fail
  go_ret
  exact ⟨rfl, rfl⟩
theorem n4 {w : World} {b : Nat} {t : TypeId} {m : Nat × Nat} {u0 u1 u2 u3 : Value} (hb : w.heap[b]? = some (.cells #[u0, u1, u2, u3] t m)) :
    (w.cell? ⟨b, 0, none⟩ = some u0 ∧ w.cell? ⟨b, 1, none⟩ = some u1 ∧ w.cell? ⟨b, 2, none⟩ = some u2 ∧ w.cell? ⟨b, 3, none⟩ = some u3) ∧ b < w.heap.size :=
  ⟨⟨(cell_of_row w b 0 _ _ _ hb).trans rfl, (cell_of_row w b 1 _ _ _ hb).trans rfl, (cell_of_row w b 2 _ _ _ hb).trans rfl, (cell_of_row w b 3 _ _ _ hb).trans rfl⟩, (Array.getElem?_eq_some_iff.1 hb).1⟩
theorem resOf_n0 (e : Int) (s : Shelf) : (resOf e s 0).n = 0 := by unfold resOf; split <;> rfl
theorem results_cct {P : Program} {fn : Func} {p q u : Tmp} {ty ty2 : TypeId} (h : fn.results = #[.cell p ty, .cell q ty2, .tmp u]) (tmps : Array Value) (w : World) :
    (results fn tmps).run P w = ((asAddr (tmps.getD p undef)).run P w).andThen fun a w₁ => ((loadVar ty a).run P w₁).andThen fun v w₂ => ((asAddr (tmps.getD q undef)).run P w₂).andThen fun a2 w₃ => ((loadVar ty2 a2).run P w₃).andThen fun v2 w₄ => .ok (.tuple #[v, v2, tmps.getD u undef]) w₄ := by
  simp [results, h, Sem.run_bind]
def RetC1 (S : Shelf) (E : Int) (w : World) (e : Ending) (w' : World) : Prop := ∃ xa xc ya yc Y, e = .returned (.tuple #[.agg #[.int .i64 S.nb, .int .i64 S.nn, .int .i64 S.ns, .slice xa S.books.length xc, .slice ya S.notes.length yc], .int .i64 E]) ∧ OwnS w.heap.size (.slice xa S.books.length xc) (.slice ya S.notes.length yc) S.books Y w' ∧ Y.map NV.n = S.notes ∧ Grow w w'
def RetM1 (S : Shelf) (N E : Int) (w : World) (e : Ending) (w' : World) : Prop := ∃ xa xc ya yc Y, e = .returned (.tuple #[.agg #[.int .i64 S.nb, .int .i64 S.nn, .int .i64 S.ns, .slice xa S.books.length xc, .slice ya S.notes.length yc], .int .i64 N, .int .i64 E]) ∧ OwnS w.heap.size (.slice xa S.books.length xc) (.slice ya S.notes.length yc) S.books Y w' ∧ Y.map NV.n = S.notes ∧ Grow w w'
theorem RetC.one {r : Res} {S : Shelf} {N E : Int} (hr : r = ⟨S, N, E⟩) {w w' : World} {e : Ending} (h : RetC r w e w') : RetC1 S E w e w' := by
  subst hr
  obtain ⟨g, bv, nv, Y, h1, h2, h3⟩ := h
  obtain ⟨xa, xc, e1, -⟩ := h2.books.slice
  obtain ⟨ya, yc, e2, -⟩ := h2.notes.slice
  have hl : Y.length = S.notes.length := by rw [← h3, List.length_map]
  rw [hl] at e2
  subst e1 e2
  exact ⟨xa, xc, ya, yc, Y, h1, h2, h3, g⟩
theorem RetM.one {r : Res} {S : Shelf} {N E : Int} (hr : r = ⟨S, N, E⟩) {w w' : World} {e : Ending} (h : RetM r w e w') : RetM1 S N E w e w' := by
  subst hr
  obtain ⟨g, bv, nv, Y, h1, h2, h3⟩ := h
  obtain ⟨xa, xc, e1, -⟩ := h2.books.slice
  obtain ⟨ya, yc, e2, -⟩ := h2.notes.slice
  have hl : Y.length = S.notes.length := by rw [← h3, List.length_map]
  rw [hl] at e2
  subst e1 e2
  exact ⟨xa, xc, ya, yc, Y, h1, h2, h3, g⟩
theorem own_shelf {base : Nat} {bv nv : Value} {S : Shelf} {Y : List NV} {w : World} (h : OwnS base bv nv S.books Y w) (hm : Y.map NV.n = S.notes) : ShelfR w S bv nv := ⟨h.reads.1, by rw [← hm]; exact h.reads.2⟩
abbrev zQ : Obj := shQ 0 0 0 (.slice none 0 0) (.slice none 0 0)
abbrev shO (S : Shelf) (bv nv : Value) : Obj := shQ S.nb S.nn S.ns bv nv
/-- Both shelves lie in their boxes (A, B); C, D are boxes that are still empty. -/
structure BothSt (w : World) (A B C D : Nat) (S : Shelf) (bv nv : Value) (Y : List NV) (b2 n2 : Value) (W : World) : Prop where
  grow : Grow w W
  a : W.heap[A]? = some (shO S bv nv)
  b : W.heap[B]? = some (shO S b2 n2)
  c : W.heap[C]? = some zQ
  d : W.heap[D]? = some zQ
  own : OwnS w.heap.size bv nv S.books Y W
  map : Y.map NV.n = S.notes
  two : ShelfR W S b2 n2
theorem both_one {w V w1 : World} {A : Nat} {S : Shelf} {bv nv : Value} {Y : List NV} (gV : Grow w V) (hA : V.heap[A]? = some zQ) (hl : w.heap.size ≤ A) (g1 : Grow V w1) (ho : OwnS V.heap.size bv nv S.books Y w1) :
    (set5w w1 A (.int .i64 S.nb) (.int .i64 S.nn) (.int .i64 S.ns) bv nv).heap[A]? = some (shO S bv nv) ∧ Grow w (set5w w1 A (.int .i64 S.nb) (.int .i64 S.nn) (.int .i64 S.ns) bv nv) ∧ OwnS w.heap.size bv nv S.books Y (set5w w1 A (.int .i64 S.nb) (.int .i64 S.nn) (.int .i64 S.ns) bv nv) ∧
      ∀ (i : Nat) (o : Obj), i ≠ A → V.heap[i]? = some o → (set5w w1 A (.int .i64 S.nb) (.int .i64 S.nn) (.int .i64 S.ns) bv nv).heap[i]? = some o := by
  have hb := g1.blk hA
  obtain ⟨h1, h2⟩ := set5 hb (.int .i64 S.nb) (.int .i64 S.nn) (.int .i64 S.ns) bv nv
  exact ⟨h1, h2.grow (gV.trans g1) hl, (ho.base_mono gV.size).kept (shelf_kept hb h2), fun i o hi ho => set5_other _ _ _ _ _ hi (g1.blk ho)⟩
theorem both_two {w V w2 : World} {A B C D : Nat} {S : Shelf} {bv nv b2 n2 : Value} {Y : List NV} (gV : Grow w V) (hA : V.heap[A]? = some (shO S bv nv)) (hB : V.heap[B]? = some zQ) (hC : V.heap[C]? = some zQ) (hD : V.heap[D]? = some zQ) (hl : w.heap.size ≤ B) (ne : A ≠ B ∧ C ≠ B ∧ D ≠ B)
    (ho : OwnS w.heap.size bv nv S.books Y V) (hm : Y.map NV.n = S.notes) (g2 : Grow V w2) {Y2 : List NV} (ho2 : OwnS V.heap.size b2 n2 S.books Y2 w2) (hm2 : Y2.map NV.n = S.notes) :
    BothSt w A B C D S bv nv Y b2 n2 (set5w w2 B (.int .i64 S.nb) (.int .i64 S.nn) (.int .i64 S.ns) b2 n2) := by
  have hb := g2.blk hB
  obtain ⟨h1, h2⟩ := set5 hb (.int .i64 S.nb) (.int .i64 S.nn) (.int .i64 S.ns) b2 n2
  have k := shelf_kept hb h2
  exact ⟨h2.grow (gV.trans g2) hl, set5_other _ _ _ _ _ ne.1 (g2.blk hA), h1, set5_other _ _ _ _ _ ne.2.1 (g2.blk hC), set5_other _ _ _ _ _ ne.2.2 (g2.blk hD), (ho.grow g2).kept k, hm, own_shelf (ho2.kept k) hm2⟩
/-- What both answers. -/
def RetB (S : Shelf) (w : World) (e : Ending) (w' : World) : Prop := ∃ xa xc ya yc Y b2 bc2 n2 nc2, e = .returned (.tuple #[.agg #[.int .i64 S.nb, .int .i64 S.nn, .int .i64 S.ns, .slice xa S.books.length xc, .slice ya S.notes.length yc], .agg #[.int .i64 S.nb, .int .i64 S.nn, .int .i64 S.ns, .slice b2 S.books.length bc2, .slice n2 S.notes.length nc2], .bool true]) ∧ OwnS w.heap.size (.slice xa S.books.length xc) (.slice ya S.notes.length yc) S.books Y w' ∧ Y.map NV.n = S.notes ∧ Grow w w'
def RetB8 (S : Shelf) (w : World) (e : Ending) (w' : World) : Prop := ∃ xa xc ya yc Y, e = .returned (.tuple #[.agg #[.int .i64 S.nb, .int .i64 S.nn, .int .i64 S.ns, .slice xa S.books.length xc, .slice ya S.notes.length yc], .bool true]) ∧ OwnS w.heap.size (.slice xa S.books.length xc) (.slice ya S.notes.length yc) S.books Y w' ∧ Y.map NV.n = S.notes ∧ Grow w w'
/-- Rows of the call's own, beside boxes of shelves in which the results are stored. -/
def OwnE (w : World) (bv nv : Value) (X : List Book) (Y : List NV) (L : List Nat) (W : World) : Prop := Grow w W ∧ OwnS w.heap.size bv nv X Y W ∧ ∀ C ∈ L, ∃ cs : Array Value, W.heap[C]? = some (.cells cs 28 (0, 0))
theorem OwnE.drew {w W : World} {bv nv : Value} {X : List Book} {Y : List NV} {L : List Nat} (h : OwnE w bv nv X Y L W) : OwnE w bv nv X Y L W.drew := ⟨h.1.drew, h.2.1.grow (Grow.refl W).drew, fun C hC => (h.2.2 C hC).elim fun cs hc => ⟨cs, (Grow.refl W).drew.blk hc⟩⟩
theorem OwnE.more {w W W' : World} {bv nv : Value} {X : List Book} {Y : List NV} {L : List Nat} (h : OwnE w bv nv X Y L W) (g : Grow W W') : OwnE w bv nv X Y L W' := ⟨h.1.trans g, h.2.1.grow g, fun C hC => (h.2.2 C hC).elim fun cs hc => ⟨cs, g.blk hc⟩⟩
theorem OwnE.set {w W : World} {bv nv : Value} {X : List Book} {Y : List NV} {L : List Nat} (h : OwnE w bv nv X Y L W) {C : Nat} (hC : C ∈ L) (hl : w.heap.size ≤ C) (j : Nat) (u : Value) : OwnE w bv nv X Y L (W.setCell ⟨C, j, none⟩ u) := by
  obtain ⟨cs, hc⟩ := h.2.2 C hC
  have ht := turned_cell W C j u
  refine ⟨ht.grow h.1 hl, h.2.1.kept (shelf_kept hc ht), fun E hE => ?_⟩
  by_cases e : E = C
  · subst e; exact ⟨_, heap_setCell_same W E j _ _ u hc⟩
  · obtain ⟨c2, h2⟩ := h.2.2 E hE
    exact ⟨c2, (ht.block E (Array.getElem?_eq_some_iff.1 h2).1 e).trans h2⟩
theorem BothSt.ends {w W : World} {A B C D : Nat} {S : Shelf} {bv nv b2 n2 : Value} {Y : List NV} (h : BothSt w A B C D S bv nv Y b2 n2 W) : OwnE w bv nv S.books Y [C, D] W := ⟨h.grow, h.own, fun E hE => by
  simp only [List.mem_cons, List.not_mem_nil, or_false] at hE
  rcases hE with rfl | rfl
  · exact ⟨_, h.c⟩
  · exact ⟨_, h.d⟩⟩
theorem same_tame {S : Shelf} (h : TameS S) : Tame S := h.1
theorem rsame (S : Shelf) : same S S = true := same_yes rfl
end Go.Proofs.YtnajccljdjllgaaDoor
set_option linter.unusedVariables false
set_option linter.unusedSimpArgs false
namespace Go.Proofs.YtnajccljdjllgaaDoor
open Go.RowKit Go.Lib
theorem add_tame (s : Shelf) (id : Int) (t : ByteArray) : TameS (addR s id t).s := tame_res add_may
theorem retitle_tame (s : Shelf) (id : Int) (t : ByteArray) : TameS (retitleR s id t).s := tame_res retitle_may
def act17R (s : Shelf) (x a b : Int) (t : ByteArray) : Res := if x = 0 then makeR s t else if x = 1 then renameR s a t else if x = 2 then dropR s a else if x = 3 then addR s a t else if x = 4 then retitleR s a t else if x = 5 then moveR s a b else if x = 6 then discardR s a else ⟨zS, 0, 0⟩
theorem act17R_tame (s : Shelf) (x a b : Int) (t : ByteArray) : TameS (act17R s x a b t).s := by
  unfold act17R
  repeat' split
  · exact make_tame s t
  · exact rename_tame s a t
  · exact drop_tame s a
  · exact add_tame s a t
  · exact retitle_tame s a t
  · exact move_tame s a b
  · exact discard_tame s a
  · exact zS_tame
theorem boxes17 (w : World) (o0 : Obj) (o1 : Obj) (o2 : Obj) (o3 : Obj) (o4 : Obj) (o5 : Obj) : (((((((w.alloc o0).alloc o1).alloc o2).alloc o3).alloc o4).alloc o5)).heap[w.heap.size]? = some o0 ∧ (((((((w.alloc o0).alloc o1).alloc o2).alloc o3).alloc o4).alloc o5)).heap[w.heap.size + 1]? = some o1 ∧ (((((((w.alloc o0).alloc o1).alloc o2).alloc o3).alloc o4).alloc o5)).heap[w.heap.size + 2]? = some o2 ∧ (((((((w.alloc o0).alloc o1).alloc o2).alloc o3).alloc o4).alloc o5)).heap[w.heap.size + 3]? = some o3 ∧ (((((((w.alloc o0).alloc o1).alloc o2).alloc o3).alloc o4).alloc o5)).heap[w.heap.size + 4]? = some o4 ∧ (((((((w.alloc o0).alloc o1).alloc o2).alloc o3).alloc o4).alloc o5)).heap[w.heap.size + 5]? = some o5 := by
  refine ⟨?_, ?_, ?_, ?_, ?_, ?_⟩
  · have h := heap_alloc_new (w) o0
    rw [show (w).heap.size = w.heap.size by simp] at h
    exact (((((((Grow.refl _).alloc o1).alloc o2).alloc o3).alloc o4).alloc o5) : Grow _ _).blk h
  · have h := heap_alloc_new ((w.alloc o0)) o1
    rw [show ((w.alloc o0)).heap.size = w.heap.size + 1 by simp] at h
    exact ((((((Grow.refl _).alloc o2).alloc o3).alloc o4).alloc o5) : Grow _ _).blk h
  · have h := heap_alloc_new (((w.alloc o0).alloc o1)) o2
    rw [show (((w.alloc o0).alloc o1)).heap.size = w.heap.size + 2 by simp] at h
    exact (((((Grow.refl _).alloc o3).alloc o4).alloc o5) : Grow _ _).blk h
  · have h := heap_alloc_new ((((w.alloc o0).alloc o1).alloc o2)) o3
    rw [show ((((w.alloc o0).alloc o1).alloc o2)).heap.size = w.heap.size + 3 by simp] at h
    exact ((((Grow.refl _).alloc o4).alloc o5) : Grow _ _).blk h
  · have h := heap_alloc_new (((((w.alloc o0).alloc o1).alloc o2).alloc o3)) o4
    rw [show (((((w.alloc o0).alloc o1).alloc o2).alloc o3)).heap.size = w.heap.size + 4 by simp] at h
    exact (((Grow.refl _).alloc o5) : Grow _ _).blk h
  · have h := heap_alloc_new ((((((w.alloc o0).alloc o1).alloc o2).alloc o3).alloc o4)) o5
    rw [show ((((((w.alloc o0).alloc o1).alloc o2).alloc o3).alloc o4)).heap.size = w.heap.size + 5 by simp] at h
    exact h
set_option maxRecDepth 100000 in
set_option maxHeartbeats 8000000 in
theorem both17_any (s : Shelf) (bv nv : Value) (x a b : Int) (t : ByteArray) (w : World) (h : ShelfR w s bv nv) (hz : TameS s) (ht : t.size ≤ 1000000000) (hT : Tabs w) :
    Calls Tryd.prog 11 #[shelfV s bv nv, .agg #[.int .i64 x, .int .i64 a, .int .i64 b, .string t]] w (RetB (act17R s x a b t).s w) := by
  obtain ⟨S, N, E, hR⟩ : ∃ S N E, act17R s x a b t = ⟨S, N, E⟩ := ⟨_, _, _, rfl⟩
  have HTS := Lib.hid (show TameS S by have := act17R_tame s x a b t; rw [hR] at this; exact this)
  rw [hR]
  have HR := Lib.hid hR
  have HH := Lib.hid h
  have HZ := Lib.hid hz
  have HTB := Lib.hid hT
  obtain ⟨a1, c1, rfl⟩ := h.1.mk
  obtain ⟨a2, c2, rfl⟩ := h.2.mk
  have HXX := Lib.hid (boxes17 w (.cells #[.int .i64 s.nb, .int .i64 s.nn, .int .i64 s.ns, .slice a1 s.books.length c1, .slice a2 s.notes.length c2] 28) (.cells #[.int .i64 x, .int .i64 a, .int .i64 b, .string t] 32) (.cells #[.int .i64 0, .int .i64 0, .int .i64 0, .slice none 0 0, .slice none 0 0] 28) (.cells #[.int .i64 0, .int .i64 0, .int .i64 0, .slice none 0 0, .slice none 0 0] 28) (.cells #[.int .i64 0, .int .i64 0, .int .i64 0, .slice none 0 0, .slice none 0 0] 28) (.cells #[.int .i64 0, .int .i64 0, .int .i64 0, .slice none 0 0, .slice none 0 0] 28))
  clear h hz hT hR
  unfold shelfV
  go_enter Tryd.func11, Tryd.ntmps11
  go_upto_region 2 with (fail)
  generalize hV : ((((((w.alloc (.cells #[.int .i64 s.nb, .int .i64 s.nn, .int .i64 s.ns, .slice a1 s.books.length c1, .slice a2 s.notes.length c2] 28)).alloc (.cells #[.int .i64 x, .int .i64 a, .int .i64 b, .string t] 32)).alloc (.cells #[.int .i64 0, .int .i64 0, .int .i64 0, .slice none 0 0, .slice none 0 0] 28)).alloc (.cells #[.int .i64 0, .int .i64 0, .int .i64 0, .slice none 0 0, .slice none 0 0] 28)).alloc (.cells #[.int .i64 0, .int .i64 0, .int .i64 0, .slice none 0 0, .slice none 0 0] 28)).alloc (.cells #[.int .i64 0, .int .i64 0, .int .i64 0, .slice none 0 0, .slice none 0 0] 28)) = V
  have gV : Grow w V := by rw [← hV]; exact (((((((Grow.refl w).alloc _).alloc _).alloc _).alloc _).alloc _).alloc _)
  have HB0 : Hid (V.heap[w.heap.size]? = some (.cells #[.int .i64 s.nb, .int .i64 s.nn, .int .i64 s.ns, .slice a1 s.books.length c1, .slice a2 s.notes.length c2] 28)) := by rw [← hV]; exact Lib.hid HXX.out.1
  have HB1 : Hid (V.heap[w.heap.size + 1]? = some (.cells #[.int .i64 x, .int .i64 a, .int .i64 b, .string t] 32)) := by rw [← hV]; exact Lib.hid HXX.out.2.1
  have HB2 : Hid (V.heap[w.heap.size + 2]? = some (.cells #[.int .i64 0, .int .i64 0, .int .i64 0, .slice none 0 0, .slice none 0 0] 28)) := by rw [← hV]; exact Lib.hid HXX.out.2.2.1
  have HB3 : Hid (V.heap[w.heap.size + 3]? = some (.cells #[.int .i64 0, .int .i64 0, .int .i64 0, .slice none 0 0, .slice none 0 0] 28)) := by rw [← hV]; exact Lib.hid HXX.out.2.2.2.1
  have HB4 : Hid (V.heap[w.heap.size + 4]? = some (.cells #[.int .i64 0, .int .i64 0, .int .i64 0, .slice none 0 0, .slice none 0 0] 28)) := by rw [← hV]; exact Lib.hid HXX.out.2.2.2.2.1
  have HB5 : Hid (V.heap[w.heap.size + 5]? = some (.cells #[.int .i64 0, .int .i64 0, .int .i64 0, .slice none 0 0, .slice none 0 0] 28)) := by rw [← hV]; exact Lib.hid HXX.out.2.2.2.2.2
  clear hV HXX
  obtain ⟨⟨p0, p1, p2, p3, p4⟩, hpz⟩ := n5 HB0.out
  obtain ⟨⟨q0, q1, q2, q3⟩, hqz⟩ := n4 HB1.out
  go_upto_block 0 with (fail)
  go_cut [9, 10, 11, 12] (fun v9 v10 v11 v12 wx => ∃ xa xc ya yc Y b2 n2, v9 = .int .i64 N ∧ v10 = .int .i64 N ∧ v11 = .int .i64 E ∧ v12 = .int .i64 E ∧ BothSt w (w.heap.size + 4) (w.heap.size + 5) (w.heap.size + 2) (w.heap.size + 3) S (.slice xa S.books.length xc) (.slice ya S.notes.length yc) Y b2 n2 wx)
  case first =>
    by_cases hx0 : x = 0
    · subst hx0
      have hR1 : makeR s t = ⟨S, N, E⟩ := by have h9 := HR.out; unfold act17R at h9; simpa using h9
      have c := (make_any s _ _  t V (HH.out.grow gV) HZ.out ht (HTB.out.below gV)).mono fun _ _ => RetM.one hR1
      unfold shelfV at c
      go_wp2_with fail
      refine c.mono ?_
      clear c
      rintro e w1 ⟨xa, xc, ya, yc, Y, rfl, ho, hm, g1⟩
      obtain ⟨k1, k2, k3, k4⟩ := both_one gV HB4.out (by omega) g1 ho
      obtain ⟨⟨e0, e1, e2, e3, e4⟩, ez⟩ := n5 (g1.blk HB4.out)
      have f0 := frozen_of_row w1 (w.heap.size + 4) 0 _ _ (g1.blk HB4.out)
      have f1 := frozen_of_row w1 (w.heap.size + 4) 1 _ _ (g1.blk HB4.out)
      have f2 := frozen_of_row w1 (w.heap.size + 4) 2 _ _ (g1.blk HB4.out)
      have f3 := frozen_of_row w1 (w.heap.size + 4) 3 _ _ (g1.blk HB4.out)
      have f4 := frozen_of_row w1 (w.heap.size + 4) 4 _ _ (g1.blk HB4.out)
      unfold set5w at k1 k2 k3 k4
      clear p0 p1 p2 p3 p4 hpz q0 q1 q2 q3 hqz
      go_upto_region 7 with (fail)
      generalize ((((w1.setCell ⟨w.heap.size + 4, 0, none⟩ (.int .i64 S.nb)).setCell ⟨w.heap.size + 4, 1, none⟩ (.int .i64 S.nn)).setCell ⟨w.heap.size + 4, 2, none⟩ (.int .i64 S.ns)).setCell ⟨w.heap.size + 4, 3, none⟩ (.slice xa S.books.length xc)).setCell ⟨w.heap.size + 4, 4, none⟩ (.slice ya S.notes.length yc) = W1 at *
      have KA := Lib.hid k1
      have KG := Lib.hid k2
      have KO := Lib.hid k3
      have KB0 := Lib.hid (k4 _ _ (by omega) HB0.out)
      have KB1 := Lib.hid (k4 _ _ (by omega) HB1.out)
      have KB := Lib.hid (k4 _ _ (by omega) HB5.out)
      have KC := Lib.hid (k4 _ _ (by omega) HB2.out)
      have KD := Lib.hid (k4 _ _ (by omega) HB3.out)
      have KM := Lib.hid hm
      clear k1 k2 k3 k4 ho hm g1 e0 e1 e2 e3 e4 ez f0 f1 f2 f3 f4
      obtain ⟨⟨p0, p1, p2, p3, p4⟩, hpz⟩ := n5 KB0.out
      obtain ⟨⟨q0, q1, q2, q3⟩, hqz⟩ := n4 KB1.out
      have c := (refMake_any s _ _  t W1 (HH.out.grow KG.out) HZ.out ht (HTB.out.below KG.out)).mono fun _ _ => RetM.one hR1
      unfold shelfV at c
      go_wp2_with fail
      refine c.mono ?_
      clear c
      rintro e w2 ⟨xa2, xc2, ya2, yc2, Y2, rfl, ho, hm, g2⟩
      have k := both_two (A := w.heap.size + 4) (B := w.heap.size + 5) (C := w.heap.size + 2) (D := w.heap.size + 3) KG.out KA.out KB.out KC.out KD.out (by omega) ⟨by omega, by omega, by omega⟩ KO.out KM.out g2 ho hm
      obtain ⟨⟨e0, e1, e2, e3, e4⟩, ez⟩ := n5 (g2.blk KB.out)
      have f0 := frozen_of_row w2 (w.heap.size + 5) 0 _ _ (g2.blk KB.out)
      have f1 := frozen_of_row w2 (w.heap.size + 5) 1 _ _ (g2.blk KB.out)
      have f2 := frozen_of_row w2 (w.heap.size + 5) 2 _ _ (g2.blk KB.out)
      have f3 := frozen_of_row w2 (w.heap.size + 5) 3 _ _ (g2.blk KB.out)
      have f4 := frozen_of_row w2 (w.heap.size + 5) 4 _ _ (g2.blk KB.out)
      have KK := Lib.hid k
      clear p0 p1 p2 p3 p4 hpz q0 q1 q2 q3 hqz k ho hm g2
      go_wp2_with fail
      go_meet
      exact ⟨xa, xc, ya, yc, Y, _, _, rfl, rfl, rfl, rfl, KK.out⟩
    · have hx0' := hx0
      by_cases hx1 : x = 1
      · subst hx1
        have hR1 : renameR s a t = ⟨S, N, E⟩ := by have h9 := HR.out; unfold act17R at h9; simpa using h9
        have hN : N = 0 := by have h9 := congrArg Res.n hR1; rw [show (renameR s a t).n = 0 from resOf_n0 _ _] at h9; exact h9.symm
        have c := (rename_any s _ _ a t V (HH.out.grow gV) HZ.out ht (HTB.out.below gV)).mono fun _ _ => RetC.one hR1
        unfold shelfV at c
        go_wp2_with fail
        refine c.mono ?_
        clear c
        rintro e w1 ⟨xa, xc, ya, yc, Y, rfl, ho, hm, g1⟩
        obtain ⟨k1, k2, k3, k4⟩ := both_one gV HB4.out (by omega) g1 ho
        obtain ⟨⟨e0, e1, e2, e3, e4⟩, ez⟩ := n5 (g1.blk HB4.out)
        have f0 := frozen_of_row w1 (w.heap.size + 4) 0 _ _ (g1.blk HB4.out)
        have f1 := frozen_of_row w1 (w.heap.size + 4) 1 _ _ (g1.blk HB4.out)
        have f2 := frozen_of_row w1 (w.heap.size + 4) 2 _ _ (g1.blk HB4.out)
        have f3 := frozen_of_row w1 (w.heap.size + 4) 3 _ _ (g1.blk HB4.out)
        have f4 := frozen_of_row w1 (w.heap.size + 4) 4 _ _ (g1.blk HB4.out)
        unfold set5w at k1 k2 k3 k4
        clear p0 p1 p2 p3 p4 hpz q0 q1 q2 q3 hqz
        go_upto_region 10 with (fail)
        generalize ((((w1.setCell ⟨w.heap.size + 4, 0, none⟩ (.int .i64 S.nb)).setCell ⟨w.heap.size + 4, 1, none⟩ (.int .i64 S.nn)).setCell ⟨w.heap.size + 4, 2, none⟩ (.int .i64 S.ns)).setCell ⟨w.heap.size + 4, 3, none⟩ (.slice xa S.books.length xc)).setCell ⟨w.heap.size + 4, 4, none⟩ (.slice ya S.notes.length yc) = W1 at *
        have KA := Lib.hid k1
        have KG := Lib.hid k2
        have KO := Lib.hid k3
        have KB0 := Lib.hid (k4 _ _ (by omega) HB0.out)
        have KB1 := Lib.hid (k4 _ _ (by omega) HB1.out)
        have KB := Lib.hid (k4 _ _ (by omega) HB5.out)
        have KC := Lib.hid (k4 _ _ (by omega) HB2.out)
        have KD := Lib.hid (k4 _ _ (by omega) HB3.out)
        have KM := Lib.hid hm
        clear k1 k2 k3 k4 ho hm g1 e0 e1 e2 e3 e4 ez f0 f1 f2 f3 f4
        obtain ⟨⟨p0, p1, p2, p3, p4⟩, hpz⟩ := n5 KB0.out
        obtain ⟨⟨q0, q1, q2, q3⟩, hqz⟩ := n4 KB1.out
        have c := (refRename_any s _ _ a t W1 (HH.out.grow KG.out) HZ.out ht (HTB.out.below KG.out)).mono fun _ _ => RetC.one hR1
        unfold shelfV at c
        go_wp2_with fail
        refine c.mono ?_
        clear c
        rintro e w2 ⟨xa2, xc2, ya2, yc2, Y2, rfl, ho, hm, g2⟩
        have k := both_two (A := w.heap.size + 4) (B := w.heap.size + 5) (C := w.heap.size + 2) (D := w.heap.size + 3) KG.out KA.out KB.out KC.out KD.out (by omega) ⟨by omega, by omega, by omega⟩ KO.out KM.out g2 ho hm
        obtain ⟨⟨e0, e1, e2, e3, e4⟩, ez⟩ := n5 (g2.blk KB.out)
        have f0 := frozen_of_row w2 (w.heap.size + 5) 0 _ _ (g2.blk KB.out)
        have f1 := frozen_of_row w2 (w.heap.size + 5) 1 _ _ (g2.blk KB.out)
        have f2 := frozen_of_row w2 (w.heap.size + 5) 2 _ _ (g2.blk KB.out)
        have f3 := frozen_of_row w2 (w.heap.size + 5) 3 _ _ (g2.blk KB.out)
        have f4 := frozen_of_row w2 (w.heap.size + 5) 4 _ _ (g2.blk KB.out)
        have KK := Lib.hid k
        clear p0 p1 p2 p3 p4 hpz q0 q1 q2 q3 hqz k ho hm g2
        go_wp2_with fail
        go_meet
        exact ⟨xa, xc, ya, yc, Y, _, _, by rw [hN], by rw [hN], rfl, rfl, KK.out⟩
      · have hx1' := hx1
        by_cases hx2 : x = 2
        · subst hx2
          have hR1 : dropR s a = ⟨S, N, E⟩ := by have h9 := HR.out; unfold act17R at h9; simpa using h9
          have hN : N = 0 := by have h9 := congrArg Res.n hR1; rw [show (dropR s a).n = 0 from resOf_n0 _ _] at h9; exact h9.symm
          have c := (drop_any s _ _ a V (HH.out.grow gV) HZ.out (HTB.out.below gV)).mono fun _ _ => RetC.one hR1
          unfold shelfV at c
          go_wp2_with fail
          refine c.mono ?_
          clear c
          rintro e w1 ⟨xa, xc, ya, yc, Y, rfl, ho, hm, g1⟩
          obtain ⟨k1, k2, k3, k4⟩ := both_one gV HB4.out (by omega) g1 ho
          obtain ⟨⟨e0, e1, e2, e3, e4⟩, ez⟩ := n5 (g1.blk HB4.out)
          have f0 := frozen_of_row w1 (w.heap.size + 4) 0 _ _ (g1.blk HB4.out)
          have f1 := frozen_of_row w1 (w.heap.size + 4) 1 _ _ (g1.blk HB4.out)
          have f2 := frozen_of_row w1 (w.heap.size + 4) 2 _ _ (g1.blk HB4.out)
          have f3 := frozen_of_row w1 (w.heap.size + 4) 3 _ _ (g1.blk HB4.out)
          have f4 := frozen_of_row w1 (w.heap.size + 4) 4 _ _ (g1.blk HB4.out)
          unfold set5w at k1 k2 k3 k4
          clear p0 p1 p2 p3 p4 hpz q0 q1 q2 q3 hqz
          go_upto_region 13 with (fail)
          generalize ((((w1.setCell ⟨w.heap.size + 4, 0, none⟩ (.int .i64 S.nb)).setCell ⟨w.heap.size + 4, 1, none⟩ (.int .i64 S.nn)).setCell ⟨w.heap.size + 4, 2, none⟩ (.int .i64 S.ns)).setCell ⟨w.heap.size + 4, 3, none⟩ (.slice xa S.books.length xc)).setCell ⟨w.heap.size + 4, 4, none⟩ (.slice ya S.notes.length yc) = W1 at *
          have KA := Lib.hid k1
          have KG := Lib.hid k2
          have KO := Lib.hid k3
          have KB0 := Lib.hid (k4 _ _ (by omega) HB0.out)
          have KB1 := Lib.hid (k4 _ _ (by omega) HB1.out)
          have KB := Lib.hid (k4 _ _ (by omega) HB5.out)
          have KC := Lib.hid (k4 _ _ (by omega) HB2.out)
          have KD := Lib.hid (k4 _ _ (by omega) HB3.out)
          have KM := Lib.hid hm
          clear k1 k2 k3 k4 ho hm g1 e0 e1 e2 e3 e4 ez f0 f1 f2 f3 f4
          obtain ⟨⟨p0, p1, p2, p3, p4⟩, hpz⟩ := n5 KB0.out
          obtain ⟨⟨q0, q1, q2, q3⟩, hqz⟩ := n4 KB1.out
          have c := (refDrop_any s _ _ a W1 (HH.out.grow KG.out) HZ.out (HTB.out.below KG.out)).mono fun _ _ => RetC.one hR1
          unfold shelfV at c
          go_wp2_with fail
          refine c.mono ?_
          clear c
          rintro e w2 ⟨xa2, xc2, ya2, yc2, Y2, rfl, ho, hm, g2⟩
          have k := both_two (A := w.heap.size + 4) (B := w.heap.size + 5) (C := w.heap.size + 2) (D := w.heap.size + 3) KG.out KA.out KB.out KC.out KD.out (by omega) ⟨by omega, by omega, by omega⟩ KO.out KM.out g2 ho hm
          obtain ⟨⟨e0, e1, e2, e3, e4⟩, ez⟩ := n5 (g2.blk KB.out)
          have f0 := frozen_of_row w2 (w.heap.size + 5) 0 _ _ (g2.blk KB.out)
          have f1 := frozen_of_row w2 (w.heap.size + 5) 1 _ _ (g2.blk KB.out)
          have f2 := frozen_of_row w2 (w.heap.size + 5) 2 _ _ (g2.blk KB.out)
          have f3 := frozen_of_row w2 (w.heap.size + 5) 3 _ _ (g2.blk KB.out)
          have f4 := frozen_of_row w2 (w.heap.size + 5) 4 _ _ (g2.blk KB.out)
          have KK := Lib.hid k
          clear p0 p1 p2 p3 p4 hpz q0 q1 q2 q3 hqz k ho hm g2
          go_wp2_with fail
          go_meet
          exact ⟨xa, xc, ya, yc, Y, _, _, by rw [hN], by rw [hN], rfl, rfl, KK.out⟩
        · have hx2' := hx2
          by_cases hx3 : x = 3
          · subst hx3
            have hR1 : addR s a t = ⟨S, N, E⟩ := by have h9 := HR.out; unfold act17R at h9; simpa using h9
            have c := (add_any s _ _ a t V (HH.out.grow gV) HZ.out ht (HTB.out.below gV)).mono fun _ _ => RetM.one hR1
            unfold shelfV at c
            go_wp2_with fail
            refine c.mono ?_
            clear c
            rintro e w1 ⟨xa, xc, ya, yc, Y, rfl, ho, hm, g1⟩
            obtain ⟨k1, k2, k3, k4⟩ := both_one gV HB4.out (by omega) g1 ho
            obtain ⟨⟨e0, e1, e2, e3, e4⟩, ez⟩ := n5 (g1.blk HB4.out)
            have f0 := frozen_of_row w1 (w.heap.size + 4) 0 _ _ (g1.blk HB4.out)
            have f1 := frozen_of_row w1 (w.heap.size + 4) 1 _ _ (g1.blk HB4.out)
            have f2 := frozen_of_row w1 (w.heap.size + 4) 2 _ _ (g1.blk HB4.out)
            have f3 := frozen_of_row w1 (w.heap.size + 4) 3 _ _ (g1.blk HB4.out)
            have f4 := frozen_of_row w1 (w.heap.size + 4) 4 _ _ (g1.blk HB4.out)
            unfold set5w at k1 k2 k3 k4
            clear p0 p1 p2 p3 p4 hpz q0 q1 q2 q3 hqz
            go_upto_region 16 with (fail)
            generalize ((((w1.setCell ⟨w.heap.size + 4, 0, none⟩ (.int .i64 S.nb)).setCell ⟨w.heap.size + 4, 1, none⟩ (.int .i64 S.nn)).setCell ⟨w.heap.size + 4, 2, none⟩ (.int .i64 S.ns)).setCell ⟨w.heap.size + 4, 3, none⟩ (.slice xa S.books.length xc)).setCell ⟨w.heap.size + 4, 4, none⟩ (.slice ya S.notes.length yc) = W1 at *
            have KA := Lib.hid k1
            have KG := Lib.hid k2
            have KO := Lib.hid k3
            have KB0 := Lib.hid (k4 _ _ (by omega) HB0.out)
            have KB1 := Lib.hid (k4 _ _ (by omega) HB1.out)
            have KB := Lib.hid (k4 _ _ (by omega) HB5.out)
            have KC := Lib.hid (k4 _ _ (by omega) HB2.out)
            have KD := Lib.hid (k4 _ _ (by omega) HB3.out)
            have KM := Lib.hid hm
            clear k1 k2 k3 k4 ho hm g1 e0 e1 e2 e3 e4 ez f0 f1 f2 f3 f4
            obtain ⟨⟨p0, p1, p2, p3, p4⟩, hpz⟩ := n5 KB0.out
            obtain ⟨⟨q0, q1, q2, q3⟩, hqz⟩ := n4 KB1.out
            have c := (refAdd_any s _ _ a t W1 (HH.out.grow KG.out) HZ.out ht (HTB.out.below KG.out)).mono fun _ _ => RetM.one hR1
            unfold shelfV at c
            go_wp2_with fail
            refine c.mono ?_
            clear c
            rintro e w2 ⟨xa2, xc2, ya2, yc2, Y2, rfl, ho, hm, g2⟩
            have k := both_two (A := w.heap.size + 4) (B := w.heap.size + 5) (C := w.heap.size + 2) (D := w.heap.size + 3) KG.out KA.out KB.out KC.out KD.out (by omega) ⟨by omega, by omega, by omega⟩ KO.out KM.out g2 ho hm
            obtain ⟨⟨e0, e1, e2, e3, e4⟩, ez⟩ := n5 (g2.blk KB.out)
            have f0 := frozen_of_row w2 (w.heap.size + 5) 0 _ _ (g2.blk KB.out)
            have f1 := frozen_of_row w2 (w.heap.size + 5) 1 _ _ (g2.blk KB.out)
            have f2 := frozen_of_row w2 (w.heap.size + 5) 2 _ _ (g2.blk KB.out)
            have f3 := frozen_of_row w2 (w.heap.size + 5) 3 _ _ (g2.blk KB.out)
            have f4 := frozen_of_row w2 (w.heap.size + 5) 4 _ _ (g2.blk KB.out)
            have KK := Lib.hid k
            clear p0 p1 p2 p3 p4 hpz q0 q1 q2 q3 hqz k ho hm g2
            go_wp2_with fail
            go_meet
            exact ⟨xa, xc, ya, yc, Y, _, _, rfl, rfl, rfl, rfl, KK.out⟩
          · have hx3' := hx3
            by_cases hx4 : x = 4
            · subst hx4
              have hR1 : retitleR s a t = ⟨S, N, E⟩ := by have h9 := HR.out; unfold act17R at h9; simpa using h9
              have hN : N = 0 := by have h9 := congrArg Res.n hR1; rw [show (retitleR s a t).n = 0 from resOf_n0 _ _] at h9; exact h9.symm
              have c := (retitle_any s _ _ a t V (HH.out.grow gV) HZ.out ht (HTB.out.below gV)).mono fun _ _ => RetC.one hR1
              unfold shelfV at c
              go_wp2_with fail
              refine c.mono ?_
              clear c
              rintro e w1 ⟨xa, xc, ya, yc, Y, rfl, ho, hm, g1⟩
              obtain ⟨k1, k2, k3, k4⟩ := both_one gV HB4.out (by omega) g1 ho
              obtain ⟨⟨e0, e1, e2, e3, e4⟩, ez⟩ := n5 (g1.blk HB4.out)
              have f0 := frozen_of_row w1 (w.heap.size + 4) 0 _ _ (g1.blk HB4.out)
              have f1 := frozen_of_row w1 (w.heap.size + 4) 1 _ _ (g1.blk HB4.out)
              have f2 := frozen_of_row w1 (w.heap.size + 4) 2 _ _ (g1.blk HB4.out)
              have f3 := frozen_of_row w1 (w.heap.size + 4) 3 _ _ (g1.blk HB4.out)
              have f4 := frozen_of_row w1 (w.heap.size + 4) 4 _ _ (g1.blk HB4.out)
              unfold set5w at k1 k2 k3 k4
              clear p0 p1 p2 p3 p4 hpz q0 q1 q2 q3 hqz
              go_upto_region 19 with (fail)
              generalize ((((w1.setCell ⟨w.heap.size + 4, 0, none⟩ (.int .i64 S.nb)).setCell ⟨w.heap.size + 4, 1, none⟩ (.int .i64 S.nn)).setCell ⟨w.heap.size + 4, 2, none⟩ (.int .i64 S.ns)).setCell ⟨w.heap.size + 4, 3, none⟩ (.slice xa S.books.length xc)).setCell ⟨w.heap.size + 4, 4, none⟩ (.slice ya S.notes.length yc) = W1 at *
              have KA := Lib.hid k1
              have KG := Lib.hid k2
              have KO := Lib.hid k3
              have KB0 := Lib.hid (k4 _ _ (by omega) HB0.out)
              have KB1 := Lib.hid (k4 _ _ (by omega) HB1.out)
              have KB := Lib.hid (k4 _ _ (by omega) HB5.out)
              have KC := Lib.hid (k4 _ _ (by omega) HB2.out)
              have KD := Lib.hid (k4 _ _ (by omega) HB3.out)
              have KM := Lib.hid hm
              clear k1 k2 k3 k4 ho hm g1 e0 e1 e2 e3 e4 ez f0 f1 f2 f3 f4
              obtain ⟨⟨p0, p1, p2, p3, p4⟩, hpz⟩ := n5 KB0.out
              obtain ⟨⟨q0, q1, q2, q3⟩, hqz⟩ := n4 KB1.out
              have c := (refRetitle_any s _ _ a t W1 (HH.out.grow KG.out) HZ.out ht (HTB.out.below KG.out)).mono fun _ _ => RetC.one hR1
              unfold shelfV at c
              go_wp2_with fail
              refine c.mono ?_
              clear c
              rintro e w2 ⟨xa2, xc2, ya2, yc2, Y2, rfl, ho, hm, g2⟩
              have k := both_two (A := w.heap.size + 4) (B := w.heap.size + 5) (C := w.heap.size + 2) (D := w.heap.size + 3) KG.out KA.out KB.out KC.out KD.out (by omega) ⟨by omega, by omega, by omega⟩ KO.out KM.out g2 ho hm
              obtain ⟨⟨e0, e1, e2, e3, e4⟩, ez⟩ := n5 (g2.blk KB.out)
              have f0 := frozen_of_row w2 (w.heap.size + 5) 0 _ _ (g2.blk KB.out)
              have f1 := frozen_of_row w2 (w.heap.size + 5) 1 _ _ (g2.blk KB.out)
              have f2 := frozen_of_row w2 (w.heap.size + 5) 2 _ _ (g2.blk KB.out)
              have f3 := frozen_of_row w2 (w.heap.size + 5) 3 _ _ (g2.blk KB.out)
              have f4 := frozen_of_row w2 (w.heap.size + 5) 4 _ _ (g2.blk KB.out)
              have KK := Lib.hid k
              clear p0 p1 p2 p3 p4 hpz q0 q1 q2 q3 hqz k ho hm g2
              go_wp2_with fail
              go_meet
              exact ⟨xa, xc, ya, yc, Y, _, _, by rw [hN], by rw [hN], rfl, rfl, KK.out⟩
            · have hx4' := hx4
              by_cases hx5 : x = 5
              · subst hx5
                have hR1 : moveR s a b = ⟨S, N, E⟩ := by have h9 := HR.out; unfold act17R at h9; simpa using h9
                have hN : N = 0 := by have h9 := congrArg Res.n hR1; rw [show (moveR s a b).n = 0 from resOf_n0 _ _] at h9; exact h9.symm
                have c := (move_any s _ _ a b V (HH.out.grow gV) HZ.out (HTB.out.below gV)).mono fun _ _ => RetC.one hR1
                unfold shelfV at c
                go_wp2_with fail
                refine c.mono ?_
                clear c
                rintro e w1 ⟨xa, xc, ya, yc, Y, rfl, ho, hm, g1⟩
                obtain ⟨k1, k2, k3, k4⟩ := both_one gV HB4.out (by omega) g1 ho
                obtain ⟨⟨e0, e1, e2, e3, e4⟩, ez⟩ := n5 (g1.blk HB4.out)
                have f0 := frozen_of_row w1 (w.heap.size + 4) 0 _ _ (g1.blk HB4.out)
                have f1 := frozen_of_row w1 (w.heap.size + 4) 1 _ _ (g1.blk HB4.out)
                have f2 := frozen_of_row w1 (w.heap.size + 4) 2 _ _ (g1.blk HB4.out)
                have f3 := frozen_of_row w1 (w.heap.size + 4) 3 _ _ (g1.blk HB4.out)
                have f4 := frozen_of_row w1 (w.heap.size + 4) 4 _ _ (g1.blk HB4.out)
                unfold set5w at k1 k2 k3 k4
                clear p0 p1 p2 p3 p4 hpz q0 q1 q2 q3 hqz
                go_upto_region 22 with (fail)
                generalize ((((w1.setCell ⟨w.heap.size + 4, 0, none⟩ (.int .i64 S.nb)).setCell ⟨w.heap.size + 4, 1, none⟩ (.int .i64 S.nn)).setCell ⟨w.heap.size + 4, 2, none⟩ (.int .i64 S.ns)).setCell ⟨w.heap.size + 4, 3, none⟩ (.slice xa S.books.length xc)).setCell ⟨w.heap.size + 4, 4, none⟩ (.slice ya S.notes.length yc) = W1 at *
                have KA := Lib.hid k1
                have KG := Lib.hid k2
                have KO := Lib.hid k3
                have KB0 := Lib.hid (k4 _ _ (by omega) HB0.out)
                have KB1 := Lib.hid (k4 _ _ (by omega) HB1.out)
                have KB := Lib.hid (k4 _ _ (by omega) HB5.out)
                have KC := Lib.hid (k4 _ _ (by omega) HB2.out)
                have KD := Lib.hid (k4 _ _ (by omega) HB3.out)
                have KM := Lib.hid hm
                clear k1 k2 k3 k4 ho hm g1 e0 e1 e2 e3 e4 ez f0 f1 f2 f3 f4
                obtain ⟨⟨p0, p1, p2, p3, p4⟩, hpz⟩ := n5 KB0.out
                obtain ⟨⟨q0, q1, q2, q3⟩, hqz⟩ := n4 KB1.out
                have c := (refMove_any s _ _ a b W1 (HH.out.grow KG.out) HZ.out (HTB.out.below KG.out)).mono fun _ _ => RetC.one hR1
                unfold shelfV at c
                go_wp2_with fail
                refine c.mono ?_
                clear c
                rintro e w2 ⟨xa2, xc2, ya2, yc2, Y2, rfl, ho, hm, g2⟩
                have k := both_two (A := w.heap.size + 4) (B := w.heap.size + 5) (C := w.heap.size + 2) (D := w.heap.size + 3) KG.out KA.out KB.out KC.out KD.out (by omega) ⟨by omega, by omega, by omega⟩ KO.out KM.out g2 ho hm
                obtain ⟨⟨e0, e1, e2, e3, e4⟩, ez⟩ := n5 (g2.blk KB.out)
                have f0 := frozen_of_row w2 (w.heap.size + 5) 0 _ _ (g2.blk KB.out)
                have f1 := frozen_of_row w2 (w.heap.size + 5) 1 _ _ (g2.blk KB.out)
                have f2 := frozen_of_row w2 (w.heap.size + 5) 2 _ _ (g2.blk KB.out)
                have f3 := frozen_of_row w2 (w.heap.size + 5) 3 _ _ (g2.blk KB.out)
                have f4 := frozen_of_row w2 (w.heap.size + 5) 4 _ _ (g2.blk KB.out)
                have KK := Lib.hid k
                clear p0 p1 p2 p3 p4 hpz q0 q1 q2 q3 hqz k ho hm g2
                go_wp2_with fail
                go_meet
                exact ⟨xa, xc, ya, yc, Y, _, _, by rw [hN], by rw [hN], rfl, rfl, KK.out⟩
              · have hx5' := hx5
                by_cases hx6 : x = 6
                · subst hx6
                  have hR1 : discardR s a = ⟨S, N, E⟩ := by have h9 := HR.out; unfold act17R at h9; simpa using h9
                  have hN : N = 0 := by have h9 := congrArg Res.n hR1; rw [show (discardR s a).n = 0 from resOf_n0 _ _] at h9; exact h9.symm
                  have c := (discard_any s _ _ a V (HH.out.grow gV) HZ.out (HTB.out.below gV)).mono fun _ _ => RetC.one hR1
                  unfold shelfV at c
                  go_wp2_with fail
                  refine c.mono ?_
                  clear c
                  rintro e w1 ⟨xa, xc, ya, yc, Y, rfl, ho, hm, g1⟩
                  obtain ⟨k1, k2, k3, k4⟩ := both_one gV HB4.out (by omega) g1 ho
                  obtain ⟨⟨e0, e1, e2, e3, e4⟩, ez⟩ := n5 (g1.blk HB4.out)
                  have f0 := frozen_of_row w1 (w.heap.size + 4) 0 _ _ (g1.blk HB4.out)
                  have f1 := frozen_of_row w1 (w.heap.size + 4) 1 _ _ (g1.blk HB4.out)
                  have f2 := frozen_of_row w1 (w.heap.size + 4) 2 _ _ (g1.blk HB4.out)
                  have f3 := frozen_of_row w1 (w.heap.size + 4) 3 _ _ (g1.blk HB4.out)
                  have f4 := frozen_of_row w1 (w.heap.size + 4) 4 _ _ (g1.blk HB4.out)
                  unfold set5w at k1 k2 k3 k4
                  clear p0 p1 p2 p3 p4 hpz q0 q1 q2 q3 hqz
                  go_upto_region 25 with (fail)
                  generalize ((((w1.setCell ⟨w.heap.size + 4, 0, none⟩ (.int .i64 S.nb)).setCell ⟨w.heap.size + 4, 1, none⟩ (.int .i64 S.nn)).setCell ⟨w.heap.size + 4, 2, none⟩ (.int .i64 S.ns)).setCell ⟨w.heap.size + 4, 3, none⟩ (.slice xa S.books.length xc)).setCell ⟨w.heap.size + 4, 4, none⟩ (.slice ya S.notes.length yc) = W1 at *
                  have KA := Lib.hid k1
                  have KG := Lib.hid k2
                  have KO := Lib.hid k3
                  have KB0 := Lib.hid (k4 _ _ (by omega) HB0.out)
                  have KB1 := Lib.hid (k4 _ _ (by omega) HB1.out)
                  have KB := Lib.hid (k4 _ _ (by omega) HB5.out)
                  have KC := Lib.hid (k4 _ _ (by omega) HB2.out)
                  have KD := Lib.hid (k4 _ _ (by omega) HB3.out)
                  have KM := Lib.hid hm
                  clear k1 k2 k3 k4 ho hm g1 e0 e1 e2 e3 e4 ez f0 f1 f2 f3 f4
                  obtain ⟨⟨p0, p1, p2, p3, p4⟩, hpz⟩ := n5 KB0.out
                  obtain ⟨⟨q0, q1, q2, q3⟩, hqz⟩ := n4 KB1.out
                  have c := (refDiscard_any s _ _ a W1 (HH.out.grow KG.out) HZ.out (HTB.out.below KG.out)).mono fun _ _ => RetC.one hR1
                  unfold shelfV at c
                  go_wp2_with fail
                  refine c.mono ?_
                  clear c
                  rintro e w2 ⟨xa2, xc2, ya2, yc2, Y2, rfl, ho, hm, g2⟩
                  have k := both_two (A := w.heap.size + 4) (B := w.heap.size + 5) (C := w.heap.size + 2) (D := w.heap.size + 3) KG.out KA.out KB.out KC.out KD.out (by omega) ⟨by omega, by omega, by omega⟩ KO.out KM.out g2 ho hm
                  obtain ⟨⟨e0, e1, e2, e3, e4⟩, ez⟩ := n5 (g2.blk KB.out)
                  have f0 := frozen_of_row w2 (w.heap.size + 5) 0 _ _ (g2.blk KB.out)
                  have f1 := frozen_of_row w2 (w.heap.size + 5) 1 _ _ (g2.blk KB.out)
                  have f2 := frozen_of_row w2 (w.heap.size + 5) 2 _ _ (g2.blk KB.out)
                  have f3 := frozen_of_row w2 (w.heap.size + 5) 3 _ _ (g2.blk KB.out)
                  have f4 := frozen_of_row w2 (w.heap.size + 5) 4 _ _ (g2.blk KB.out)
                  have KK := Lib.hid k
                  clear p0 p1 p2 p3 p4 hpz q0 q1 q2 q3 hqz k ho hm g2
                  go_wp2_with fail
                  go_meet
                  exact ⟨xa, xc, ya, yc, Y, _, _, by rw [hN], by rw [hN], rfl, rfl, KK.out⟩
                · have hx6' := hx6
                  have hR1 : (⟨zS, 0, 0⟩ : Res) = ⟨S, N, E⟩ := by have h9 := HR.out; unfold act17R at h9; rw [if_neg hx0, if_neg hx1, if_neg hx2, if_neg hx3, if_neg hx4, if_neg hx5, if_neg hx6] at h9; exact h9
                  obtain ⟨rfl, rfl, rfl⟩ : zS = S ∧ (0 : Int) = N ∧ (0 : Int) = E := by injection hR1 with h1 h2 h3; exact ⟨h1, h2, h3⟩
                  go_wp2_with fail
                  go_meet
                  exact ⟨none, 0, none, 0, [], _, _, rfl, rfl, rfl, rfl, ⟨gV, HB4.out, HB5.out, HB2.out, HB3.out, OwnS.nil, rfl, ⟨Reads.nil, Reads.nil⟩⟩⟩
  case rest =>
    obtain ⟨xa, xc, ya, yc, Y, b2, n2, rfl, rfl, rfl, rfl, hb⟩ := hcut
    generalize wc = W at *
    have HB := Lib.hid hb
    have HEN := Lib.hid hb.ends
    have HRS := Lib.hid (own_shelf hb.own hb.map)
    obtain ⟨b2a, b2c, eb2⟩ := hb.two.1.mk
    obtain ⟨n2a, n2c, en2⟩ := hb.two.2.mk
    subst eb2 en2
    have HR2 := Lib.hid hb.two
    obtain ⟨⟨p0, p1, p2, p3, p4⟩, hpz⟩ := n5 hb.a
    obtain ⟨⟨q0, q1, q2, q3, q4⟩, hqz⟩ := n5 hb.b
    obtain ⟨⟨c0, c1', c2', c3, c4⟩, hcz⟩ := n5 hb.c
    have HMAP := Lib.hid hb.map
    have cS := fun W' (g : Grow W W') => sameShelf_any S S _ _ _ _ W' (HRS.out.grow g) (HR2.out.grow g) HTS.out.1
    simp only [rsame] at cS
    have cNu := numOf_any E
    have hee : (E == E) = true := beq_self_eq_true E
    have hnn : (N == N) = true := beq_self_eq_true N
    unfold shelfV at cS
    obtain ⟨⟨d0, d1, d2, d3, d4⟩, hdz⟩ := n5 hb.d
    have fc0 := frozen_of_row W (w.heap.size + 2) 0 _ _ hb.c
    have fc1 := frozen_of_row W (w.heap.size + 2) 1 _ _ hb.c
    have fc2 := frozen_of_row W (w.heap.size + 2) 2 _ _ hb.c
    have fc3 := frozen_of_row W (w.heap.size + 2) 3 _ _ hb.c
    have fc4 := frozen_of_row W (w.heap.size + 2) 4 _ _ hb.c
    have fd0 := frozen_of_row W (w.heap.size + 3) 0 _ _ hb.d
    have fd1 := frozen_of_row W (w.heap.size + 3) 1 _ _ hb.d
    have fd2 := frozen_of_row W (w.heap.size + 3) 2 _ _ hb.d
    have fd3 := frozen_of_row W (w.heap.size + 3) 3 _ _ hb.d
    have fd4 := frozen_of_row W (w.heap.size + 3) 4 _ _ hb.d
    clear hb
    have key : ∀ W', Grow W W' → W'.cell? ⟨w.heap.size + 4, 0, none⟩ = some (.int .i64 S.nb) ∧ W'.cell? ⟨w.heap.size + 4, 1, none⟩ = some (.int .i64 S.nn) ∧ W'.cell? ⟨w.heap.size + 4, 2, none⟩ = some (.int .i64 S.ns) ∧ W'.cell? ⟨w.heap.size + 4, 3, none⟩ = some (.slice xa S.books.length xc) ∧ W'.cell? ⟨w.heap.size + 4, 4, none⟩ = some (.slice ya S.notes.length yc) ∧ W'.cell? ⟨w.heap.size + 5, 0, none⟩ = some (.int .i64 S.nb) ∧ W'.cell? ⟨w.heap.size + 5, 1, none⟩ = some (.int .i64 S.nn) ∧ W'.cell? ⟨w.heap.size + 5, 2, none⟩ = some (.int .i64 S.ns) ∧ W'.cell? ⟨w.heap.size + 5, 3, none⟩ = some (.slice b2a S.books.length b2c) ∧ W'.cell? ⟨w.heap.size + 5, 4, none⟩ = some (.slice n2a S.notes.length n2c) := fun W' gW => by
      obtain ⟨⟨p0, p1, p2, p3, p4⟩, -⟩ := n5 (gW.blk HB.out.a)
      obtain ⟨⟨q0, q1, q2, q3, q4⟩, -⟩ := n5 (gW.blk HB.out.b)
      exact ⟨p0, p1, p2, p3, p4, q0, q1, q2, q3, q4⟩
    have HK := Lib.hid key
    have s0 := key _ (Grow.refl W).drew
    clear key
    go_wp2_with fail
    go_region_held3 (fun w' => w'.cell? ⟨w.heap.size + 4, 0, none⟩ = some (.int .i64 S.nb) ∧ w'.cell? ⟨w.heap.size + 4, 1, none⟩ = some (.int .i64 S.nn) ∧ w'.cell? ⟨w.heap.size + 4, 2, none⟩ = some (.int .i64 S.ns) ∧ w'.cell? ⟨w.heap.size + 4, 3, none⟩ = some (.slice xa S.books.length xc) ∧ w'.cell? ⟨w.heap.size + 4, 4, none⟩ = some (.slice ya S.notes.length yc) ∧ w'.cell? ⟨w.heap.size + 5, 0, none⟩ = some (.int .i64 S.nb) ∧ w'.cell? ⟨w.heap.size + 5, 1, none⟩ = some (.int .i64 S.nn) ∧ w'.cell? ⟨w.heap.size + 5, 2, none⟩ = some (.int .i64 S.ns) ∧ w'.cell? ⟨w.heap.size + 5, 3, none⟩ = some (.slice b2a S.books.length b2c) ∧ w'.cell? ⟨w.heap.size + 5, 4, none⟩ = some (.slice n2a S.notes.length n2c))
      (first | with_reducible exact s1 | with_reducible exact s0 | (obtain ⟨z0, z1, z2, z3, z4, z5, z6, z7, z8, z9⟩ := s1; simp [go_sem, z0, z1, z2, z3, z4, z5, z6, z7, z8, z9]))
      (first
        | (go_at_call 20; refine (cNu _).mono ?_; rintro e w3 ⟨rfl, rfl⟩)
        | (go_at_call 9; refine (cS _ (Grow.refl W).drew).mono ?_; rintro e w3 ⟨rfl, g3⟩; have gx := Grow.trans (Grow.refl W).drew g3; have s1 := HK.out _ gx; obtain ⟨⟨t0, t1, t2, t3, t4⟩, tz⟩ := n5 (gx.blk HB.out.c); have gc0 := frozen_of_row w3 (w.heap.size + 2) 0 _ _ (gx.blk HB.out.c); have gc1 := frozen_of_row w3 (w.heap.size + 2) 1 _ _ (gx.blk HB.out.c); have gc2 := frozen_of_row w3 (w.heap.size + 2) 2 _ _ (gx.blk HB.out.c); have gc3 := frozen_of_row w3 (w.heap.size + 2) 3 _ _ (gx.blk HB.out.c); have gc4 := frozen_of_row w3 (w.heap.size + 2) 4 _ _ (gx.blk HB.out.c); obtain ⟨⟨v0, v1, v2, v3, v4⟩, vz⟩ := n5 (gx.blk HB.out.d); have gd0 := frozen_of_row w3 (w.heap.size + 3) 0 _ _ (gx.blk HB.out.d); have gd1 := frozen_of_row w3 (w.heap.size + 3) 1 _ _ (gx.blk HB.out.d); have gd2 := frozen_of_row w3 (w.heap.size + 3) 2 _ _ (gx.blk HB.out.d); have gd3 := frozen_of_row w3 (w.heap.size + 3) 3 _ _ (gx.blk HB.out.d); have gd4 := frozen_of_row w3 (w.heap.size + 3) 4 _ _ (gx.blk HB.out.d); have HE3 := Lib.hid (HEN.out.more gx)))
    all_goals
      go_wp2_with fail
      refine bodyPost_ret (v := .tuple #[.agg #[.int .i64 S.nb, .int .i64 S.nn, .int .i64 S.ns, .slice xa S.books.length xc, .slice ya S.notes.length yc], .agg #[.int .i64 S.nb, .int .i64 S.nn, .int .i64 S.ns, .slice b2a S.books.length b2c, .slice n2a S.notes.length n2c], .bool true]) ?_ rfl ?_
      · rw [results_cct (P := Tryd.prog) rfl]
        go_simp
      · have hfin : ∀ W', OwnE w (.slice xa S.books.length xc) (.slice ya S.notes.length yc) S.books Y [w.heap.size + 2, w.heap.size + 3] W' → RetB S w (.returned (.tuple #[.agg #[.int .i64 S.nb, .int .i64 S.nn, .int .i64 S.ns, .slice xa S.books.length xc, .slice ya S.notes.length yc], .agg #[.int .i64 S.nb, .int .i64 S.nn, .int .i64 S.ns, .slice b2a S.books.length b2c, .slice n2a S.notes.length n2c], .bool true])) W' := fun W' h => ⟨xa, xc, ya, yc, Y, _, _, _, _, rfl, h.2.1, HMAP.out, h.1⟩
        refine hfin _ ?_
        repeat' (first | with_reducible exact HE3.out | with_reducible refine OwnE.drew ?_ | with_reducible refine OwnE.set ?_ (by simp) (by omega) _ _)
end Go.Proofs.YtnajccljdjllgaaDoor
set_option linter.unusedVariables false
set_option linter.unusedSimpArgs false
namespace Go.Proofs.YtnajccljdjllgaaDoor
open Go.RowKit Go.Lib
structure Step17 (s S : Shelf) : Prop where
  may : MayP S
  nb : s.nb ≤ S.nb
  nn : s.nn ≤ S.nn
  ns : S.ns = s.ns
  bk : s.books.length < S.books.length → ∃ t, S.books = s.books ++ [⟨s.nb, t⟩] ∧ S.nb = s.nb + 1
  nt : s.notes.length < S.notes.length → ∃ n, S.notes = s.notes ++ [n] ∧ n.id = s.nn ∧ S.nn = s.nn + 1
theorem step_of {s S : Shelf} {e n : Int} (hm : e = 0 → MayP (resOf e S n).s) (hs : MayP S → Step17 s S) : (resOf e S n).s.nb = 0 ∨ Step17 s (resOf e S n).s := by
  by_cases h : e = 0
  · have h1 := hm h
    rw [resOf_ok h] at h1 ⊢
    exact .inr (hs h1)
  · rw [resOf_no h]; exact .inl rfl
theorem updN_len (id : Int) (f : Note → Note) (l : List Note) : (updN id f l).length = l.length := List.length_map _
theorem updB_len (id : Int) (t : ByteArray) (l : List Book) : (updB id t l).length = l.length := List.length_map _
theorem act17_step (s : Shelf) (x a b : Int) (t : ByteArray) : (act17R s x a b t).s.nb = 0 ∨ Step17 s (act17R s x a b t).s := by
  unfold act17R
  repeat' split
  · exact step_of make_may fun m => ⟨m, by show s.nb ≤ s.nb + 1; omega, Int.le_refl _, rfl, fun _ => ⟨t, rfl, rfl⟩, fun h => absurd h (Nat.lt_irrefl _)⟩
  · exact step_of rename_may fun m => ⟨m, Int.le_refl _, Int.le_refl _, rfl, fun h => absurd (show s.books.length < (updB a t s.books).length from h) (by rw [updB_len]; exact Nat.lt_irrefl _), fun h => absurd h (Nat.lt_irrefl _)⟩
  · exact step_of drop_may fun m => ⟨m, Int.le_refl _, Int.le_refl _, rfl, fun h => absurd (show s.books.length < (s.books.filter fun b => !(b.id == a)).length from h) (Nat.not_lt.2 (List.length_filter_le _ _)), fun h => absurd (show s.notes.length < (s.notes.filter fun n => !(n.book == a)).length from h) (Nat.not_lt.2 (List.length_filter_le _ _))⟩
  · exact step_of add_may fun m => ⟨m, Int.le_refl _, by show s.nn ≤ s.nn + 1; omega, rfl, fun h => absurd h (Nat.lt_irrefl _), fun _ => ⟨_, rfl, rfl, rfl⟩⟩
  · exact step_of retitle_may fun m => ⟨m, Int.le_refl _, Int.le_refl _, rfl, fun h => absurd h (Nat.lt_irrefl _), fun h => absurd (show s.notes.length < (updN a (fun n => { n with name := t }) s.notes).length from h) (by rw [updN_len]; exact Nat.lt_irrefl _)⟩
  · exact step_of move_may fun m => ⟨m, Int.le_refl _, Int.le_refl _, rfl, fun h => absurd h (Nat.lt_irrefl _), fun h => absurd (show s.notes.length < (updN a (fun n => { n with book := b }) s.notes).length from h) (by rw [updN_len]; exact Nat.lt_irrefl _)⟩
  · exact step_of discard_may fun m => ⟨m, Int.le_refl _, Int.le_refl _, rfl, fun h => absurd h (Nat.lt_irrefl _), fun h => absurd (show s.notes.length < (s.notes.filter fun n => !(n.id == a)).length from h) (Nat.not_lt.2 (List.length_filter_le _ _))⟩
  · exact .inl rfl
/-- The last element of a list that grew by one. -/
theorem last_get {α : Type} (l : List α) (x : α) : (l ++ [x])[l.length]? = some x := by simp
end Go.Proofs.YtnajccljdjllgaaDoor
set_option linter.unusedVariables false
set_option linter.unusedSimpArgs false
namespace Go.Proofs.YtnajccljdjllgaaDoor
open Go.RowKit Go.Lib
structure ActS where
  d : Int
  a : Int
  b : Int
  t : ByteArray
instance : Inhabited ActS := ⟨⟨0, 0, 0, ⟨#[]⟩⟩⟩
abbrev cellsActS (y : ActS) : List Value := [.int .i64 y.d, .int .i64 y.a, .int .i64 y.b, .string y.t]
def ActSR (_ : World) (y : ActS) (cs : List Value) : Prop := cs = cellsActS y
abbrev ActsS := Reads ActSR 4
theorem ActsS.grow {w W : World} {v : Value} {l : List ActS} (h : ActsS w v l) (g : Grow w W) : ActsS W v l := Reads.grow (w := w) (W := W) (fun _ _ h => h) h g
theorem ActsS.at {w : World} {a : Option Addr} {n c : Nat} {l : List ActS} (h : ActsS w (.slice a n c) l) {i : Nat} {y : ActS} (hx : l[i]? = some y) :
    ∃ b off, a = some ⟨b, off, none⟩ ∧ b < w.heap.size ∧ w.cell? ⟨b, off + i * 4, none⟩ = some (.int .i64 y.d) ∧ w.cell? ⟨b, off + i * 4 + 1, none⟩ = some (.int .i64 y.a) ∧ w.cell? ⟨b, off + i * 4 + 2, none⟩ = some (.int .i64 y.b) ∧ w.cell? ⟨b, off + i * 4 + 3, none⟩ = some (.string y.t) := by
  obtain ⟨b, off, e, hb, cs, h1, h2, h3⟩ := Reads.at h hx
  unfold ActSR at h2
  subst h2
  exact ⟨b, off, e, hb, h3 0 _ rfl, h3 1 _ rfl, h3 2 _ rfl, h3 3 _ rfl⟩
/-- Is there more than is gone through? -/
def greatA (most : Nat) (l : List ActS) : Bool := (decide (l.length ≤ most) && l.any fun x => decide (60 < x.t.size)) || decide (most < l.length)
theorem greatA_no {most : Nat} {l : List ActS} (h : greatA most l = false) : l.length ≤ most ∧ ∀ x ∈ l, x.t.size ≤ 60 := by
  unfold greatA at h
  rw [Bool.or_eq_false_iff, decide_eq_false_iff_not] at h
  have h1 : l.length ≤ most := by omega
  have h2 := h.1
  rw [decide_eq_true h1, Bool.true_and, List.any_eq_false] at h2
  exact ⟨h1, fun x hx => by have := h2 x hx; simp at this; omega⟩
set_option maxRecDepth 100000 in
set_option maxHeartbeats 1000000 in
theorem great17_any (v : Value) (l : List ActS) (m : Nat) (w : World) (h : ActsS w v l) (hm : m ≤ 1000) :
    Calls Tryd.prog 6 #[v, .int .i64 m] w fun e w' => e = .returned (.bool (greatA m l)) ∧ w' = w := by
  obtain ⟨a1, c1, rfl⟩ := h.mk
  have HH := Lib.hid h
  clear h
  go_enter Tryd.func6, Tryd.ntmps6
  go_wp2_with fail
  by_cases hl : l.length ≤ m
  · have hl' : (l.length : Int) ≤ m := by omega
    go_loop [5] (fun v5 => ∃ j : Nat, v5 = .int .i64 j ∧ j ≤ l.length ∧ ∀ (k : Nat) x, k < j → l[k]? = some x → x.t.size ≤ 60) (fun v5 => l.length - (intOf v5).toNat)
    case atStart => exact ⟨0, rfl, by omega, fun k x h => absurd h (by omega)⟩
    case round =>
      obtain ⟨j, rfl, hj, hall⟩ := hrel
      have HA := Lib.hid hall
      clear hall
      by_cases hlt : j < l.length
      · have hlt' : (j : Int) < l.length := by omega
        obtain ⟨x, hx, -⟩ := lt_get hlt
        obtain ⟨bb, off, rfl, hbb, -, -, -, p3⟩ := HH.out.at hx
        have HX := Lib.hid hx
        clear hx
        by_cases hp : 60 < x.t.size
        · have hp' : (60 : Int) < x.t.size := by omega
          have HR := Lib.hid (show greatA m l = true by unfold greatA; rw [decide_eq_true hl, Bool.true_and, List.any_eq_true.2 ⟨x, List.mem_of_getElem? HX.out, decide_eq_true hp⟩]; rfl)
          go_wp2_with fail
          go_ret
          exact ⟨ret_bool HR.out.symm, rfl⟩
        · have HP := Lib.hid hp
          have hp' : ¬ (60 : Int) < x.t.size := by omega
          go_wp2_with fail
          go_round
          case rel => exact ⟨j + 1, by go_num, by omega, fun k y hk hy => by
            rcases (by omega : k < j ∨ k = j) with h3 | rfl
            · exact HA.out k y h3 hy
            · rw [HX.out] at hy; injection hy with hy; rw [← hy]; have := HP.out; omega⟩
          case measure => simp [intOf]; omega
      · have hlt' : ¬ (j : Int) < l.length := by omega
        have hm2 : ¬ (m : Int) < l.length := by omega
        have HR := Lib.hid (show greatA m l = false by
          unfold greatA
          rw [decide_eq_false (show ¬ m < l.length by omega), Bool.or_false, Bool.and_eq_false_iff]
          exact .inr (List.any_eq_false.2 fun x hx => by
            obtain ⟨k, hk⟩ := List.getElem?_of_mem hx
            have := HA.out k x (by have := (List.getElem?_eq_some_iff.1 hk).1; omega) hk
            rw [decide_eq_true_eq]; omega))
        go_wp2_with fail
        go_ret
        exact ⟨ret_bool HR.out.symm, rfl⟩
  · have hl' : ¬ (l.length : Int) ≤ m := by omega
    have hm2 : (m : Int) < l.length := by omega
    have HR := Lib.hid (show greatA m l = true by unfold greatA; rw [decide_eq_true (show m < l.length by omega), Bool.or_true])
    go_loop [5] (fun v5 => v5 = .int .i64 0) (fun _ => 0)
    case atStart => exact rfl
    case round =>
      obtain rfl := hrel
      have h0 : 0 < l.length := by omega
      have h0' : (0 : Int) < l.length := by omega
      go_wp2_with fail
      go_ret
      exact ⟨ret_bool HR.out.symm, rfl⟩
section
variable {H : Type} {enc : TypeId × Value → H} {w : World} {spare : Nat → Bool} {held : Bool}
theorem cAs : Tryd.prog.cellsOf 32 = 4 := by kernel_rfl
set_option maxRecDepth 100000 in
theorem actS_read {fuel : Nat} {cs : List Value} {x : DataW H × List MemPlace} (h : DataW.trod enc Tryd.prog w 0 spare held fuel 32 cs = some x) : ∃ b : ActS, ActSR w b cs := by
  obtain ⟨xs, m, -, -, hl, hlen, hf⟩ := DataW.trod_struct Tryd.underlying32 h
  rw [cAs] at hl
  match cs, hl with
  | [u0, u1, u2, u3], _ =>
    have h0 := hf 0 _ rfl
    have h1 := hf 1 _ rfl
    have h2 := hf 2 _ rfl
    have h3 := hf 3 _ rfl
    change DataW.trod enc Tryd.prog w 0 spare held m 3 (([u0, u1, u2, u3].drop 0).take (Tryd.prog.cellsOf 3)) = _ at h0
    change DataW.trod enc Tryd.prog w 0 spare held m 3 (([u0, u1, u2, u3].drop 1).take (Tryd.prog.cellsOf 3)) = _ at h1
    change DataW.trod enc Tryd.prog w 0 spare held m 3 (([u0, u1, u2, u3].drop 2).take (Tryd.prog.cellsOf 3)) = _ at h2
    change DataW.trod enc Tryd.prog w 0 spare held m 9 (([u0, u1, u2, u3].drop 3).take (Tryd.prog.cellsOf 9)) = _ at h3
    rw [cI, List.getElem?_eq_getElem (by rw [hlen]; decide)] at h0 h1 h2
    rw [cS, List.getElem?_eq_getElem (by rw [hlen]; decide)] at h3
    obtain ⟨n0, e0, -, w0⟩ := DataW.trod_int Tryd.underlying3 h0
    obtain ⟨n1, e1, -, w1⟩ := DataW.trod_int Tryd.underlying3 h1
    obtain ⟨n2, e2, -, w2⟩ := DataW.trod_int Tryd.underlying3 h2
    obtain ⟨n3, e3, -, -⟩ := DataW.trod_string Tryd.underlying9 h3
    have e0' : [u0] = [Value.int .i64 n0] := e0
    have e1' : [u1] = [Value.int .i64 n1] := e1
    have e2' : [u2] = [Value.int .i64 n2] := e2
    have e3' : [u3] = [Value.string n3] := e3
    injection e0' with e0'
    injection e1' with e1'
    injection e2' with e2'
    injection e3' with e3'
    subst e0' e1' e2' e3'
    exact ⟨⟨n0, n1, n2, n3⟩, rfl⟩
set_option maxRecDepth 100000 in
theorem actsS_arg {v : Value} {d : DataW H} {ps : List MemPlace} {r : Reach} {b0 : Nat} (hv : Value.okWide Tryd.prog w r b0 22 v) (h : DataW.Trod enc Tryd.prog w 0 spare held 22 v d ps) :
    ∃ l, ActsS w v l ∧ l.length ≤ maxLen := by
  obtain ⟨l, h1, h2, -⟩ := slice_arg (R := ActSR) Tryd.underlying22 cAs (by decide) (fun _ _ _ hy => actS_read hy) hv h
  exact ⟨l, h1, h2⟩
end
end Go.Proofs.YtnajccljdjllgaaDoor
set_option linter.unusedVariables false
set_option linter.unusedSimpArgs false
namespace Go.Proofs.YtnajccljdjllgaaDoor
open Go.RowKit Go.Lib
theorem refEmpty_any (w : World) : Calls Tryd.prog 10 #[] w fun e w' => e = .returned (.agg #[.int .i64 1, .int .i64 1, .int .i64 1, .slice none 0 0, .slice none 0 0]) ∧ Grow w w' := by
  go_enter Tryd.func10, Tryd.ntmps10
  go_wp2_with fail
  refine bodyPost_ret (v := .agg #[.int .i64 1, .int .i64 1, .int .i64 1, .slice none 0 0, .slice none 0 0]) ?_ rfl ?_
  · rw [results_cell rfl]
    go_simp
  · refine ⟨rfl, ?_⟩
    repeat' (first | exact (Grow.refl w).alloc _ | refine Grow.set ?_ (Nat.le_refl _) _)
/-- The shelf in its box, between two changes. -/
structure ScrS (w : World) (B : Nat) (s : Shelf) (bk nt : Int) (xa : Option Addr) (xc : Nat) (ya : Option Addr) (yc : Nat) (W : World) : Prop where
  grow : Grow w W
  box : W.heap[B]? = some (shO s (.slice xa s.books.length xc) (.slice ya s.notes.length yc))
  own : ∃ base Y, OwnS base (.slice xa s.books.length xc) (.slice ya s.notes.length yc) s.books Y W ∧ Y.map NV.n = s.notes
  low : w.heap.size ≤ B
  may : MayP s
  bk : bk < s.nb
  nt : nt < s.nn
theorem ScrS.reads {w W : World} {B : Nat} {s : Shelf} {bk nt : Int} {xa ya : Option Addr} {xc yc : Nat} (h : ScrS w B s bk nt xa xc ya yc W) : ShelfR W s (.slice xa s.books.length xc) (.slice ya s.notes.length yc) := by
  obtain ⟨base, Y, h1, h2⟩ := h.own
  exact own_shelf h1 h2
theorem ScrS.more {w W W' : World} {B : Nat} {s : Shelf} {bk nt : Int} {xa ya : Option Addr} {xc yc : Nat} (h : ScrS w B s bk nt xa xc ya yc W) (g : Grow W W') : ScrS w B s bk nt xa xc ya yc W' := by
  obtain ⟨base, Y, h1, h2⟩ := h.own
  exact ⟨h.grow.trans g, g.blk h.box, ⟨base, Y, h1.grow g, h2⟩, h.low, h.may, h.bk, h.nt⟩
/-- The next shelf is put into the box. -/
theorem ScrS.next {w W W' : World} {B : Nat} {s S : Shelf} {bk nt bk' nt' : Int} {xa ya xa' ya' : Option Addr} {xc yc xc' yc' : Nat} (h : ScrS w B s bk nt xa xc ya yc W) (g : Grow W W') {base : Nat} {Y : List NV} (ho : OwnS base (.slice xa' S.books.length xc') (.slice ya' S.notes.length yc') S.books Y W') (hm : Y.map NV.n = S.notes) (p : MayP S) (hb : bk' < S.nb) (hn : nt' < S.nn) :
    ScrS w B S bk' nt' xa' xc' ya' yc' (set5w W' B (.int .i64 S.nb) (.int .i64 S.nn) (.int .i64 S.ns) (.slice xa' S.books.length xc') (.slice ya' S.notes.length yc')) := by
  have hbx := g.blk h.box
  obtain ⟨h1, h2⟩ := set5 hbx (.int .i64 S.nb) (.int .i64 S.nn) (.int .i64 S.ns) (.slice xa' S.books.length xc') (.slice ya' S.notes.length yc')
  exact ⟨h2.grow (h.grow.trans g) h.low, h1, ⟨base, Y, ho.kept (shelf_kept hbx h2), hm⟩, h.low, p, hb, hn⟩
set_option maxRecDepth 100000 in
set_option maxHeartbeats 8000000 in
theorem script17_walk (v : Value) (l : List ActS) (w : World) (h : ActsS w v l) (hT : Tabs w) :
    Calls Tryd.prog 3 #[v] w fun e w' => e = .returned (.bool true) ∧ Grow w w' := by
  obtain ⟨a1, c1, rfl⟩ := h.mk
  have HH := Lib.hid h
  have HTB := Lib.hid hT
  have c := great17_any (.slice a1 l.length c1) l 60 w h (by omega)
  clear h hT
  cases hg : greatA 60 l with
  | true =>
    rw [hg] at c
    have ca := awake17_any w HTB.out
    clear hg
    go_enter Tryd.func3, Tryd.ntmps3
    go_wp2_with fail
    refine c.mono ?_
    rintro e w1 ⟨rfl, rfl⟩
    go_wp2_with fail
    refine ca.mono ?_
    rintro e w2 ⟨rfl, g2⟩
    go_wp2_with fail
    go_ret
    exact ⟨rfl, g2⟩
  | false =>
    rw [hg] at c
    have HGA := Lib.hid (greatA_no hg)
    have ce := empty_any w
    clear hg
    go_enter Tryd.func3, Tryd.ntmps3
    go_wp2_with fail
    refine c.mono ?_
    rintro e w1 ⟨rfl, rfl⟩
    clear c
    go_wp2_with fail
    refine ce.mono ?_
    rintro e U ⟨rfl, gU⟩
    clear ce
    go_upto_region 4 with (fail)
    generalize hV : U.alloc (.cells #[.int .i64 1, .int .i64 1, .int .i64 1, .slice none 0 0, .slice none 0 0] 28) = V
    have gV : Grow U V := by rw [← hV]; exact (Grow.refl U).alloc _
    have hb : V.heap[U.heap.size]? = some (shO eS (.slice none 0 0) (.slice none 0 0)) := by rw [← hV]; exact heap_alloc_new U _
    have HS0 := Lib.hid (show ScrS w1 U.heap.size eS 0 0 none 0 none 0 V from ⟨gU.trans gV, hb, ⟨0, [], OwnS.nil, rfl⟩, gU.size, mayS_iff.1 may_eS, by decide, by decide⟩)
    obtain ⟨⟨p0, p1, p2, p3, p4⟩, hpz⟩ := n5 hb
    clear hV hb
    have cE := fun y : Gr V => refEmpty_any y.W
    have cS := fun y : Gr V => sameShelf_any eS eS (.slice none 0 0) (.slice none 0 0) (.slice none 0 0) (.slice none 0 0) y.W ⟨Reads.nil, Reads.nil⟩ ⟨Reads.nil, Reads.nil⟩ (mayS_iff.1 may_eS).tame.1
    simp only [rsame] at cS
    unfold shelfV eS at cS
    change V.cell? ⟨U.heap.size, 0, none⟩ = some (.int .i64 1) at p0
    change V.cell? ⟨U.heap.size, 1, none⟩ = some (.int .i64 1) at p1
    change V.cell? ⟨U.heap.size, 2, none⟩ = some (.int .i64 1) at p2
    change V.cell? ⟨U.heap.size, 3, none⟩ = some (.slice none 0 0) at p3
    change V.cell? ⟨U.heap.size, 4, none⟩ = some (.slice none 0 0) at p4
    refine wp_region_gr (by kernel_rfl) (by kernel_rfl) ?_
    repeat (go_big_quiet_step (first | (go_at_call 10; exact Calls.gr (cE _)) | (go_at_call 9; exact Calls.gr (cS _))))
    refine wpQuiet_nil ?_
    rintro _ ⟨y, rfl⟩
    have HS := Lib.hid (HS0.out.more y.g)
    generalize y.W = V1 at *
    clear cE cS p0 p1 p2 p3 p4 hpz gV HS0 y
    go_wp2_with fail
    go_loopw [4, 5, 6] (fun v4 v5 v6 wx => ∃ (j : Nat) (bk nt : Int) (s : Shelf) (xa ya : Option Addr) (xc yc : Nat), v6 = .int .i64 j ∧ v4 = .int .i64 bk ∧ v5 = .int .i64 nt ∧ j ≤ l.length ∧ ScrS w1 U.heap.size s bk nt xa xc ya yc wx) (fun _ _ v6 _ => l.length - (Go.RowKit.intOf v6).toNat)
    case atStart => exact ⟨0, 0, 0, eS, none, none, 0, 0, rfl, rfl, rfl, by omega, HS.out⟩
    case round =>
      have hl60 := HGA.out.1
      obtain ⟨j, bk, nt, s, xa, ya, xc, yc, rfl, rfl, rfl, hj, hs⟩ := hrel
      have HSR := Lib.hid hs
      clear HS
      by_cases hlt : j < l.length
      · have hlt' : (j : Int) < l.length := by omega
        obtain ⟨x, hx, -⟩ := lt_get hlt
        have HX := Lib.hid hx
        have hxt := HGA.out.2 x (List.mem_of_getElem? hx)
        obtain ⟨ab, ao, rfl, hab, x0, x1, x2, x3⟩ := (ActsS.grow HH.out hs.grow).at hx
        clear hx hs
        go_upto_region 11 with (fail)
        generalize hV : wr.alloc (.cells #[.int .i64 x.d, .int .i64 x.a, .int .i64 x.b, .string x.t] 32) = V2
        have gV2 : Grow wr V2 := by rw [← hV]; exact (Grow.refl wr).alloc _
        have hab2 : V2.heap[wr.heap.size]? = some (.cells #[.int .i64 x.d, .int .i64 x.a, .int .i64 x.b, .string x.t] 32 (0, 0)) := by rw [← hV]; exact heap_alloc_new wr _
        have hs2 := HSR.out.more gV2
        have HS2 := Lib.hid hs2
        obtain ⟨⟨p0, p1, p2, p3, p4⟩, hpz⟩ := n5 hs2.box
        obtain ⟨⟨q0, q1, q2, q3⟩, hqz⟩ := n4 hab2
        obtain ⟨S, hSe⟩ : ∃ S, (act17R s x.d x.a x.b x.t).s = S := ⟨_, rfl⟩
        have hst := act17_step s x.d x.a x.b x.t
        have c := both17_any s _ _ x.d x.a x.b x.t V2 hs2.reads hs2.may.tame (by omega) (HTB.out.below hs2.grow)
        rw [hSe] at hst c
        have HST := Lib.hid hst
        unfold shelfV at c
        have gW2 := gV2
        clear hV hab2 hs2 hst hSe x0 x1 x2 x3 gV2
        go_wp2_with fail
        refine c.mono ?_
        rintro e W ⟨xa', xc', ya', yc', Y', b2, bc2, n2, nc2, rfl, ho, hm, g⟩
        clear c p0 p1 p2 p3 p4 hpz q0 q1 q2 q3 hqz
        have HO := Lib.hid ho
        have HM := Lib.hid hm
        have HG := Lib.hid g
        clear ho hm g
        go_upto_region 12 with (fail)
        generalize hV : (W.alloc (.cells #[.int .i64 S.nb, .int .i64 S.nn, .int .i64 S.ns, .slice xa' S.books.length xc', .slice ya' S.notes.length yc'] 28)).alloc (.cells #[.int .i64 S.nb, .int .i64 S.nn, .int .i64 S.ns, .slice b2 S.books.length bc2, .slice n2 S.notes.length nc2] 28) = V3
        have gV3 : Grow W V3 := by rw [← hV]; exact ((Grow.refl W).alloc _).alloc _
        have ha3 : V3.heap[W.heap.size]? = some (shO S (.slice xa' S.books.length xc') (.slice ya' S.notes.length yc')) := by rw [← hV]; exact ((Grow.refl _).alloc _).blk (heap_alloc_new W _)
        have HA3 := Lib.hid ha3
        obtain ⟨⟨p0, p1, p2, p3, p4⟩, hpz⟩ := n5 ha3
        clear hV ha3
        rcases HST.out with hz0 | hsp
        · have hz1 : (S.nb == 0) = true := by rw [hz0]; rfl
          have HSE := Lib.hid (HSR.out.more (gW2.trans (HG.out.trans gV3)))
          clear hz0
          go_wp2_with fail
          go_roundw
          case rel => exact ⟨j + 1, bk, nt, s, xa, ya, xc, yc, by go_num, rfl, rfl, by omega, HSE.out⟩
          case measure => simp [Go.RowKit.intOf]; omega
        · have HSP := Lib.hid hsp
          have hz1 : (S.nb == 0) = false := by rw [beq_eq_false_iff_ne]; have := hsp.may.nb; omega
          have hms := mayS_iff.2 hsp.may
          have cM := mayS_any S _ _ V3 (own_shelf (HO.out.grow gV3) HM.out) hsp.may.tame (HTB.out.below (HS2.out.grow.trans (HG.out.trans gV3)))
          rw [hms] at cM
          have hl1 : ¬ S.nb < s.nb := by have := hsp.nb; omega
          have hl2 : ¬ S.nn < s.nn := by have := hsp.nn; omega
          have hl3 : (S.ns != s.ns) = false := by rw [hsp.ns]; simp
          have q9 := n5 (HS2.out.more (HG.out.trans gV3)).box
          clear hsp hms
          unfold shelfV at cM
          go_wp2_with fail
          refine cM.mono ?_
          rintro e V4 ⟨rfl, g4⟩
          have G24 := Lib.hid (HG.out.trans (gV3.trans g4))
          have HO4 := Lib.hid (HO.out.grow (gV3.trans g4))
          have HRD := Lib.hid (own_shelf HO4.out HM.out)
          have HS4 := Lib.hid (HS2.out.more G24.out)
          clear cM p0 p1 p2 p3 p4 hpz q9
          obtain ⟨⟨p0, p1, p2, p3, p4⟩, hpz⟩ := n5 (g4.blk HA3.out)
          obtain ⟨⟨q0, q1, q2, q3, q4⟩, hqz⟩ := n5 HS4.out.box
          have f0 := frozen_of_row V4 U.heap.size 0 _ _ HS4.out.box
          have f1 := frozen_of_row V4 U.heap.size 1 _ _ HS4.out.box
          have f2 := frozen_of_row V4 U.heap.size 2 _ _ HS4.out.box
          have f3 := frozen_of_row V4 U.heap.size 3 _ _ HS4.out.box
          have f4 := frozen_of_row V4 U.heap.size 4 _ _ HS4.out.box
          clear gV3 g4
          by_cases hbk : s.books.length < S.books.length
          · obtain ⟨tt, hb1, hb3⟩ := HSP.out.bk hbk
            have hbk' : (s.books.length : Int) < S.books.length := by omega
            have hbl : S.books.length = s.books.length + 1 := by rw [hb1, List.length_append]; rfl
            have hii : ((S.books.length : Int) - 1) = (s.books.length : Int) := by omega
            have hx1 : S.books[s.books.length]? = some ⟨s.nb, tt⟩ := by rw [hb1]; exact last_get _ _
            obtain ⟨bb2, bo2, eb2, hbb2, k0, -⟩ := HRD.out.1.at hx1
            subst eb2
            have HB3 := Lib.hid hb3
            have hbn1 : bk < s.nb := HS2.out.bk
            have hkb : ¬ s.nb ≤ bk := by omega
            have hl6 : S.books.length ≤ 6 := HSP.out.may.bl
            clear hb1 hb3 hbl hx1
            by_cases hnt : s.notes.length < S.notes.length
            · obtain ⟨n, hn1, hn2, hn3⟩ := HSP.out.nt hnt
              have hnt' : (s.notes.length : Int) < S.notes.length := by omega
              have hnl : S.notes.length = s.notes.length + 1 := by rw [hn1, List.length_append]; rfl
              have hii2 : ((S.notes.length : Int) - 1) = (s.notes.length : Int) := by omega
              have hx2 : S.notes[s.notes.length]? = some n := by rw [hn1]; exact last_get _ _
              obtain ⟨nb2, no2, -, -, en2, hnb2, m0, -, -, -, -, -, -⟩ := HRD.out.2.at hx2
              subst en2
              rw [hn2] at m0
              have HN3 := Lib.hid hn3
              have hbn : nt < s.nn := HS2.out.nt
              have hkn : ¬ s.nn ≤ nt := by omega
              have hl12 : S.notes.length ≤ 12 := HSP.out.may.nl
              clear hn1 hn2 hn3 hnl hx2
              have HNX := Lib.hid (ScrS.next (bk' := s.nb) (nt' := s.nn) HS2.out G24.out HO4.out HM.out HSP.out.may (by rw [HB3.out]; omega) (by rw [HN3.out]; omega))
              unfold set5w at HNX
              go_wp2_with fail
              go_roundw
              case rel => exact ⟨j + 1, _, _, S, _, _, xc', yc', by go_num, rfl, rfl, by omega, HNX.out⟩
              case measure => simp [Go.RowKit.intOf]; omega
            · have hnt' : ¬ (s.notes.length : Int) < S.notes.length := by omega
              have HNX := Lib.hid (ScrS.next (bk' := s.nb) (nt' := nt) HS2.out G24.out HO4.out HM.out HSP.out.may (by rw [HB3.out]; omega) (by have := HSP.out.nn; have := HS2.out.nt; omega))
              unfold set5w at HNX
              go_wp2_with fail
              go_roundw
              case rel => exact ⟨j + 1, _, _, S, _, _, xc', yc', by go_num, rfl, rfl, by omega, HNX.out⟩
              case measure => simp [Go.RowKit.intOf]; omega
          · have hbk' : ¬ (s.books.length : Int) < S.books.length := by omega
            by_cases hnt : s.notes.length < S.notes.length
            · obtain ⟨n, hn1, hn2, hn3⟩ := HSP.out.nt hnt
              have hnt' : (s.notes.length : Int) < S.notes.length := by omega
              have hnl : S.notes.length = s.notes.length + 1 := by rw [hn1, List.length_append]; rfl
              have hii2 : ((S.notes.length : Int) - 1) = (s.notes.length : Int) := by omega
              have hx2 : S.notes[s.notes.length]? = some n := by rw [hn1]; exact last_get _ _
              obtain ⟨nb2, no2, -, -, en2, hnb2, m0, -, -, -, -, -, -⟩ := HRD.out.2.at hx2
              subst en2
              rw [hn2] at m0
              have HN3 := Lib.hid hn3
              have hbn : nt < s.nn := HS2.out.nt
              have hkn : ¬ s.nn ≤ nt := by omega
              have hl12 : S.notes.length ≤ 12 := HSP.out.may.nl
              clear hn1 hn2 hn3 hnl hx2
              have HNX := Lib.hid (ScrS.next (bk' := bk) (nt' := s.nn) HS2.out G24.out HO4.out HM.out HSP.out.may (by have := HSP.out.nb; have := HS2.out.bk; omega) (by rw [HN3.out]; omega))
              unfold set5w at HNX
              go_wp2_with fail
              go_roundw
              case rel => exact ⟨j + 1, _, _, S, _, _, xc', yc', by go_num, rfl, rfl, by omega, HNX.out⟩
              case measure => simp [Go.RowKit.intOf]; omega
            · have hnt' : ¬ (s.notes.length : Int) < S.notes.length := by omega
              have HNX := Lib.hid (ScrS.next (bk' := bk) (nt' := nt) HS2.out G24.out HO4.out HM.out HSP.out.may (by have := HSP.out.nb; have := HS2.out.bk; omega) (by have := HSP.out.nn; have := HS2.out.nt; omega))
              unfold set5w at HNX
              go_wp2_with fail
              go_roundw
              case rel => exact ⟨j + 1, _, _, S, _, _, xc', yc', by go_num, rfl, rfl, by omega, HNX.out⟩
              case measure => simp [Go.RowKit.intOf]; omega
      · have hlt' : ¬ (j : Int) < l.length := by omega
        have ca := awake17_any wr (HTB.out.below hs.grow)
        go_wp2_with fail
        refine ca.mono ?_
        rintro e w2 ⟨rfl, g2⟩
        go_wp2_with fail
        go_ret
        exact ⟨rfl, HSR.out.grow.trans g2⟩
end Go.Proofs.YtnajccljdjllgaaDoor
