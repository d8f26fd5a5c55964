/- SameItems, Empty; the awake of chapter 17. -/
import Derived.Test.YtieohecgoaakmaaDoorOut
import Derived.Test.YtieohecgoaakmaaDoorBooks
import Derived.Test.YtieohecgoaakmaaDoorCMake
import Derived.Laws.StructEq
import Derived.StillTailTactics
set_option linter.unusedVariables false
set_option linter.unusedSimpArgs false
namespace Go.Proofs.YtieohecgoaakmaaDoor
open Go.RowKit Go.Lib
theorem Items.grow {w W : World} {v : Value} {l : List Item} (h : Items w v l) (g : Grow w W) : Items W v l := Reads.grow (w := w) (W := W) (fun _ _ h => h) h g
theorem Items.at {w : World} {a : Option Addr} {n c : Nat} {l : List Item} (h : Items w (.slice a n c) l) {i : Nat} {x : Item} (hx : l[i]? = some x) :
    ∃ b off, a = some ⟨b, off, none⟩ ∧ b < w.heap.size ∧ w.cell? ⟨b, off + i * 2, none⟩ = some (.int .i64 x.id) ∧ w.cell? ⟨b, off + i * 2 + 1, none⟩ = some (.string x.name) := by
  obtain ⟨b, off, e, hb, cs, h1, h2, h3⟩ := Reads.at h hx
  exact ⟨b, off, e, hb, h3 0 _ (by rw [h2]; rfl), h3 1 _ (by rw [h2]; rfl)⟩
theorem row_items {base : Nat} {v : Value} {l : List Item} {w : World} (h : RowO base 34 2 v l.length (l.flatMap itemC) w) : Items w v l := h.reads fun i x hx => flat_part itemC (fun _ => rfl) hx
theorem eqItem (x y : Item) (w : World) : (Op.equalIn 10000 34 (.agg #[.int .i64 x.id, .string x.name]) (.agg #[.int .i64 y.id, .string y.name])).run Tryd.prog w = .ok (x.id == y.id && x.name.toList == y.name.toList) w := by
  refine eq_struct (d := 9999) Tryd.underlying34 (by kernel_rfl) ?_
  refine eqf_more (by rfl) (by go_simp; rfl) (by go_simp; rfl) (by go_simp) ?_
  exact eqf_one (by rfl) (by go_simp; rfl) (by go_simp; rfl) (by go_simp)
theorem neqItem (x y : Item) (r : Bool) (h : (x.id == y.id && x.name.toList == y.name.toList) = r) (w : World) : (binOp .neq 34 (.agg #[.int .i64 x.id, .string x.name]) (.agg #[.int .i64 y.id, .string y.name])).run Tryd.prog w = .ok (.bool (!r)) w := by
  rw [run_neq_struct, eqItem, h]; rfl
theorem eqlItem (x y : Item) (r : Bool) (h : (x.id == y.id && x.name.toList == y.name.toList) = r) (w : World) : (binOp .eql 34 (.agg #[.int .i64 x.id, .string x.name]) (.agg #[.int .i64 y.id, .string y.name])).run Tryd.prog w = .ok (.bool r) w := by
  rw [run_eql_struct, eqItem, h]; rfl
set_option maxRecDepth 100000 in
theorem sameItems_any (va vb : Value) (l m : List Item) (w : World) (hl : Items w va l) (hm : Items w vb m) (hz : l.length ≤ 1000000000) :
    Calls Tryd.prog 35 #[va, vb] w fun e w' => e = .returned (.bool (same l m)) ∧ Grow w w' := by
  obtain ⟨a, c, rfl⟩ := hl.mk
  obtain ⟨a', c', rfl⟩ := hm.mk
  by_cases hlm : l.length = m.length
  · have hn : ((l.length : Int) != (m.length : Int)) = false := by rw [hlm]; simp
    have HLM := Lib.hid hlm
    clear hlm
    go_enter Tryd.func35, Tryd.ntmps35
    go_wp2
    go_loopw [5] (fun v5 wx => Grow w wx ∧ ∃ i : Nat, v5 = .int .i64 i ∧ i ≤ l.length ∧ ∀ j x y, j < i → l[j]? = some x → m[j]? = some y → x = y) (fun v5 _ => l.length - (intOf v5).toNat)
    case atStart => exact ⟨Grow.refl _, 0, rfl, by omega, fun j _ _ h => absurd h (by omega)⟩
    case round =>
      obtain ⟨hg, i, rfl, hi, hall⟩ := hrel
      have HA := Lib.hid hall
      clear hall hn
      by_cases hlt : i < l.length
      · have hlt' : (i : Int) < l.length := by omega
        have hlm' : (i : Int) < m.length := by have := HLM.out; omega
        obtain ⟨x, hx, -⟩ := lt_get hlt
        obtain ⟨y, hy, -⟩ := lt_get (l := m) (i := i) (by omega)
        obtain ⟨b, off, rfl, -, hc, hd⟩ := (hl.grow hg).at hx
        obtain ⟨b', off', rfl, -, hc', hd'⟩ := (hm.grow hg).at hy
        have HX := Lib.hid hx
        have HY := Lib.hid hy
        clear hx hy hl hm
        by_cases hxy : x = y
        · have hq := neqItem x y true (by rw [hxy]; simp)
          have HXY := Lib.hid hxy
          clear hxy
          go_wp2
          go_quiet (fail)
          go_wp2
          go_roundw
          case rel => exact ⟨hg.drewN _, i + 1, by go_num, by omega, fun j x' y' hj h1 h2 => by
            rcases (by omega : j < i ∨ j = i) with h3 | rfl
            · exact HA.out j x' y' h3 h1 h2
            · rw [HX.out] at h1; rw [HY.out] at h2; injection h1 with h1; injection h2 with h2; rw [← h1, ← h2]; exact HXY.out⟩
          case measure => simp [intOf]; omega
        · have hq : (x.id == y.id && x.name.toList == y.name.toList) = false := by
            rw [Bool.eq_false_iff]; intro e; rw [Bool.and_eq_true, beq_iff_eq, beq_iff_eq] at e
            exact hxy (by cases x; cases y; simp only [Item.mk.injEq]; exact ⟨e.1, eq_of_tl e.2⟩)
          replace hq := neqItem x y false hq
          have HR := Lib.hid (same_no (a := l) (b := m) (fun e => hxy (by have h1 := HX.out; rw [e, HY.out] at h1; injection h1 with h1; exact h1.symm)))
          clear hxy
          go_wp2
          go_quiet (fail)
          go_wp2
          go_ret
          exact ⟨ret_bool HR.out.symm, hg.drewN _⟩
      · have HR := Lib.hid (same_yes (list_same HLM.out (fun j x y h1 h2 => HA.out j x y (by have := (List.getElem?_eq_some_iff.1 h1).1; omega) h1 h2)))
        have hlt' : ¬ (i : Int) < l.length := by omega
        clear hl hm
        go_wp2
        go_ret
        exact ⟨ret_bool HR.out.symm, hg⟩
  · have hn : ((l.length : Int) != (m.length : Int)) = true := by rw [bne_iff_ne]; omega
    have HR := Lib.hid (same_no (a := l) (b := m) (fun e => hlm (by rw [e])))
    clear hlm hl hm
    go_enter Tryd.func35, Tryd.ntmps35
    go_wp2
    go_ret
    exact ⟨ret_bool HR.out.symm, Grow.refl _⟩
def eS : Shelf := ⟨1, 1, 1, [], []⟩
def tb : ByteArray := ⟨#[98]⟩
def ta : ByteArray := ⟨#[97]⟩
def s1 : Shelf := ⟨2, 1, 1, [⟨1, tb⟩], []⟩
def s2 : Shelf := ⟨3, 1, 1, [⟨1, tb⟩, ⟨2, ta⟩], []⟩
theorem may_eS : mayS eS = true := by decide +kernel
theorem may_s1 : mayS s1 = true := by decide +kernel
theorem may_s2 : mayS s2 = true := by decide +kernel
theorem make_1 : makeR eS tb = ⟨s1, 1, 0⟩ := by
  have : makeE eS tb = 0 := by decide +kernel
  rw [makeR, resOf_ok this]; rfl
theorem make_2 : makeR s1 ta = ⟨s2, 2, 0⟩ := by
  have : makeE s1 ta = 0 := by decide +kernel
  rw [makeR, resOf_ok this]; rfl
theorem make_3 : makeR s2 ta = ⟨zS, 0, 7⟩ := by
  have : makeE s2 ta = 7 := by decide +kernel
  rw [makeR, resOf_no (by rw [this]; decide), this]; rfl
theorem books_2 : booksI s2 = [⟨2, ta⟩, ⟨1, tb⟩] := by
  have h1 : ltS tb ta = false := by decide +kernel
  rw [booksI, if_pos may_s2]
  show insI ⟨2, ta⟩ [⟨1, tb⟩] = _
  simp only [insI, h1]; rfl
set_option maxRecDepth 100000 in
theorem empty_any (w : World) : Calls Tryd.prog 34 #[] w fun e w' => e = .returned (.agg #[.int .i64 1, .int .i64 1, .int .i64 1, .slice none 0 0, .slice none 0 0]) ∧ Grow w w' := by
  go_enter Tryd.func34, Tryd.ntmps34
  go_wp2_with fail
  refine bodyPost_ret (v := .agg #[.int .i64 1, .int .i64 1, .int .i64 1, .slice none 0 0, .slice none 0 0]) ?_ rfl ?_
  · rw [results_cell rfl]
    go_simp
  · refine ⟨rfl, ?_⟩
    repeat' (first | with_reducible exact (Grow.refl w).alloc _ | with_reducible refine Grow.set ?_ (by first | (simp; done) | (simp; omega)) _)
end Go.Proofs.YtieohecgoaakmaaDoor
