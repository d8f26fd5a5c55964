/- The reference's map: where pages stand, in a row of numbers. -/
import Derived.Test.YtcfkpaijlibjaaaTurnL
import Derived.Test.YtcfkpaijlibjaaaGeo5
set_option linter.unusedVariables false
set_option linter.unusedSimpArgs false
namespace Go.Proofs.Ytcfkpaijlibjaaa
open Go.RowKit Go.Lib Go.Maps
def encP (g : Geo) : Option Pl → Int
  | none => -1
  | some p => numG g p.b p.p
def logN (g : Geo) : Nat := (logG g).toNat
def refL (g : Geo) (A : Int → Option Pl) : List Int := (List.range (logN g)).map fun i : Nat => encP g (A i)
theorem refL_length (g : Geo) (A : Int → Option Pl) : (refL g A).length = logN g := by unfold refL; simp
theorem refL_get {g : Geo} {A : Int → Option Pl} {i : Nat} (h : i < logN g) : (refL g A)[i]? = some (encP g (A i)) := by
  unfold refL; rw [List.getElem?_map, List.getElem?_range h]; rfl
theorem logN_bd {g : Geo} (hm : mayG g = true) : 4 ≤ logN g ∧ logN g ≤ 66 ∧ ((logN g : Nat) : Int) = logG g := by
  have hb := mayG_bd hm
  have := half_bd (x := g.blocks - g.spares - 3) (p := g.pages) (by omega) (by omega) (by omega) (by omega)
  have h3 : halfI g = ((g.blocks - g.spares - 3) * g.pages - 4) / 2 := rfl
  unfold logN logG
  rw [hm]
  simp only [if_true]
  omega
theorem num_dec {g : Geo} {b p : Int} (hm : mayG g = true) (h : 0 ≤ numG g b p) : numG g b p = b * g.pages + p ∧ 0 ≤ b ∧ b < g.blocks ∧ 0 ≤ p ∧ p < g.pages := by
  unfold numG at h ⊢
  rw [hm] at h ⊢
  simp only [if_true] at h ⊢
  cases e : isG g b p with
  | false => rw [e] at h; simp at h
  | true =>
    simp only [if_true]
    unfold isG at e
    simp only [Bool.and_eq_true, inI_iff] at e
    exact ⟨trivial, by omega, by omega, by omega, by omega⟩
theorem num_div {g : Geo} {b p : Int} (hm : mayG g = true) (h : 0 ≤ numG g b p) : numG g b p / g.pages = b ∧ numG g b p % g.pages = p ∧ numG g b p ≤ 159 := by
  obtain ⟨e, h1, h2, h3, h4⟩ := num_dec hm h
  have hb := mayG_bd hm
  have hp : 0 < g.pages := by omega
  have h5 : b * g.pages ≤ 19 * g.pages := Int.mul_le_mul_of_nonneg_right (by omega) (by omega)
  rw [e]
  refine ⟨?_, ?_, by omega⟩
  · rw [Int.add_comm, Int.add_mul_ediv_right _ _ (by omega), Int.ediv_eq_zero_of_lt h3 h4, Int.zero_add]
  · rw [Int.add_comm, Int.add_mul_emod_self_right]; exact Int.emod_eq_of_lt h3 h4
theorem num_inj {g : Geo} {p q : Pl} (hm : mayG g = true) (hp : 0 ≤ numG g p.b p.p) (e : numG g p.b p.p = numG g q.b q.p) : p = q := by
  obtain ⟨a1, a2, -⟩ := num_div hm hp
  obtain ⟨b1, b2, -⟩ := num_div hm (e ▸ hp)
  rw [e] at a1 a2
  obtain ⟨pb, pp⟩ := p
  obtain ⟨qb, qp⟩ := q
  simp only at a1 a2 b1 b2
  rw [show pb = qb from a1.symm.trans b1, show pp = qp from a2.symm.trans b2]
theorem num_low (g : Geo) (b p : Int) (hm : mayG g = true) : numG g b p = -1 ∨ 0 ≤ numG g b p := by
  unfold numG
  rw [hm]
  simp only [if_true]
  cases e : isG g b p with
  | false => left; rfl
  | true =>
    right
    simp only [if_true]
    unfold isG at e
    simp only [Bool.and_eq_true, inI_iff] at e
    have hb := mayG_bd hm
    have := Int.mul_nonneg e.1.2.1 (show 0 ≤ g.pages by omega)
    omega
theorem isG_num {g : Geo} {b p : Int} (hm : mayG g = true) : isG g b p = decide (0 ≤ numG g b p) := by
  cases e : isG g b p with
  | false =>
    have : numG g b p = -1 := by unfold numG; rw [hm, e]; rfl
    rw [this]; rfl
  | true =>
    rcases num_low g b p hm with h | h
    · exfalso
      have hh : numG g b p = b * g.pages + p := by unfold numG; rw [hm, e]; rfl
      unfold isG at e
      simp only [Bool.and_eq_true, inI_iff] at e
      have hb := mayG_bd hm
      have := Int.mul_nonneg e.1.2.1 (show 0 ≤ g.pages by omega)
      omega
    · rw [decide_eq_true h]
/-- What stands at a page's number. -/
theorem enc_bd {g : Geo} {A : Int → Option Pl} {H : Pl → Option Int} (t : Two g A H) (hm : mayG g = true) (x : Int) : -1 ≤ encP g (A x) ∧ encP g (A x) ≤ 159 ∧ ((A x).isSome = true ↔ 0 ≤ encP g (A x)) := by
  cases e : A x with
  | none => simp [encP]
  | some p =>
    have := t.place x p e
    have h2 := (num_div hm this).2.2
    simp only [encP, Option.isSome_some, true_iff]
    omega
abbrev refO (g : Geo) (v : Value) : Obj := .cells #[.int .i64 g.blocks, .int .i64 g.pages, .int .i64 g.bytes, .int .i64 g.spares, .int .i64 g.trigger, v] 82
/-- Block R is the reference's map, its row in block b. -/
def RSt (base : Nat) (w : World) (R b c : Nat) (g : Geo) (A : Int → Option Pl) : Prop :=
  base ≤ R ∧ w.heap[R]? = some (refO g (.slice (some ⟨b, 0, none⟩) (logN g) c)) ∧ w.ownsRow base 3 1 (.slice (some ⟨b, 0, none⟩) (logN g) c) (logN g) ((refL g A).map (Value.int .i64))
theorem ref6 {w : World} {b : Nat} {t : TypeId} {m : Nat × Nat} {u0 u1 u2 u3 u4 u5 : Value} (hb : w.heap[b]? = some (.cells #[u0, u1, u2, u3, u4, u5] t m)) :
    w.cell? ⟨b, 0, none⟩ = some u0 ∧ w.cell? ⟨b, 1, none⟩ = some u1 ∧ w.cell? ⟨b, 2, none⟩ = some u2 ∧ w.cell? ⟨b, 3, none⟩ = some u3 ∧ w.cell? ⟨b, 4, none⟩ = some u4 ∧ w.cell? ⟨b, 5, none⟩ = some u5 :=
  ⟨(cell_of_row w b 0 _ _ _ hb).trans rfl, (cell_of_row w b 1 _ _ _ hb).trans rfl, (cell_of_row w b 2 _ _ _ hb).trans rfl, (cell_of_row w b 3 _ _ _ hb).trans rfl, (cell_of_row w b 4 _ _ _ hb).trans rfl, (cell_of_row w b 5 _ _ _ hb).trans rfl⟩
section
variable {base : Nat} {w w' : World} {R b c : Nat} {g : Geo} {A : Int → Option Pl}
theorem RSt.grow (s : RSt base w R b c g A) (e : Grow w w') : RSt base w' R b c g A :=
  ⟨s.1, e.blk s.2.1, s.2.2.kept (row := none) ⟨e.os, e.tape, e.output, e.size, fun i hi _ => Below.block e i hi⟩ (.inr (by simp [Value.ownBlock]))⟩
theorem RSt.row (s : RSt base w R b c g A) : ∃ cur : Array Value, w.heap[b]? = some (.cells cur 3 (0, 0)) := by
  rcases s.2.2.2 with ⟨h, _⟩ | ⟨g', cap, cur, h, _, hg, _⟩
  · cases h
  · injection h with h1 h2 h3
    injection h1 with h1
    injection h1 with h1
    subst h1
    exact ⟨cur, hg⟩
theorem RSt.lt (s : RSt base w R b c g A) : base ≤ b ∧ b < w.heap.size := s.2.2.lt b rfl
theorem RSt.ne (s : RSt base w R b c g A) : R ≠ b := by
  rintro rfl
  obtain ⟨cur, h⟩ := s.row
  rw [s.2.1] at h
  injection h with h
  injection h with h1 h2 h3
  exact absurd h2 (by decide)
theorem RSt.cell (s : RSt base w R b c g A) {i : Nat} (hi : i < logN g) : w.cell? ⟨b, i, none⟩ = some (.int .i64 (encP g (A i))) := by
  rw [s.2.2.cellAt i (by omega), List.getElem?_map, refL_get hi]; rfl
theorem RSt.kept (s : RSt base w R b c g A) {x h : Nat} (e : Turn2 x h w w') (hx : ∃ es k, w.heap[x]? = some (.map es k)) (hh : ∃ es k, w.heap[h]? = some (.map es k)) : RSt base w' R b c g A := by
  have hR : R ≠ x ∧ R ≠ h := ⟨(by rintro rfl; obtain ⟨_, _, h⟩ := hx; rw [s.2.1] at h; cases h), (by rintro rfl; obtain ⟨_, _, h⟩ := hh; rw [s.2.1] at h; cases h)⟩
  obtain ⟨cur, hc⟩ := s.row
  have hb : b ≠ x ∧ b ≠ h := ⟨(by rintro rfl; obtain ⟨_, _, h⟩ := hx; rw [hc] at h; cases h), (by rintro rfl; obtain ⟨_, _, h⟩ := hh; rw [hc] at h; cases h)⟩
  refine ⟨s.1, (e.block R (Array.getElem?_eq_some_iff.1 s.2.1).1 hR.1 hR.2).trans s.2.1, ?_⟩
  have e1 := (e.block b s.lt.2 hb.1 hb.2).trans hc
  rcases s.2.2.2 with ⟨h, _⟩ | ⟨g', cap, cur', h, h2, hg, h3⟩
  · cases h
  · injection h with h1 h4 h5
    injection h1 with h1
    injection h1 with h1
    subst h1 h5
    rw [hc] at hg
    injection hg with hg
    injection hg with hg
    subst hg
    exact ⟨s.2.2.1, .inr ⟨_, _, _, rfl, h2, e1, h3⟩⟩
/-- A page is written. -/
theorem RSt.set (s : RSt base w R b c g A) {i : Nat} (hi : i < logN g) {A' : Int → Option Pl} (hA : ∀ j : Nat, j < logN g → encP g (A' j) = if j = i then encP g (A' i) else encP g (A j)) :
    RSt base (w.setCell ⟨b, i, none⟩ (.int .i64 (encP g (A' i)))) R b c g A' ∧ Turned b w (w.setCell ⟨b, i, none⟩ (.int .i64 (encP g (A' i)))) := by
  have h := s.2.2.stored i (.int .i64 (encP g (A' i)))
  have ht := Turned.of_grown h.2
  refine ⟨⟨s.1, (ht.block R (Array.getElem?_eq_some_iff.1 s.2.1).1 s.ne).trans s.2.1, ?_⟩, ht⟩
  have e : ((refL g A).map (Value.int .i64)).set i (.int .i64 (encP g (A' i))) = (refL g A').map (Value.int .i64) := by
    apply List.ext_getElem?
    intro j
    rw [List.getElem?_set, List.length_map, refL_length, List.getElem?_map, List.getElem?_map]
    by_cases hj : j < logN g
    · rw [refL_get hj, refL_get hj, hA j hj]
      by_cases e : i = j
      · subst e; rw [if_pos rfl, if_pos hi, if_pos rfl]; rfl
      · rw [if_neg e, if_neg (fun h => e h.symm)]
    · have h1 : (refL g A)[j]? = none := List.getElem?_eq_none (by rw [refL_length]; omega)
      have h2 : (refL g A')[j]? = none := List.getElem?_eq_none (by rw [refL_length]; omega)
      rw [h1, h2]
      by_cases e : i = j
      · subst e; omega
      · rw [if_neg e]
  rw [← e]; exact h.1
end
theorem MSt.kept {w w' : World} {B a h : Nat} {g : Geo} {n : Nat} {A : Int → Option Pl} {H : Pl → Option Int} (s : MSt w B a h g n A H) {b : Nat} {cur : Array Value} (hb : w.heap[b]? = some (.cells cur 3 (0, 0))) (e : Turned b w w') : MSt w' B a h g n A H := by
  have hB : B ≠ b := by
    rintro rfl
    rw [s.1] at hb
    injection hb with hb
    injection hb with h1 h2 h3
    exact absurd h2 (by decide)
  have ha : a ≠ b := by rintro rfl; obtain ⟨D, ⟨es, c, h1, _⟩, _⟩ := s.2.1; rw [h1] at hb; cases hb
  have hh : h ≠ b := by rintro rfl; obtain ⟨D, ⟨es, c, h1, _⟩, _⟩ := s.2.2.1; rw [h1] at hb; cases hb
  exact ⟨(e.block B (Array.getElem?_eq_some_iff.1 s.1).1 hB).trans s.1, GMap.kept s.2.1 (e.block a s.2.1.lt ha), GMap.kept s.2.2.1 (e.block h s.2.2.1.lt hh), s.2.2.2⟩
theorem MSt.maps {w : World} {B a h : Nat} {g : Geo} {n : Nat} {A : Int → Option Pl} {H : Pl → Option Int} (s : MSt w B a h g n A H) : (∃ es k, w.heap[a]? = some (.map es k)) ∧ ∃ es k, w.heap[h]? = some (.map es k) := by
  obtain ⟨D, ⟨es, c, h1, _⟩, _⟩ := s.2.1
  obtain ⟨D', ⟨es', c', h2, _⟩, _⟩ := s.2.2.1
  exact ⟨⟨_, _, h1⟩, _, _, h2⟩
end Go.Proofs.Ytcfkpaijlibjaaa
