/- MapsTurn: the plain law. -/
import Derived.Test.YtcfkpaijlibjaaaAwk
set_option linter.unusedVariables false
set_option linter.unusedSimpArgs false
namespace Go.Proofs.Ytcfkpaijlibjaaa
/-- Pages and places are one to one, and all are in their bounds. -/
structure Two (g : Geo) (A : Int → Option Pl) (H : Pl → Option Int) : Prop where
  one : ∀ x p, A x = some p → H p = some x
  back : ∀ x p, H p = some x → A x = some p
  page : ∀ x p, A x = some p → 0 ≤ x ∧ x < logG g
  place : ∀ x p, A x = some p → 0 ≤ numG g p.b p.p
theorem Two.start (g : Geo) : Two g noA noH := ⟨fun _ _ h => (by cases h), fun _ _ h => (by cases h), fun _ _ h => (by cases h), fun _ _ h => (by cases h)⟩
theorem Two.drop {g : Geo} {A : Int → Option Pl} {H : Pl → Option Int} (t : Two g A H) (x : Int) : Two g (dropA A x) (dropH A H x) := by
  have hA : ∀ y q, dropA A x y = some q ↔ y ≠ x ∧ A y = some q := fun y q => by unfold dropA; by_cases e : y = x <;> simp [e]
  have hH : ∀ y q, dropH A H x q = some y ↔ y ≠ x ∧ H q = some y := fun y q => by
    unfold dropH
    cases e : A x with
    | none =>
      simp only
      constructor
      · intro h
        refine ⟨fun e2 => ?_, h⟩
        have := t.back y q h
        rw [e2, e] at this; cases this
      · exact fun h => h.2
    | some p =>
      simp only
      by_cases e2 : q = p
      · rw [if_pos e2]
        constructor
        · intro h; cases h
        · rintro ⟨h1, h2⟩
          have h3 := t.one x p e
          rw [e2, h3] at h2
          exact absurd (Option.some.inj h2).symm h1
      · rw [if_neg e2]
        constructor
        · intro h
          refine ⟨fun e3 => ?_, h⟩
          have := t.back y q h
          rw [e3, e] at this
          exact e2 (Option.some.inj this).symm
        · exact fun h => h.2
  exact ⟨fun y q h => (hH y q).2 ⟨((hA y q).1 h).1, t.one y q ((hA y q).1 h).2⟩, fun y q h => (hA y q).2 ⟨((hH y q).1 h).1, t.back y q ((hH y q).1 h).2⟩, fun y q h => t.page y q ((hA y q).1 h).2, fun y q h => t.place y q ((hA y q).1 h).2⟩
theorem Two.put {g : Geo} {A : Int → Option Pl} {H : Pl → Option Int} (t : Two g A H) (x : Int) (p : Pl) (ok : putOk g H x p = true) : Two g (putA A x p) (putH A H x p) := by
  unfold putOk at ok
  simp only [Bool.and_eq_true, decide_eq_true_eq, Bool.not_eq_true'] at ok
  obtain ⟨⟨⟨h1, h2⟩, h3⟩, h4⟩ := ok
  have d := t.drop x
  have hfree : ∀ y, dropA A x y = some p → False := fun y h => by
    have hy : y ≠ x ∧ A y = some p := by unfold dropA at h; by_cases e : y = x; · rw [if_pos e] at h; cases h
                                         · rw [if_neg e] at h; exact ⟨e, h⟩
    have := t.one y p hy.2
    unfold takenH at h4
    rw [this] at h4
    exact hy.1 (by simpa using h4)
  have hx : dropA A x x = none := by unfold dropA; rw [if_pos rfl]
  refine ⟨fun y q h => ?_, fun y q h => ?_, fun y q h => ?_, fun y q h => ?_⟩
  · unfold putA at h
    unfold putH
    by_cases e : y = x
    · rw [if_pos e] at h
      rw [if_pos (Option.some.inj h).symm, e]
    · rw [if_neg e] at h
      rw [if_neg (fun e2 => hfree y (by rw [h, e2]))]
      exact d.one y q h
  · unfold putH at h
    unfold putA
    by_cases e : q = p
    · rw [if_pos e] at h
      rw [if_pos (Option.some.inj h).symm, e]
    · rw [if_neg e] at h
      have h5 := d.back y q h
      rw [if_neg (fun e2 => by rw [e2, hx] at h5; cases h5)]
      exact h5
  · unfold putA at h
    by_cases e : y = x
    · rw [e]; exact ⟨h1, h2⟩
    · rw [if_neg e] at h; exact d.page y q h
  · unfold putA at h
    by_cases e : y = x
    · rw [if_pos e] at h; rw [← Option.some.inj h]; exact h3
    · rw [if_neg e] at h; exact d.place y q h
/-- How many lie in the blocks below b. -/
def belowB (L : List Pl) (b : Int) : Nat := (L.filter (fun p => decide (p.b < b))).length
def inB (L : List Pl) (b : Int) : Nat := (L.filter (fun p => p.b == b)).length
theorem belowB_succ (L : List Pl) (b : Int) : belowB L (b + 1) = belowB L b + inB L b := by
  induction L with
  | nil => rfl
  | cons p L ih =>
    unfold belowB inB at *
    simp only [List.filter_cons]
    by_cases h1 : p.b < b
    · have h2 : ¬ p.b = b := by omega
      have h3 : p.b < b + 1 := by omega
      simp [h1, h2, h3, ih]; omega
    · by_cases h2 : p.b = b
      · have h4 : b < b + 1 := by omega
        simp [h2, h4, ih]; omega
      · have h3 : ¬ p.b < b + 1 := by omega
        simp [h1, h2, h3, ih]
theorem same_count {P : Pl → Prop} {L M : List Pl} (hl : L.Nodup) (hm : M.Nodup) (h : ∀ p, p ∈ L ↔ p ∈ M) (b : Int) : inB L b = inB M b := by
  unfold inB
  exact (((List.perm_ext_iff_of_nodup hl hm).2 h).filter _).length_eq
theorem Two.inside {g : Geo} {A : Int → Option Pl} {H : Pl → Option Int} (t : Two g A H) (hm : mayG g = true) {x : Int} {p : Pl} (h : A x = some p) : WfP p ∧ Wf x ∧ 0 ≤ p.b ∧ p.b < g.blocks := by
  have hb := mayG_bd hm
  have h1 := t.page x p h
  have h2 := t.place x p h
  have h3 : isG g p.b p.p = true := by
    unfold numG at h2
    rw [hm] at h2
    cases e : isG g p.b p.p with
    | true => rfl
    | false => rw [e] at h2; simp at h2
  unfold isG at h3
  simp only [Bool.and_eq_true, inI_iff] at h3
  have hh : halfI g ≤ 66 := by
    have := half_bd (x := g.blocks - g.spares - 3) (p := g.pages) (by omega) (by omega) (by omega) (by omega)
    unfold halfI; omega
  unfold logG at h1
  rw [hm] at h1
  simp only [if_true] at h1
  refine ⟨⟨?_, ?_⟩, ?_, by omega, by omega⟩ <;> unfold Wf <;> omega
theorem nodup_map_of {α β : Type} {f : α → β} : ∀ {l : List α}, l.Nodup → (∀ a ∈ l, ∀ b ∈ l, f a = f b → a = b) → (l.map f).Nodup
  | [], _, _ => List.nodup_nil
  | a :: l, h, hf => by
    rw [List.nodup_cons] at h
    rw [List.map_cons, List.nodup_cons]
    refine ⟨fun hm => ?_, nodup_map_of h.2 (fun x hx y hy => hf x (List.mem_cons_of_mem _ hx) y (List.mem_cons_of_mem _ hy))⟩
    obtain ⟨b, hb, e⟩ := List.mem_map.1 hm
    have := hf b (List.mem_cons_of_mem _ hb) a List.mem_cons_self e
    exact h.1 (this ▸ hb)
/-- The places, one for each page. -/
theorem Two.canon {g : Geo} {A : Int → Option Pl} {H : Pl → Option Int} (t : Two g A H) (hm : mayG g = true) {ks : List Int} (hk : ks.Pairwise (· < ·)) (hks : ∀ x : Int, x ∈ ks ↔ Wf x ∧ (A x).isSome = true) :
    ∃ L : List Pl, L.length = ks.length ∧ L.Nodup ∧ (∀ p, WfP p → (p ∈ L ↔ (H p).isSome = true)) ∧ ∀ p ∈ L, WfP p ∧ 0 ≤ p.b ∧ p.b < g.blocks := by
  have hA : ∀ x ∈ ks, ∃ p, A x = some p := fun x hx => Option.isSome_iff_exists.1 ((hks x).1 hx).2
  refine ⟨ks.map (fun x => (A x).getD ⟨0, 0⟩), List.length_map _, nodup_map_of (hk.imp (fun h => by omega)) (fun x hx y hy e => ?_), fun p hp => ?_, fun p hp => ?_⟩
  · obtain ⟨p, h1⟩ := hA x hx
    obtain ⟨q, h2⟩ := hA y hy
    rw [h1, h2] at e
    simp only [Option.getD_some] at e
    have h3 := t.one x p h1
    have h4 := t.one y q h2
    rw [e, h4] at h3
    exact (Option.some.inj h3).symm
  · constructor
    · intro h
      obtain ⟨x, hx, e⟩ := List.mem_map.1 h
      obtain ⟨q, h1⟩ := hA x hx
      rw [h1] at e
      simp only [Option.getD_some] at e
      rw [← e, t.one x q h1]; rfl
    · intro h
      obtain ⟨x, h1⟩ := Option.isSome_iff_exists.1 h
      have h2 := t.back x p h1
      exact List.mem_map.2 ⟨x, (hks x).2 ⟨(t.inside hm h2).2.1, by rw [h2]; rfl⟩, by rw [h2]; rfl⟩
  · obtain ⟨x, hx, e⟩ := List.mem_map.1 hp
    obtain ⟨q, h1⟩ := hA x hx
    rw [h1] at e
    simp only [Option.getD_some] at e
    have := t.inside hm h1
    rw [← e]
    exact ⟨this.1, this.2.2⟩
theorem belowB_zero {L : List Pl} (h : ∀ p ∈ L, 0 ≤ p.b) : belowB L 0 = 0 := by
  unfold belowB
  rw [List.filter_eq_nil_iff.2 (fun p hp => by have := h p hp; simp; omega)]; rfl
theorem belowB_all {L : List Pl} {b : Int} (h : ∀ p ∈ L, p.b < b) : belowB L b = L.length := by
  unfold belowB
  rw [List.filter_eq_self.2 (fun p hp => by have := h p hp; simpa using this)]
theorem inB_none {L : List Pl} {b : Int} (h : ∀ p ∈ L, p.b ≠ b) : inB L b = 0 := by
  unfold inB
  rw [List.filter_eq_nil_iff.2 (fun p hp => by simpa using h p hp)]; rfl
end Go.Proofs.Ytcfkpaijlibjaaa
