/- A map of the call's own from pages to what was found. -/
import Derived.Test.YtcfkpaijlibjaaaFound
import Derived.Maps.OwnSet
import Derived.Maps.Views
import Derived.Maps.Keyed
import Derived.Lib.SlKeysI
set_option linter.unusedVariables false
set_option linter.unusedSimpArgs false
namespace Go.Proofs.Ytcfkpaijlibjaaa
open Go.RowKit Go.Lib Go.Maps
def foundD (x : Found) : DataW Unit := .agg [.lit (.int .i64 x.block), .lit (.int .i64 x.page), .lit (.int .i64 x.kind), .lit (.int .i64 x.pg), .lit (.int .i64 x.seq), .lit (.int .i64 x.epoch)]
theorem foundD_inj {x y : Found} (h : foundD x = foundD y) : x = y := by
  unfold foundD at h
  cases x; cases y
  simpa using h
theorem foundV_inj {x y : Found} (h : foundV x = foundV y) : x = y := by
  cases x; cases y
  simpa [foundV] using h
open Classical in
noncomputable def foundElem (v : Value) : Option (DataW Unit × List MemPlace) := if h : ∃ x, v = foundV x then some (foundD h.choose, []) else none
theorem foundElem_mk (x : Found) : foundElem (foundV x) = some (foundD x, []) := by
  unfold foundElem
  have h : ∃ y, foundV x = foundV y := ⟨x, rfl⟩
  rw [dif_pos h]
  have := foundV_inj h.choose_spec
  rw [← this]
theorem foundElem_inv {v : Value} {d : DataW Unit} {ps : List MemPlace} (h : foundElem v = some (d, ps)) : ∃ x, v = foundV x ∧ d = foundD x := by
  unfold foundElem at h
  split at h
  · rename_i hx
    refine ⟨hx.choose, hx.choose_spec, ?_⟩
    injection h with h
    injection h with h1 h2
    exact h1.symm
  · cases h
/-- Block b is the map f. -/
def FMap (w : World) (b n : Nat) (f : Int → Option Found) : Prop :=
  ∃ D : DataW Unit, w.ownsMap Try.prog 3 foundElem b n D ∧ IsMap D ∧ (∀ x, Wf x → has D (.int .i64 x) = (f x).isSome) ∧ ∀ x, Wf x → D.atKey (.int .i64 x) (foundD default) = foundD ((f x).getD default)
theorem FMap.lt {w : World} {b n : Nat} {f : Int → Option Found} (h : FMap w b n f) : b < w.heap.size := by obtain ⟨D, h, _⟩ := h; exact h.lt
theorem FMap.kept {w w' : World} {b n : Nat} {f : Int → Option Found} (h : FMap w b n f) (e : w'.heap[b]? = w.heap[b]?) : FMap w' b n f := by
  obtain ⟨D, ⟨es, c, h1, h2, h3, h4⟩, h5⟩ := h
  exact ⟨D, ⟨es, c, e.trans h1, h2, h3, h4⟩, h5⟩
theorem FMap.grow {w w' : World} {b n : Nat} {f : Int → Option Found} (h : FMap w b n f) (g : Grow w w') : FMap w' b n f := h.kept (Below.block g b h.lt)
theorem FMap.own {w w' : World} {b n m k : Nat} {f : Int → Option Found} (h : FMap w b n f) {e : TypeId} {W0 : World} {v : Value} {xs : List Value} (ho : Own e k W0 v m xs w) (hg : w.grownBy w' v.ownBlock) : FMap w' b n f := by
  refine h.kept (hg.block b h.lt ?_)
  obtain ⟨D, ⟨es, c, h1, _⟩, _⟩ := h
  intro he
  rcases ho.row.2 with ⟨rfl, _⟩ | ⟨g, cap, cur, rfl, _, hgb, _⟩
  · cases he
  · simp only [Value.ownBlock, Option.some.injEq] at he
    subst he
    rw [hgb] at h1; cases h1
theorem FMap.made (w : World) : FMap (w.alloc (.map #[] 0)) w.heap.size 0 (fun _ => none) :=
  ⟨.map [], World.ownsMap_made w _ _ _, isMap_empty, fun x _ => by simp [has_eq], fun x _ => by simp [DataW.atKey]⟩
theorem zeroF (w : World) : (zeroValue 30).run Try.prog w = .ok (foundV default) w := by kernel_rfl
theorem FMap.look {w : World} {b n : Nat} {f : Int → Option Found} (h : FMap w b n f) {x : Int} (hx : Wf x) :
    (Instr.lookup 66 (.map (some b)) (.int .i64 x) false).run Try.prog w = .ok (foundV ((f x).getD default)) w := by
  obtain ⟨D, h1, h2, h3, h4⟩ := h
  obtain ⟨v, ps, hrun, hv⟩ := h1.lookup (int_keyed Try.underlying3) Try.underlying66 (zeroF w) (foundElem_mk default) (keyOf_int_mk Try.underlying3 hx.lit)
  rw [h4 x hx] at hv
  obtain ⟨y, rfl, e⟩ := foundElem_inv hv
  rw [← foundD_inj e] at hrun; exact hrun
theorem FMap.look_ok {w : World} {b n : Nat} {f : Int → Option Found} (h : FMap w b n f) {x : Int} (hx : Wf x) :
    (Instr.lookup 66 (.map (some b)) (.int .i64 x) true).run Try.prog w = .ok (.tuple #[foundV ((f x).getD default), .bool (f x).isSome]) w := by
  obtain ⟨D, h1, h2, h3, h4⟩ := h
  obtain ⟨v, ps, hrun, hv⟩ := h1.look_ok (int_keyed Try.underlying3) Try.underlying66 (zeroF w) (foundElem_mk default) (keyOf_int_mk Try.underlying3 hx.lit)
  rw [h4 x hx] at hv
  obtain ⟨y, rfl, e⟩ := foundElem_inv hv
  rw [← foundD_inj e, h3 x hx] at hrun; exact hrun
theorem FMap.put {w : World} {b n : Nat} {f : Int → Option Found} (h : FMap w b n f) {x : Int} (y : Found) (hx : Wf x) (hn : n ≤ 1000000000) :
    ∃ w', (Instr.mapUpdate 66 (.map (some b)) (.int .i64 x) (foundV y)).run Try.prog w = .ok () w' ∧ FMap w' b (n + 1) (fun z => if z = x then some y else f z) ∧ Turned b w w' := by
  obtain ⟨D, h1, h2, h3, h4⟩ := h
  obtain ⟨w', hrun, h5, h6⟩ := h1.update (int_keyed Try.underlying3) Try.underlying66 (by unfold maxLen; omega) (keyOf_int_mk Try.underlying3 hx.lit) (foundElem_mk y)
  refine ⟨w', hrun, ⟨_, h5, h2.put _ _, fun z hz => ?_, fun z hz => ?_⟩, Turned.of_grown h6⟩
  · by_cases e : z = x
    · subst e; rw [has_put_same h2 (by trivial)]; simp
    · rw [has_put_other (by intro e'; injection e' with e1 e2; exact e e2), h3 z hz]; simp [e]
  · by_cases e : z = x
    · subst e; rw [atKey_put_same h2 (by trivial)]; simp
    · rw [atKey_put_other (by intro e'; injection e' with e1 e2; exact e e2), h4 z hz]; simp [e]
theorem FMap.cong {w : World} {b n : Nat} {f g : Int → Option Found} (h : FMap w b n f) (e : ∀ x, f x = g x) : FMap w b n g := by
  obtain rfl : f = g := funext e
  exact h
theorem FMap.mono {w : World} {b n m : Nat} {f : Int → Option Found} (h : FMap w b n f) (e : n ≤ m) : FMap w b m f := by
  obtain ⟨D, h1, h2⟩ := h
  exact ⟨D, h1.mono e, h2⟩
/-- The keys: which numbers there are. -/
theorem keys_of {w : World} {b n : Nat} {D : DataW Unit} (hown : w.ownsMap Try.prog 3 foundElem b n D) : (intKeys D).Nodup ∧ ∀ x, x ∈ intKeys D ↔ has D (.int .i64 x) = true := by
  obtain ⟨es, hD, hpw, _⟩ := hown.entries (int_keyed Try.underlying3)
  obtain ⟨es', hD', hko⟩ := hown.keysOf
  obtain rfl : es = es' := by rw [hD] at hD'; simpa using hD'
  subst hD
  have hk : ∀ p ∈ es, ∃ x, p.1 = .int .i64 x := fun p hp => by
    obtain ⟨v, hv⟩ := hko p hp; obtain ⟨x, _, hx, _⟩ := Maps.keyOf_i64 Try.underlying3 hv; exact ⟨x, hx⟩
  refine ⟨?_, fun x => ?_⟩
  · show (es.map fun p => Go.intOf p.1).Nodup
    refine List.pairwise_map.2 (hpw.imp_of_mem fun {p q} hp' hq' hne e => hne ?_)
    obtain ⟨a, ha⟩ := hk p hp'
    obtain ⟨b, hb⟩ := hk q hq'
    rw [ha, hb] at e ⊢
    exact congrArg _ e
  · rw [has_eq, List.any_eq_true]
    show x ∈ es.map (fun p => Go.intOf p.1) ↔ _
    rw [List.mem_map]
    constructor
    · rintro ⟨p, hp', rfl⟩
      obtain ⟨a, ha⟩ := hk p hp'
      exact ⟨p, hp', by rw [ha]; simp [Lit.sameKey, Go.intOf]⟩
    · rintro ⟨p, hp', hs⟩
      obtain ⟨a, ha⟩ := hk p hp'
      rw [ha] at hs
      exact ⟨p, hp', by rw [ha]; simpa [Lit.sameKey, Go.intOf] using hs⟩
end Go.Proofs.Ytcfkpaijlibjaaa
