/- Maps of the call's own, of any plain keys and elements (keys may be structs of ints): GMap. -/
import Derived.Test.YtcfkpaijlibjaaaFound
import Derived.Test.YtcfkpaijlibjaaaAppg
import Derived.Maps.OwnSet
import Derived.Maps.Views
import Derived.Maps.Keyed
import Derived.DeepKeys4
set_option linter.unusedVariables false
set_option linter.unusedSimpArgs false
namespace Go.Proofs.Ytcfkpaijlibjaaa
open Go.RowKit Go.Lib Go.Maps
/-- What is known of a map's type: its keys K, told as Lit by kl; its elements V. -/
structure KV (k e t : TypeId) {K V : Type} (Wk : K → Prop) (kv : K → Value) (kl : K → Lit) (vv : V → Value) (vd : V → DataW Unit) (R : Value → Option (DataW Unit × List MemPlace)) (z : V) : Prop where
  keyed : Keyed Try.prog k
  und : Try.prog.underlying t = some (.map k e)
  zero : ∀ w : World, (zeroValue e).run Try.prog w = .ok (vv z) w
  key : ∀ x, Wk x → keyOf Try.prog k (kv x) = some (kl x)
  inj : ∀ x y, Wk x → Wk y → kl x = kl y → x = y
  mkE : ∀ v, R (vv v) = some (vd v, [])
  inv : ∀ v d ps, R v = some (d, ps) → ∃ x, v = vv x ∧ d = vd x
  vinj : ∀ x y, vd x = vd y → x = y
section
variable {k e t : TypeId} {K V : Type} {Wk : K → Prop} {kv : K → Value} {kl : K → Lit} {vv : V → Value} {vd : V → DataW Unit} {R : Value → Option (DataW Unit × List MemPlace)} {z : V}
/-- Block b is the map f. -/
def GMap (k : TypeId) (Wk : K → Prop) (kl : K → Lit) (vd : V → DataW Unit) (R : Value → Option (DataW Unit × List MemPlace)) (z : V) (w : World) (b n : Nat) (f : K → Option V) : Prop :=
  ∃ D : DataW Unit, w.ownsMap Try.prog k R b n D ∧ IsMap D ∧ (∀ x, Wk x → has D (kl x) = (f x).isSome) ∧ ∀ x, Wk x → D.atKey (kl x) (vd z) = vd ((f x).getD z)
theorem GMap.lt {w : World} {b n : Nat} {f : K → Option V} (h : GMap k Wk kl vd R z w b n f) : b < w.heap.size := by obtain ⟨D, h, _⟩ := h; exact h.lt
theorem GMap.kept {w w' : World} {b n : Nat} {f : K → Option V} (h : GMap k Wk kl vd R z w b n f) (e : w'.heap[b]? = w.heap[b]?) : GMap k Wk kl vd R z w' b n f := by
  obtain ⟨D, ⟨es, c, h1, h2, h3, h4⟩, h5⟩ := h
  exact ⟨D, ⟨es, c, e.trans h1, h2, h3, h4⟩, h5⟩
theorem GMap.grow {w w' : World} {b n : Nat} {f : K → Option V} (h : GMap k Wk kl vd R z w b n f) (g : Grow w w') : GMap k Wk kl vd R z w' b n f := h.kept (Below.block g b h.lt)
theorem GMap.mono {w : World} {b n m : Nat} {f : K → Option V} (h : GMap k Wk kl vd R z w b n f) (e : n ≤ m) : GMap k Wk kl vd R z w b m f := by
  obtain ⟨D, h1, h2⟩ := h
  exact ⟨D, h1.mono e, h2⟩
theorem GMap.made (w : World) : GMap (K := K) k Wk kl vd R z (w.alloc (.map #[] 0)) w.heap.size 0 (fun _ => none) :=
  ⟨.map [], World.ownsMap_made w _ _ _, isMap_empty, fun x _ => by simp [has_eq], fun x _ => by simp [DataW.atKey]⟩
theorem GMap.look_ok (S : KV k e t Wk kv kl vv vd R z) {w : World} {b n : Nat} {f : K → Option V} (h : GMap k Wk kl vd R z w b n f) {x : K} (hx : Wk x) :
    (Instr.lookup t (.map (some b)) (kv x) true).run Try.prog w = .ok (.tuple #[vv ((f x).getD z), .bool (f x).isSome]) w := by
  obtain ⟨D, h1, h2, h3, h4⟩ := h
  obtain ⟨v, ps, hrun, hv⟩ := h1.look_ok S.keyed S.und (S.zero w) (S.mkE z) (S.key x hx)
  rw [h4 x hx] at hv
  obtain ⟨y, rfl, e⟩ := S.inv _ _ _ hv
  rw [← S.vinj _ _ e, h3 x hx] at hrun; exact hrun
theorem GMap.put (S : KV k e t Wk kv kl vv vd R z) {w : World} {b n : Nat} {f : K → Option V} (h : GMap k Wk kl vd R z w b n f) {x : K} (y : V) (hx : Wk x) (hn : n ≤ 1000000000) [DecidableEq K] :
    ∃ w', (Instr.mapUpdate t (.map (some b)) (kv x) (vv y)).run Try.prog w = .ok () w' ∧ GMap k Wk kl vd R z w' b (n + 1) (fun a => if a = x then some y else f a) ∧ Turned b w w' := by
  obtain ⟨D, h1, h2, h3, h4⟩ := h
  obtain ⟨w', hrun, h5, h6⟩ := h1.update S.keyed S.und (by unfold maxLen; omega) (S.key x hx) (S.mkE y)
  have hk := S.keyed.key (S.key x hx)
  refine ⟨w', hrun, ⟨_, h5, h2.put _ _, fun a ha => ?_, fun a ha => ?_⟩, Turned.of_grown h6⟩
  · by_cases e : a = x
    · subst e; rw [has_put_same h2 hk]; simp
    · rw [has_put_other (fun e' => e (S.inj _ _ ha hx (by first | exact e' | exact e'.symm))), h3 a ha]; simp [e]
  · by_cases e : a = x
    · subst e; rw [atKey_put_same h2 hk]; simp
    · rw [atKey_put_other (fun e' => e (S.inj _ _ ha hx (by first | exact e' | exact e'.symm))), h4 a ha]; simp [e]
theorem GMap.drop (S : KV k e t Wk kv kl vv vd R z) {w : World} {b n : Nat} {f : K → Option V} (h : GMap k Wk kl vd R z w b n f) {x : K} (hx : Wk x) (ty : TypeId) [DecidableEq K] :
    ∃ w', (Builtin.delete_ #[t, k] ty #[.map (some b), kv x]).run Try.prog w = .ok (.tuple #[]) w' ∧ GMap k Wk kl vd R z w' b n (fun a => if a = x then none else f a) ∧ Turned b w w' := by
  obtain ⟨D, h1, h2, h3, h4⟩ := h
  obtain ⟨w', hrun, h5, h6⟩ := h1.drop S.keyed S.und (S.key x hx) ty
  have hk := S.keyed.key (S.key x hx)
  refine ⟨w', hrun, ⟨_, h5, h2.del _, fun a ha => ?_, fun a ha => ?_⟩, Turned.of_grown h6.grown⟩
  · by_cases e : a = x
    · subst e; rw [has_del_same]; simp
    · rw [has_del_other (fun e' => e (S.inj _ _ ha hx (by first | exact e' | exact e'.symm))), h3 a ha]; simp [e]
  · by_cases e : a = x
    · subst e; rw [atKey_del_same]; simp
    · rw [atKey_del_other (fun e' => e (S.inj _ _ ha hx (by first | exact e' | exact e'.symm))), h4 a ha]; simp [e]
end
end Go.Proofs.Ytcfkpaijlibjaaa
