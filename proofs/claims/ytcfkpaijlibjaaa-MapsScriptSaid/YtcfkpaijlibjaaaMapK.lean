/- maps.Keys and slices.Sorted over the pages of a map; Pages. -/
import Derived.Test.YtcfkpaijlibjaaaKeys
import Derived.Test.YtcfkpaijlibjaaaMapA
set_option linter.unusedVariables false
set_option linter.unusedSimpArgs false
namespace Go.Proofs.Ytcfkpaijlibjaaa
open Go.RowKit Go.Lib Go.Maps Go.Sort Go.Shelf
theorem keys_ofP {R : Value → Option (DataW Unit × List MemPlace)} {w : World} {b n : Nat} {D : DataW Unit} (hown : w.ownsMap Try.prog 3 R b n D) : (intKeys D).Nodup ∧ ∀ x, x ∈ intKeys D ↔ has D (.int .i64 x) = true := by
  obtain ⟨es, hD, hpw, _⟩ := hown.entries (int_keyed Try.underlying3)
  obtain ⟨es', hD', hko⟩ := hown.keysOf
  obtain rfl : es = es' := by rw [hD] at hD'; simpa using hD'
  subst hD
  have hk : ∀ p ∈ es, ∃ x, p.1 = .int .i64 x := fun p hp => by
    obtain ⟨v, hv⟩ := hko p hp; obtain ⟨x, _, hx, _⟩ := Maps.keyOf_i64 Try.underlying3 hv; exact ⟨x, hx⟩
  refine ⟨?_, fun x => ?_⟩
  · show (es.map fun p => Go.intOf p.1).Nodup
    refine List.pairwise_map.2 (hpw.imp_of_mem fun {p q} hp' hq' hne e => hne ?_)
    obtain ⟨a, ha⟩ := hk p hp'
    obtain ⟨b, hb⟩ := hk q hq'
    rw [ha, hb] at e ⊢
    exact congrArg _ e
  · rw [has_eq, List.any_eq_true]
    show x ∈ es.map (fun p => Go.intOf p.1) ↔ _
    rw [List.mem_map]
    constructor
    · rintro ⟨p, hp', rfl⟩
      obtain ⟨a, ha⟩ := hk p hp'
      exact ⟨p, hp', by rw [ha]; simp [Lit.sameKey, Go.intOf]⟩
    · rintro ⟨p, hp', hs⟩
      obtain ⟨a, ha⟩ := hk p hp'
      rw [ha] at hs
      exact ⟨p, hp', by rw [ha]; simpa [Lit.sameKey, Go.intOf] using hs⟩
theorem keysP_any (mb : Option Nat) (W : World) : Calls Try.prog 48 #[.map mb] W fun e w' => e = .returned (.func (.func 61) #[] #[.pointer (some ⟨W.heap.size, 0, none⟩)]) ∧ w' = W.alloc (.cells #[.map mb] 73) :=
  (callsIn_wide (n := 5)).1 (AnyZI.keys_in Try.keysP Fence.wide 5 trivial rfl mb W)
def RetKeysP (f : Int → Option Pl) (n : Nat) (W : World) (e : Ending) (w' : World) : Prop :=
  ∃ v ks, e = .returned v ∧ ks.Pairwise (· < ·) ∧ (∀ x : Int, x ∈ ks ↔ Wf x ∧ (f x).isSome = true) ∧ Ints w' v ks ∧ Grow W w' ∧ ks.length ≤ n
theorem sortedP_any (b n : Nat) (f : Int → Option Pl) (W : World) (hf : AtMap W b n f) (hn : n ≤ 1000000) :
    Calls Try.prog 42 #[.func (.func 61) #[] #[.pointer (some ⟨W.heap.size, 0, none⟩)]] (W.alloc (.cells #[.map (some b)] 73)) (RetKeysP f n (W.alloc (.cells #[.map (some b)] 73))) := by
  obtain ⟨D, hown, hm, hhas, hat⟩ := hf
  have hbl := hown.lt
  have hsz := hown.size_le
  have hkeys := keys_ofP hown
  have hwf := intKeys_wf hown Try.underlying3
  have hseq : SeqGives Fence.wide 2 Try.prog 61 #[.pointer (some ⟨W.heap.size, 0, none⟩)] encZ (fun ss => ss.Perm (intKeys D)) (Maps.size D) (W.alloc (.cells #[.map (some b)] 73)) :=
    AnyZI.keys_gives (ρ := Try.keysP_ren) { Try.keysP with } Fence.wide _ trivial rfl (by omega) W.heap.size b n D _ (by simp) (by simp) (by
      obtain ⟨es, clock, hb, Ft, hs, hD⟩ := hown
      exact ⟨es, clock, (Below.heap_alloc _ _ b hbl).trans hb, Ft, hs, hD⟩)
  have cS := AnyZI.sorted_in Try.sortedF Fence.wide 5 trivial trivial trivial trivial rfl (by omega) (sortsF _) (enters_of Try.func56 (by kernel_rfl) rfl) 61 #[.pointer (some ⟨W.heap.size, 0, none⟩)] trivial (enters_of Try.func61 (by kernel_rfl) rfl) _ _ (by unfold maxLen; omega) (by omega) _ hseq
  change CallsIn _ _ Try.prog 42 _ _ _ at cS
  refine ((callsIn_wide (n := 5)).1 cS).mono ?_
  rintro e w' ⟨v, ss, rfl, hS, hrow, -, hb⟩
  have hnd : ss.Nodup := hS.nodup_iff.2 hkeys.1
  have hlen : ss.length ≤ n := by
    have h1 := hS.length_eq
    obtain ⟨es, rfl⟩ := hm
    have h2 : (intKeys (.map es : DataW Unit)).length = es.length := by simp [intKeys]
    have h3 : Maps.size (.map es : DataW Unit) = es.length := rfl
    omega
  refine ⟨v, ss.mergeSort (fun x y => decide (x ≤ y)), rfl, sorted_lt hnd, fun x => ?_, ?_, hb, by rw [List.length_mergeSort]; exact hlen⟩
  · rw [(List.mergeSort_perm ss _).mem_iff, hS.mem_iff, hkeys.2]
    constructor
    · intro hx
      have hw : Wf x := wf_inv (hwf x ((hkeys.2 x).2 hx))
      exact ⟨hw, by rw [← hhas x hw]; exact hx⟩
    · rintro ⟨hw, hx⟩
      rw [hhas x hw]; exact hx
  · have e1 : ss.length = (ss.mergeSort (fun x y => decide (x ≤ y))).length := by rw [List.length_mergeSort]
    rw [e1] at hrow
    have hO : Own 3 1 (W.alloc (.cells #[.map (some b)] 73)) v (ss.mergeSort (fun x y => decide (x ≤ y))).length ((ss.mergeSort (fun x y => decide (x ≤ y))).map encZ) w' := ⟨hrow, hb⟩
    refine hO.reads fun i x hx => ?_
    rw [Nat.mul_one, List.take_one, List.head?_drop, List.getElem?_map, hx]; rfl
set_option maxRecDepth 100000 in
theorem pages_map {w : World} {B a h : Nat} {g : Geo} {n : Nat} {A : Int → Option Pl} {H : Pl → Option Int} (s : MSt w B a h g n A H) (hn : n ≤ 1000000) :
    Calls Try.prog 24 #[.pointer (some ⟨B, 0, none⟩)] w (RetKeysP A n w) := by
  obtain ⟨c0, c1, c2, c3, c4, c5, c6⟩ := map7 s.1
  have hB : B < w.heap.size := (Array.getElem?_eq_some_iff.1 s.1).1
  have cK := keysP_any (some a) w
  have cS := sortedP_any a n A w s.2.1 hn
  clear s
  go_enter Try.func24, Try.ntmps24
  go_wp2_with fail
  refine cK.mono ?_
  rintro e w1 ⟨rfl, rfl⟩
  go_wp2_with fail
  refine cS.mono ?_
  rintro e w2 ⟨v, ks, rfl, k1, k2, k3, k4, k5⟩
  go_wp2_with fail
  go_ret
  exact ⟨v, ks, rfl, k1, k2, k3, ((Grow.refl w).alloc _).trans k4, k5⟩
end Go.Proofs.Ytcfkpaijlibjaaa
