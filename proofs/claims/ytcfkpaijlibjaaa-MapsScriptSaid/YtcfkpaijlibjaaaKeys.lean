/- maps.Keys and slices.Sorted over a map of pages. -/
import Derived.Test.YtcfkpaijlibjaaaFMap
import Derived.Test.YtcfkpaijlibjaaaOpng
import Derived.Test.YtcfkpaijlibjaaaShelf
set_option linter.unusedVariables false
set_option linter.unusedSimpArgs false
namespace Go.Proofs.Ytcfkpaijlibjaaa
open Go.RowKit Go.Lib Go.Maps Go.Sort Go.Shelf
theorem sortsF (m : Nat) : AnyZI.SortsIn Try.prog Try.sortedF_ren Fence.wide m :=
  ⟨fun blk off cap ss W hH hblk hsz => callsIn_wide.2 (AnyM.slices_Sort_int Try.sortF blk off cap ss W hH hblk hsz),
   fun p cap W => callsIn_wide.2 (AnyM.slices_Sort_int_none Try.sortF p cap W)⟩
theorem keysF_any (mb : Option Nat) (W : World) : Calls Try.prog 43 #[.map mb] W fun e w' => e = .returned (.func (.func 57) #[] #[.pointer (some ⟨W.heap.size, 0, none⟩)]) ∧ w' = W.alloc (.cells #[.map mb] 66) :=
  (callsIn_wide (n := 5)).1 (AnyZI.keys_in Try.keysF Fence.wide 5 trivial rfl mb W)
/-- The keys, rising. -/
def RetKeys (f : Int → Option Found) (n : Nat) (W : World) (e : Ending) (w' : World) : Prop :=
  ∃ v ks, e = .returned v ∧ ks.Pairwise (· < ·) ∧ (∀ x : Int, x ∈ ks ↔ Wf x ∧ (f x).isSome = true) ∧ Ints w' v ks ∧ Grow W w' ∧ ks.length ≤ n
theorem sorted_lt {ss : List Int} (h : ss.Nodup) : (ss.mergeSort fun x y => decide (x ≤ y)).Pairwise (· < ·) := by
  have tr : ∀ a b c : Int, decide (a ≤ b) = true → decide (b ≤ c) = true → decide (a ≤ c) = true := fun a b c h1 h2 => by simp only [decide_eq_true_eq] at *; omega
  have tt : ∀ a b : Int, (decide (a ≤ b) || decide (b ≤ a)) = true := fun a b => by simp only [Bool.or_eq_true, decide_eq_true_eq]; omega
  have h1 := List.pairwise_mergeSort tr tt ss
  have h2 : (ss.mergeSort fun x y => decide (x ≤ y)).Nodup := (List.mergeSort_perm ss _).nodup_iff.2 h
  refine (h1.and h2).imp ?_
  rintro a b ⟨h3, h4⟩
  simp only [decide_eq_true_eq] at h3
  have : a ≠ b := h4
  omega
theorem sortedF_any (b n : Nat) (f : Int → Option Found) (W : World) (hf : FMap W b n f) (hn : n ≤ 1000000) :
    Calls Try.prog 42 #[.func (.func 57) #[] #[.pointer (some ⟨W.heap.size, 0, none⟩)]] (W.alloc (.cells #[.map (some b)] 66)) (RetKeys f n (W.alloc (.cells #[.map (some b)] 66))) := by
  obtain ⟨D, hown, hm, hhas, hat⟩ := hf
  have hbl := hown.lt
  have hsz := hown.size_le
  have hkeys := keys_of hown
  have hwf := intKeys_wf hown Try.underlying3
  have hseq : SeqGives Fence.wide 2 Try.prog 57 #[.pointer (some ⟨W.heap.size, 0, none⟩)] encZ (fun ss => ss.Perm (intKeys D)) (Maps.size D) (W.alloc (.cells #[.map (some b)] 66)) :=
    AnyZI.keys_gives (ρ := Try.keysF_ren) { Try.keysF with } Fence.wide _ trivial rfl (by omega) W.heap.size b n D _ (by simp) (by simp) (by
      obtain ⟨es, clock, hb, Ft, hs, hD⟩ := hown
      exact ⟨es, clock, (Below.heap_alloc _ _ b hbl).trans hb, Ft, hs, hD⟩)
  have cS := AnyZI.sorted_in Try.sortedF Fence.wide 5 trivial trivial trivial trivial rfl (by omega) (sortsF _) (enters_of Try.func56 (by kernel_rfl) rfl) 57 #[.pointer (some ⟨W.heap.size, 0, none⟩)] trivial (enters_of Try.func57 (by kernel_rfl) rfl) _ _ (by unfold maxLen; omega) (by omega) _ hseq
  change CallsIn _ _ Try.prog 42 _ _ _ at cS
  refine ((callsIn_wide (n := 5)).1 cS).mono ?_
  rintro e w' ⟨v, ss, rfl, hS, hrow, -, hb⟩
  have hnd : ss.Nodup := hS.nodup_iff.2 hkeys.1
  have hlen : ss.length ≤ n := by
    have h1 := hS.length_eq
    obtain ⟨es, rfl⟩ := hm
    have h2 : (intKeys (.map es : DataW Unit)).length = es.length := by simp [intKeys]
    have h3 : Maps.size (.map es : DataW Unit) = es.length := rfl
    omega
  refine ⟨v, ss.mergeSort (fun x y => decide (x ≤ y)), rfl, sorted_lt hnd, fun x => ?_, ?_, hb, by rw [List.length_mergeSort]; exact hlen⟩
  · rw [(List.mergeSort_perm ss _).mem_iff, hS.mem_iff, hkeys.2]
    constructor
    · intro hx
      have hw : Wf x := wf_inv (hwf x ((hkeys.2 x).2 hx))
      exact ⟨hw, by rw [← hhas x hw]; exact hx⟩
    · rintro ⟨hw, hx⟩
      rw [hhas x hw]; exact hx
  · have e1 : ss.length = (ss.mergeSort (fun x y => decide (x ≤ y))).length := by rw [List.length_mergeSort]
    rw [e1] at hrow
    have hO : Own 3 1 (W.alloc (.cells #[.map (some b)] 66)) v (ss.mergeSort (fun x y => decide (x ≤ y))).length ((ss.mergeSort (fun x y => decide (x ≤ y))).map encZ) w' := ⟨hrow, hb⟩
    refine hO.reads fun i x hx => ?_
    rw [Nat.mul_one, List.take_one, List.head?_drop, List.getElem?_map, hx]; rfl
end Go.Proofs.Ytcfkpaijlibjaaa
