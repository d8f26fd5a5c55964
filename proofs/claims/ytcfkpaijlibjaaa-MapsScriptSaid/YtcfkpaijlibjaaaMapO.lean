/- Pages of a map as a row of the call's own; OverInts. -/
import Derived.Test.YtcfkpaijlibjaaaRMapD
import Derived.Test.YtcfkpaijlibjaaaMapC
set_option linter.unusedVariables false
set_option linter.unusedSimpArgs false
namespace Go.Proofs.Ytcfkpaijlibjaaa
open Go.RowKit Go.Lib Go.Maps Go.Sort Go.Shelf
theorem Own.base {e : TypeId} {k : Nat} {W1 W0 : World} {v : Value} {n : Nat} {xs : List Value} {w : World} (h : Own e k W0 v n xs w) (g : Grow W1 W0) : Own e k W1 v n xs w := by
  refine ⟨⟨h.row.1, ?_⟩, g.trans h.grow⟩
  rcases h.row.2 with h | ⟨b, cap, cur, h3, h4, h5⟩
  · exact .inl h
  · exact .inr ⟨b, cap, cur, h3, Nat.le_trans g.size h4, h5⟩
def RetKeysO (f : Int → Option Pl) (n : Nat) (W : World) (e : Ending) (w' : World) : Prop :=
  ∃ v ks, e = .returned v ∧ ks.Pairwise (· < ·) ∧ (∀ x : Int, x ∈ ks ↔ Wf x ∧ (f x).isSome = true) ∧ Ints w' v ks ∧ Grow W w' ∧ ks.length ≤ n ∧ Own 3 1 W v ks.length (ks.map encZ) w'
theorem sortedO_any (b n : Nat) (f : Int → Option Pl) (W : World) (hf : AtMap W b n f) (hn : n ≤ 1000000) :
    Calls Try.prog 42 #[.func (.func 61) #[] #[.pointer (some ⟨W.heap.size, 0, none⟩)]] (W.alloc (.cells #[.map (some b)] 73)) (RetKeysO f n (W.alloc (.cells #[.map (some b)] 73))) := by
  obtain ⟨D, hown, hm, hhas, hat⟩ := hf
  have hbl := hown.lt
  have hsz := hown.size_le
  have hkeys := keys_ofP hown
  have hwf := intKeys_wf hown Try.underlying3
  have hseq : SeqGives Fence.wide 2 Try.prog 61 #[.pointer (some ⟨W.heap.size, 0, none⟩)] encZ (fun ss => ss.Perm (intKeys D)) (Maps.size D) (W.alloc (.cells #[.map (some b)] 73)) :=
    AnyZI.keys_gives (ρ := Try.keysP_ren) { Try.keysP with } Fence.wide _ trivial rfl (by omega) W.heap.size b n D _ (by simp) (by simp) (by
      obtain ⟨es, clock, hb, Ft, hs, hD⟩ := hown
      exact ⟨es, clock, (Below.heap_alloc _ _ b hbl).trans hb, Ft, hs, hD⟩)
  have cS := AnyZI.sorted_in Try.sortedF Fence.wide 5 trivial trivial trivial trivial rfl (by omega) (sortsF _) (enters_of Try.func56 (by kernel_rfl) rfl) 61 #[.pointer (some ⟨W.heap.size, 0, none⟩)] trivial (enters_of Try.func61 (by kernel_rfl) rfl) _ _ (by unfold maxLen; omega) (by omega) _ hseq
  change CallsIn _ _ Try.prog 42 _ _ _ at cS
  refine ((callsIn_wide (n := 5)).1 cS).mono ?_
  rintro e w' ⟨v, ss, rfl, hS, hrow, -, hb⟩
  have hnd : ss.Nodup := hS.nodup_iff.2 hkeys.1
  have hlen : ss.length ≤ n := by
    have h1 := hS.length_eq
    obtain ⟨es, rfl⟩ := hm
    have h2 : (intKeys (.map es : DataW Unit)).length = es.length := by simp [intKeys]
    have h3 : Maps.size (.map es : DataW Unit) = es.length := rfl
    omega
  refine ⟨v, ss.mergeSort (fun x y => decide (x ≤ y)), rfl, sorted_lt hnd, fun x => ?_, ?_, hb, by rw [List.length_mergeSort]; exact hlen, ?_⟩
  · rw [(List.mergeSort_perm ss _).mem_iff, hS.mem_iff, hkeys.2]
    constructor
    · intro hx
      have hw : Wf x := wf_inv (hwf x ((hkeys.2 x).2 hx))
      exact ⟨hw, by rw [← hhas x hw]; exact hx⟩
    · rintro ⟨hw, hx⟩
      rw [hhas x hw]; exact hx
  · have e1 : ss.length = (ss.mergeSort (fun x y => decide (x ≤ y))).length := by rw [List.length_mergeSort]
    rw [e1] at hrow
    have hO : Own 3 1 (W.alloc (.cells #[.map (some b)] 73)) v (ss.mergeSort (fun x y => decide (x ≤ y))).length ((ss.mergeSort (fun x y => decide (x ≤ y))).map encZ) w' := ⟨hrow, hb⟩
    refine hO.reads fun i x hx => ?_
    rw [Nat.mul_one, List.take_one, List.head?_drop, List.getElem?_map, hx]; rfl
  · have e1 : ss.length = (ss.mergeSort (fun x y => decide (x ≤ y))).length := by rw [List.length_mergeSort]
    rw [e1] at hrow
    have hO : Own 3 1 (W.alloc (.cells #[.map (some b)] 73)) v (ss.mergeSort (fun x y => decide (x ≤ y))).length ((ss.mergeSort (fun x y => decide (x ≤ y))).map encZ) w' := ⟨hrow, hb⟩
    exact hO
set_option maxRecDepth 100000 in
theorem pages_own {w : World} {B a h : Nat} {g : Geo} {n : Nat} {A : Int → Option Pl} {H : Pl → Option Int} (s : MSt w B a h g n A H) (hn : n ≤ 1000000) :
    Calls Try.prog 24 #[.pointer (some ⟨B, 0, none⟩)] w (RetKeysO A n w) := by
  obtain ⟨c0, c1, c2, c3, c4, c5, c6⟩ := map7 s.1
  have hB : B < w.heap.size := (Array.getElem?_eq_some_iff.1 s.1).1
  have cK := keysP_any (some a) w
  have cS := sortedO_any a n A w s.2.1 hn
  clear s
  go_enter Try.func24, Try.ntmps24
  go_wp2_with fail
  refine cK.mono ?_
  rintro e w1 ⟨rfl, rfl⟩
  go_wp2_with fail
  refine cS.mono ?_
  rintro e w2 ⟨v, ks, rfl, k1, k2, k3, k4, k5, k6⟩
  go_wp2_with fail
  go_ret
  exact ⟨v, ks, rfl, k1, k2, k3, ((Grow.refl w).alloc _).trans k4, k5, k6.base ((Grow.refl w).alloc _)⟩
theorem new_oneI (w : World) (u : Value) (t : TypeId) : ∀ (j : Nat) x, [u][j]? = some x → (w.alloc (.cells #[u] t)).cell? ((⟨w.heap.size, 0, none⟩ : Addr).add j) = some x := by
  intro j x hj
  have : (⟨w.heap.size, 0, none⟩ : Addr).add j = ⟨w.heap.size, j, none⟩ := by unfold Addr.add; split <;> simp_all
  rw [this, cell_of_row _ w.heap.size j #[u] t (0, 0) (heap_alloc_new w _)]
  simpa using hj
set_option maxRecDepth 100000 in
set_option maxHeartbeats 1000000 in
theorem overInts_any (v : Value) (n base : Nat) (xs : List Value) (w : World) (h : w.ownsRow base 3 1 v n xs) (hn : n ≤ 1000000000) (hb : base ≤ w.heap.size) :
    Calls Try.prog 37 #[v] w fun e w' => e = .returned (.tuple #[]) ∧ w.grownBy w' v.ownBlock := by
  obtain ⟨i0, hi0, hz0, hz1, hz2⟩ := info_parts info_int13
  by_cases h0 : 0 < n
  · obtain ⟨g, cap, rfl, hcap⟩ : ∃ g cap, v = .slice (some ⟨g, 0, none⟩) n cap ∧ n ≤ cap := by
      rcases h.2 with ⟨-, e⟩ | ⟨g, cap, _, e, _, _, hc, _⟩
      · omega
      · exact ⟨g, cap, e, hc⟩
    have HO := Lib.hid h
    clear h
    go_enter Try.func37, Try.ntmps37
    go_wp2_with fail
    go_loopw [2] (fun v2 wx => ∃ j : Nat, v2 = .int .i64 j ∧ j ≤ n ∧ w.grownBy wx (some g) ∧ ∃ ys, wx.ownsRow base 3 1 (.slice (some ⟨g, 0, none⟩) n cap) n ys) (fun v2 _ => n - (Go.RowKit.intOf v2).toNat)
    case atStart => exact ⟨0, rfl, by omega, World.grownBy.refl _ _, xs, HO.out⟩
    case round =>
      obtain ⟨j, rfl, hj, hg, ys, hy⟩ := hrel
      have HG := Lib.hid hg
      have HY := Lib.hid hy
      clear hg
      by_cases hlt : j < n
      · have hlt' : (j : Int) < n := by omega
        obtain ⟨u, hu⟩ : ∃ u, ys[j]? = some u := ⟨_, List.getElem?_eq_getElem (by have := hy.1; omega)⟩
        have hc : wr.cell? ⟨g, j, none⟩ = some u := (hy.cellAt j (by omega)).trans hu
        have hf : wr.frozen? ⟨g, j, none⟩ = false := hy.frozenAt j
        clear hy hu
        go_wp2_with fail
        go_roundw
        case rel => exact ⟨j + 1, by go_num, by omega, World.grownBy.trans HG.out (HY.out.stored j _).2, _, (HY.out.stored j _).1⟩
        case measure => simp [Go.RowKit.intOf]; omega
      · have hlt' : ¬ (j : Int) < n := by omega
        clear hy
        have hbw := HG.out.size
        go_wp2_with (at_builtin; refine wpList_append_own _ rfl _ _ 36 rfl base 3 i0 _ 1 8 Try.underlying36 hi0 hz0 hz1 hz2 rfl (by decide) _ n ys rfl (HY.out.alloc _) ⟨wr.heap.size, 0, none⟩ 1 1 [.int .i64 (-999)] rfl rfl ?_ ?_ ?_ ?_ ?_ ?_; exact new_oneI wr _ _; (intro u hu; simp at hu; subst hu; rfl); (unfold maxLen; omega); omega; (simp; omega); intro v' w' ho' hg' _)
        go_end0
        exact ⟨rfl, World.grownBy.trans (World.grownBy.trans HG.out (World.grownBy_alloc wr _ _)) hg'⟩
  · have hn0 : n = 0 := by omega
    subst hn0
    obtain ⟨a, c, rfl⟩ : ∃ a c, v = .slice a 0 c := by
      rcases h.2 with ⟨rfl, -⟩ | ⟨_, _, _, rfl, _⟩
      · exact ⟨_, _, rfl⟩
      · exact ⟨_, _, rfl⟩
    have HO := Lib.hid h
    clear h
    go_enter Try.func37, Try.ntmps37
    go_wp2_with fail
    go_loopw [2] (fun v2 wx => v2 = .int .i64 0 ∧ w.grownBy wx (Value.ownBlock (.slice a 0 c)) ∧ wx.ownsRow base 3 1 (.slice a 0 c) 0 xs) (fun _ _ => 0)
    case atStart => exact ⟨rfl, World.grownBy.refl _ _, HO.out⟩
    case round =>
      obtain ⟨rfl, hg, hy⟩ := hrel
      have HG := Lib.hid hg
      have HY := Lib.hid hy
      have hbw := hg.size
      clear hg hy
      go_wp2_with (at_builtin; refine wpList_append_own _ rfl _ _ 36 rfl base 3 i0 _ 1 8 Try.underlying36 hi0 hz0 hz1 hz2 rfl (by decide) _ 0 xs rfl (HY.out.alloc _) ⟨wr.heap.size, 0, none⟩ 1 1 [.int .i64 (-999)] rfl rfl ?_ ?_ ?_ ?_ ?_ ?_; exact new_oneI wr _ _; (intro u hu; simp at hu; subst hu; rfl); (unfold maxLen; omega); omega; (simp; omega); intro v' w' ho' hg' _)
      go_end0
      exact ⟨rfl, World.grownBy.trans (World.grownBy.trans HG.out (World.grownBy_alloc wr _ _)) hg'⟩
end Go.Proofs.Ytcfkpaijlibjaaa
