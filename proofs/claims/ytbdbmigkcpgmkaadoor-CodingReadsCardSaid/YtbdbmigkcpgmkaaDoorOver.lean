/- The walks of jotterlaw0's OverBytes: what was answered is written over. -/
import Derived.Test.YtbdbmigkcpgmkaaDoorApp
import Derived.Test.YtbdbmigkcpgmkaaDoorOwn
set_option linter.unusedVariables false
set_option linter.unusedSimpArgs false
namespace Go.Proofs.YtbdbmigkcpgmkaaDoor
open Go.RowKit Go.Lib
theorem new_one (w : World) (u : Value) (t : TypeId) : ∀ (j : Nat) x, [u][j]? = some x → (w.alloc (.cells #[u] t)).cell? ((⟨w.heap.size, 0, none⟩ : Addr).add j) = some x := by
  intro j x hj
  have : (⟨w.heap.size, 0, none⟩ : Addr).add j = ⟨w.heap.size, j, none⟩ := by unfold Addr.add; split <;> simp_all
  rw [this, cell_of_row _ w.heap.size j #[u] t (0, 0) (heap_alloc_new w _)]
  simpa using hj
theorem row_reads {α : Type} {R : World → α → List Value → Prop} {e : TypeId} {k base : Nat} {v : Value} {xs : List Value} {w : World} {l : List α} (h : w.ownsRow base e k v l.length xs)
    (hR : ∀ (i : Nat) (x : α), l[i]? = some x → R w x ((xs.drop (i * k)).take k)) : Reads R k w v l := by
  have hlen := h.1
  rcases h.2 with ⟨rfl, h0⟩ | ⟨g, cap, cur, rfl, hb, hg, hn, hc, hs, ht⟩
  · exact ⟨none, 0, by rw [h0], by omega, fun hp => absurd hp (by omega)⟩
  · refine ⟨_, _, rfl, hn, fun hp => ⟨g, 0, rfl, (Array.getElem?_eq_some_iff.1 hg).1, fun i hi => ⟨(xs.drop (i * k)).take k, ?_, fun x hx => hR i x hx, fun j u hu => ?_⟩⟩⟩
    · rw [List.length_take, List.length_drop, hlen]
      have : (i + 1) * k ≤ l.length * k := Nat.mul_le_mul_right k hi
      rw [Nat.add_mul, Nat.one_mul] at this
      omega
    · have hu' : xs[i * k + j]? = some u := by
        rw [List.getElem?_take] at hu
        split at hu
        · rwa [List.getElem?_drop] at hu
        · cases hu
      have := h.cells (g := g) rfl (i * k + j) u hu'
      rw [← this]; congr 1; unfold Addr.add; split <;> simp_all
theorem row_bytes {base : Nat} {v : Value} {w : World} {l : List UInt8} (h : w.ownsRow base 5 1 v l.length (l.map byteV)) : Bytes w v l :=
  row_reads h fun i x hx => by rw [Nat.mul_one, List.take_one, List.head?_drop, List.getElem?_map, hx]; rfl
set_option maxRecDepth 100000 in
set_option maxHeartbeats 1000000 in
theorem overBytes_any (v : Value) (n base : Nat) (xs : List Value) (w : World) (h : w.ownsRow base 5 1 v n xs) (hn : n ≤ 1000000000) (hb : base ≤ w.heap.size) :
    Calls Tryd.prog 29 #[v] w fun e w' => e = .returned (.tuple #[]) ∧ w.grownBy w' v.ownBlock := by
  obtain ⟨i0, hi0, hz0, hz1, hz2⟩ := info_parts info_u8
  by_cases h0 : 0 < n
  · obtain ⟨g, cap, rfl, hcap⟩ : ∃ g cap, v = .slice (some ⟨g, 0, none⟩) n cap ∧ n ≤ cap := by
      rcases h.2 with ⟨-, e⟩ | ⟨g, cap, _, e, _, _, hc, _⟩
      · omega
      · exact ⟨g, cap, e, hc⟩
    have HO := Lib.hid h
    clear h
    go_enter Tryd.func29, Tryd.ntmps29
    go_wp2_with fail
    go_loopw [2] (fun v2 wx => ∃ j : Nat, v2 = .int .i64 j ∧ j ≤ n ∧ w.grownBy wx (some g) ∧ ∃ ys, wx.ownsRow base 5 1 (.slice (some ⟨g, 0, none⟩) n cap) n ys) (fun v2 _ => n - (intOf v2).toNat)
    case atStart => exact ⟨0, rfl, by omega, World.grownBy.refl _ _, xs, HO.out⟩
    case round =>
      obtain ⟨j, rfl, hj, hg, ys, hy⟩ := hrel
      have HG := Lib.hid hg
      have HY := Lib.hid hy
      clear hg
      by_cases hlt : j < n
      · have hlt' : (j : Int) < n := by omega
        obtain ⟨u, hu⟩ : ∃ u, ys[j]? = some u := ⟨_, List.getElem?_eq_getElem (by have := hy.1; omega)⟩
        have hc : wr.cell? ⟨g, j, none⟩ = some u := (hy.cellAt j (by omega)).trans hu
        have hf : wr.frozen? ⟨g, j, none⟩ = false := hy.frozenAt j
        clear hy hu
        go_wp2_with fail
        go_roundw
        case rel => exact ⟨j + 1, by go_num, by omega, World.grownBy.trans HG.out (HY.out.stored j _).2, _, (HY.out.stored j _).1⟩
        case measure => simp [intOf]; omega
      · have hlt' : ¬ (j : Int) < n := by omega
        clear hy
        have hbw := HG.out.size
        go_wp2_with (at_builtin; refine wpList_append_own _ rfl _ _ 38 rfl base 5 i0 _ 1 1 Tryd.underlying38 hi0 hz0 hz1 hz2 rfl (by decide) _ n ys rfl (HY.out.alloc _) ⟨wr.heap.size, 0, none⟩ 1 1 [.int .u8 238] rfl rfl ?_ ?_ ?_ ?_ ?_ ?_; exact new_one wr _ _; (intro u hu; simp at hu; subst hu; rfl); (unfold maxLen; omega); omega; (simp; omega); intro v' w' ho' hg' _)
        go_end0
        exact ⟨rfl, World.grownBy.trans (World.grownBy.trans HG.out (World.grownBy_alloc wr _ _)) hg'⟩
  · have hn0 : n = 0 := by omega
    subst hn0
    obtain ⟨a, c, rfl⟩ : ∃ a c, v = .slice a 0 c := by
      rcases h.2 with ⟨rfl, -⟩ | ⟨_, _, _, rfl, _⟩
      · exact ⟨_, _, rfl⟩
      · exact ⟨_, _, rfl⟩
    have HO := Lib.hid h
    clear h
    go_enter Tryd.func29, Tryd.ntmps29
    go_wp2_with fail
    go_loopw [2] (fun v2 wx => v2 = .int .i64 0 ∧ w.grownBy wx (Value.ownBlock (.slice a 0 c)) ∧ wx.ownsRow base 5 1 (.slice a 0 c) 0 xs) (fun _ _ => 0)
    case atStart => exact ⟨rfl, World.grownBy.refl _ _, HO.out⟩
    case round =>
      obtain ⟨rfl, hg, hy⟩ := hrel
      have HG := Lib.hid hg
      have HY := Lib.hid hy
      have hbw := hg.size
      clear hg hy
      go_wp2_with (at_builtin; refine wpList_append_own _ rfl _ _ 38 rfl base 5 i0 _ 1 1 Tryd.underlying38 hi0 hz0 hz1 hz2 rfl (by decide) _ 0 xs rfl (HY.out.alloc _) ⟨wr.heap.size, 0, none⟩ 1 1 [.int .u8 238] rfl rfl ?_ ?_ ?_ ?_ ?_ ?_; exact new_one wr _ _; (intro u hu; simp at hu; subst hu; rfl); (unfold maxLen; omega); omega; (simp; omega); intro v' w' ho' hg' _)
      go_end0
      exact ⟨rfl, World.grownBy.trans (World.grownBy.trans HG.out (World.grownBy_alloc wr _ _)) hg'⟩
end Go.Proofs.YtbdbmigkcpgmkaaDoor
