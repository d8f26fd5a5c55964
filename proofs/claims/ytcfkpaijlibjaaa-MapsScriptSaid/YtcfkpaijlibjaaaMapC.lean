/- Copy of a map. -/
import Derived.Test.YtcfkpaijlibjaaaMapK
import Derived.Test.YtcfkpaijlibjaaaMapD
import Derived.Deep.RegionHeld3
set_option linter.unusedVariables false
set_option linter.unusedSimpArgs false
namespace Go.Proofs.Ytcfkpaijlibjaaa
open Go.RowKit Go.Lib Go.Maps Go.Shelf
def RetCloneA (n : Nat) (A : Int → Option Pl) (W : World) (e : Ending) (w' : World) : Prop := ∃ b, e = .returned (.map (some b)) ∧ W.heap.size ≤ b ∧ AtMap w' b n A ∧ Grow W w'
def RetCloneH (n : Nat) (H : Pl → Option Int) (W : World) (e : Ending) (w' : World) : Prop := ∃ b, e = .returned (.map (some b)) ∧ W.heap.size ≤ b ∧ WhoMap w' b n H ∧ Grow W w'
theorem cloneA_any {W : World} {b n : Nat} {A : Int → Option Pl} (h : AtMap W b n A) : Calls Try.prog 51 #[.map (some b)] W (RetCloneA n A W) := by
  obtain ⟨D, hown, hr⟩ := h
  refine (AnyW.maps_Clone_owns Try.cloneA _ _ b n D W hown).mono ?_
  rintro e w' ⟨rfl, h1, -, hb⟩
  exact ⟨_, rfl, Nat.le_refl _, ⟨D, h1, hr⟩, hb⟩
theorem cloneH_any {W : World} {b n : Nat} {H : Pl → Option Int} (h : WhoMap W b n H) : Calls Try.prog 52 #[.map (some b)] W (RetCloneH n H W) := by
  obtain ⟨D, hown, hr⟩ := h
  refine (AnyW.maps_Clone_owns Try.cloneW _ _ b n D W hown).mono ?_
  rintro e w' ⟨rfl, h1, -, hb⟩
  exact ⟨_, rfl, Nat.le_refl _, ⟨D, h1, hr⟩, hb⟩
def RetCopy (g : Geo) (n : Nat) (A : Int → Option Pl) (H : Pl → Option Int) (w : World) (e : Ending) (w' : World) : Prop :=
  ∃ B a h, e = .returned (.pointer (some ⟨B, 0, none⟩)) ∧ (w.heap.size ≤ B ∧ w.heap.size ≤ a ∧ w.heap.size ≤ h) ∧ MSt w' B a h g n A H ∧ Grow w w'
set_option maxRecDepth 100000 in
set_option maxHeartbeats 2000000 in
theorem copy_map {w : World} {B a h : Nat} {g : Geo} {n : Nat} {A : Int → Option Pl} {H : Pl → Option Int} (s : MSt w B a h g n A H) :
    Calls Try.prog 29 #[.pointer (some ⟨B, 0, none⟩)] w (RetCopy g n A H w) := by
  have HS := Lib.hid s
  have hB : B < w.heap.size := (Array.getElem?_eq_some_iff.1 s.1).1
  have key : ∀ W, Grow w W → W.cell? ⟨B, 0, none⟩ = some (.int .i64 g.blocks) ∧ W.cell? ⟨B, 1, none⟩ = some (.int .i64 g.pages) ∧ W.cell? ⟨B, 2, none⟩ = some (.int .i64 g.bytes) ∧ W.cell? ⟨B, 3, none⟩ = some (.int .i64 g.spares) ∧ W.cell? ⟨B, 4, none⟩ = some (.int .i64 g.trigger) ∧ W.cell? ⟨B, 5, none⟩ = some (.map (some a)) ∧ W.cell? ⟨B, 6, none⟩ = some (.map (some h)) := fun W gW => map7 (gW.blk HS.out.1)
  have HK := Lib.hid key
  have s0 := key _ (Grow.refl w).drew
  clear s key
  go_enter Try.func29, Try.ntmps29
  go_wp2_with fail
  go_region_held3 (fun w' => w'.cell? ⟨B, 0, none⟩ = some (.int .i64 g.blocks) ∧ w'.cell? ⟨B, 1, none⟩ = some (.int .i64 g.pages) ∧ w'.cell? ⟨B, 2, none⟩ = some (.int .i64 g.bytes) ∧ w'.cell? ⟨B, 3, none⟩ = some (.int .i64 g.spares) ∧ w'.cell? ⟨B, 4, none⟩ = some (.int .i64 g.trigger) ∧ w'.cell? ⟨B, 5, none⟩ = some (.map (some a)) ∧ w'.cell? ⟨B, 6, none⟩ = some (.map (some h)))
    (with_reducible (first | exact s3 | exact s2 | exact s1 | exact s0))
    (first
      | (go_at_call 51; refine (cloneA_any (HS.out.grow (Grow.refl w).drew).2.1).mono ?_; rintro e w1 ⟨a', rfl, ha', hA', g1⟩; have g1' := (Grow.refl w).drew.trans g1; have s1 := HK.out _ g1')
      | (go_at_call 52; refine (cloneH_any (HS.out.grow g1').2.2.1).mono ?_; rintro e w2 ⟨h', rfl, hh', hH', g2⟩; have g2' := g1'.trans g2; have s2 := HK.out _ g2'; have s3 := HK.out _ (g2'.alloc (mapO g a' h'))))
  have hlt := hA'.lt
  have hlt2 := hH'.lt
  have hz1 := g1'.size
  go_wp2_with fail
  go_ret
  refine ⟨w2.heap.size, a', h', rfl, ⟨g2'.size, ha', by omega⟩, ⟨heap_alloc_new w2 _, (hA'.grow g2).grow ((Grow.refl w2).alloc _), hH'.grow ((Grow.refl w2).alloc _), by omega, by have := g2.size; omega, by omega⟩, g2'.alloc _⟩
end Go.Proofs.Ytcfkpaijlibjaaa
