/- MapsScript: what its loop keeps. -/
import Derived.Test.YtcfkpaijlibjaaaMapO
import Derived.Test.YtcfkpaijlibjaaaActs
set_option linter.unusedVariables false
set_option linter.unusedSimpArgs false
namespace Go.Proofs.Ytcfkpaijlibjaaa
open Go.RowKit Go.Lib Go.Maps Go.Sort
section
variable {w w' : World} {B a h : Nat} {g : Geo} {n : Nat} {A : Int → Option Pl} {H : Pl → Option Int} {R b c base : Nat}
theorem box_turn2 {X : Nat} {cs : Array Value} {t : TypeId} {m : Nat × Nat} (s : MSt w B a h g n A H) (hX : w.heap[X]? = some (.cells cs t m)) (e : Turn2 a h w w') : w'.heap[X]? = some (.cells cs t m) := by
  obtain ⟨⟨_, _, h1⟩, _, _, h2⟩ := s.maps
  exact (e.block X (Array.getElem?_eq_some_iff.1 hX).1 (by rintro rfl; rw [hX] at h1; cases h1) (by rintro rfl; rw [hX] at h2; cases h2)).trans hX
theorem box_turned {X : Nat} {cs : Array Value} {t : TypeId} {m : Nat × Nat} (s : RSt base w R b c g A) (ht : t ≠ 3) (hX : w.heap[X]? = some (.cells cs t m)) (e : Turned b w w') : w'.heap[X]? = some (.cells cs t m) := by
  obtain ⟨cur, h1⟩ := s.row
  refine (e.block X (Array.getElem?_eq_some_iff.1 hX).1 ?_).trans hX
  rintro rfl
  rw [hX] at h1
  injection h1 with h1
  injection h1 with h1 h2
  exact ht h2
theorem put_out {x : Int} {p : Pl} (m1 : putOk g H x p = true → MSt w' B a h g (n + 1) (putA A x p) (putH A H x p)) (m2 : putOk g H x p = false → MSt w' B a h g (n + 1) A H) :
    MSt w' B a h g (n + 1) (if putOk g H x p then putA A x p else A) (if putOk g H x p then putH A H x p else H) := by
  cases e : putOk g H x p with
  | true => exact m1 e
  | false => exact m2 e
theorem Two.put' (t : Two g A H) (x : Int) (p : Pl) : Two g (if putOk g H x p then putA A x p else A) (if putOk g H x p then putH A H x p else H) := by
  cases e : putOk g H x p with
  | true => exact t.put x p e
  | false => exact t
end
theorem RSt.base_mono {base base' : Nat} {w : World} {R b c : Nat} {g : Geo} {A : Int → Option Pl} (s : RSt base w R b c g A) (hb : base' ≤ base) : RSt base' w R b c g A := by
  refine ⟨by have := s.1; omega, s.2.1, s.2.2.1, ?_⟩
  rcases s.2.2.2 with h | ⟨g', cap, cur, h, h2, h3⟩
  · exact .inl h
  · exact .inr ⟨g', cap, cur, h, by omega, h3⟩
theorem live_cnt {g : Geo} {A : Int → Option Pl} {H : Pl → Option Int} (t : Two g A H) (hm : mayG g = true) {ps : List Pl} (hnd : ps.Nodup) (hps : ∀ p, WfP p → (p ∈ ps ↔ (H p).isSome = true)) (hwp : ∀ p ∈ ps, WfP p) (blk : Int) :
    (ps.filter (fun p => p.b == blk)).length = cntB A blk (logN g) := by
  have hl := (logN_bd hm).2.2
  have hks := fun x => pagesTo_mem A (logN g) x
  have hk := pagesTo_up A (logN g)
  have hA : ∀ x ∈ pagesTo A (logN g), ∃ p, A x = some p := fun x hx => Option.isSome_iff_exists.1 ((hks x).1 hx).2.2
  have hnd2 : ((pagesTo A (logN g)).map (fun x => (A x).getD ⟨0, 0⟩)).Nodup := nodup_map_of (hk.imp (fun h => by omega)) (fun x hx y hy e => by
    obtain ⟨p, h1⟩ := hA x hx
    obtain ⟨q, h2⟩ := hA y hy
    rw [h1, h2] at e
    simp only [Option.getD_some] at e
    have h3 := t.one x p h1
    rw [e, t.one y q h2] at h3
    exact (Option.some.inj h3).symm)
  have hmem : ∀ p, p ∈ (pagesTo A (logN g)).map (fun x => (A x).getD ⟨0, 0⟩) ↔ p ∈ ps := fun p => by
    constructor
    · intro h
      obtain ⟨x, hx, e⟩ := List.mem_map.1 h
      obtain ⟨q, h1⟩ := hA x hx
      rw [h1] at e
      simp only [Option.getD_some] at e
      rw [← e]
      exact (hps q (t.inside hm h1).1).2 (by rw [t.one x q h1]; rfl)
    · intro h
      obtain ⟨x, h1⟩ := Option.isSome_iff_exists.1 ((hps p (hwp p h)).1 h)
      have h2 := t.back x p h1
      have h3 := t.page x p h2
      exact List.mem_map.2 ⟨x, (hks x).2 ⟨h3.1, by omega, by rw [h2]; rfl⟩, by rw [h2]; rfl⟩
  have e1 := same_count (P := fun _ => True) hnd2 hnd hmem blk
  unfold inB at e1
  rw [← e1]
  unfold cntB pagesTo
  rw [List.map_map, List.filter_map, List.length_map, List.filter_filter]
  congr 1
  refine List.filter_congr fun i _ => ?_
  unfold atB
  simp only [Function.comp]
  cases A (i : Int) with
  | none => simp
  | some p => simp
theorem pages_eq {g : Geo} {A : Int → Option Pl} {H : Pl → Option Int} (t : Two g A H) (hm : mayG g = true) {ks : List Int} (h1 : ks.Pairwise (· < ·)) (h2 : ∀ x : Int, x ∈ ks ↔ Wf x ∧ (A x).isSome = true) : ks = pagesTo A (logN g) := by
  have hl := logN_bd hm
  refine up_unique h1 (pagesTo_up A _) fun x => ?_
  rw [h2, pagesTo_mem]
  constructor
  · rintro ⟨-, h⟩
    obtain ⟨p, hp⟩ := Option.isSome_iff_exists.1 h
    have := t.page x p hp
    exact ⟨this.1, by omega, h⟩
  · rintro ⟨h3, h4, h5⟩
    exact ⟨by unfold Wf; omega, h5⟩
/-- What the loop keeps. -/
def ScrI (w : World) (g : Geo) (B a h R b c j : Nat) (wx : World) : Prop :=
  Grow w wx ∧ (w.heap.size ≤ B ∧ w.heap.size ≤ a ∧ w.heap.size ≤ h) ∧ ∃ A H, MSt wx B a h g j A H ∧ RSt w.heap.size wx R b c g A ∧ Two g A H
theorem ScrI.grow {w wx wy : World} {g : Geo} {B a h R b c j : Nat} (s : ScrI w g B a h R b c j wx) (e : Grow wx wy) : ScrI w g B a h R b c j wy := by
  obtain ⟨h1, h2, A, H, h3, h4, h5⟩ := s
  exact ⟨h1.trans e, h2, A, H, h3.grow e, h4.grow e, h5⟩
theorem ScrI.more {w wx : World} {g : Geo} {B a h R b c j k : Nat} (s : ScrI w g B a h R b c j wx) (e : j ≤ k) : ScrI w g B a h R b c k wx := by
  obtain ⟨h1, h2, A, H, h3, h4, h5⟩ := s
  exact ⟨h1, h2, A, H, h3.more e, h4, h5⟩
abbrev actO (x : ActM) : Obj := .cells #[.int .i64 x.d, .int .i64 x.x, .int .i64 x.b, .int .i64 x.p] 48
theorem box4 {w : World} {b : Nat} {t : TypeId} {m : Nat × Nat} {u0 u1 u2 u3 : Value} (hb : w.heap[b]? = some (.cells #[u0, u1, u2, u3] t m)) :
    w.cell? ⟨b, 0, none⟩ = some u0 ∧ w.cell? ⟨b, 1, none⟩ = some u1 ∧ w.cell? ⟨b, 2, none⟩ = some u2 ∧ w.cell? ⟨b, 3, none⟩ = some u3 :=
  ⟨(cell_of_row w b 0 _ _ _ hb).trans rfl, (cell_of_row w b 1 _ _ _ hb).trans rfl, (cell_of_row w b 2 _ _ _ hb).trans rfl, (cell_of_row w b 3 _ _ _ hb).trans rfl⟩
/-- Both answers to what is asked of a page and a place. -/
structure Both (w : World) (g : Geo) (B a h R b c : Nat) (wx : World) (n : Nat) (A : Int → Option Pl) (H : Pl → Option Int) : Prop where
  grow : Grow w wx
  st : MSt wx B a h g n A H
  ref : RSt w.heap.size wx R b c g A
  two : Two g A H
theorem Both.more {w : World} {g : Geo} {B a h R b c : Nat} {wx wy : World} {n : Nat} {A : Int → Option Pl} {H : Pl → Option Int} (s : Both w g B a h R b c wx n A H) (e : Grow wx wy) : Both w g B a h R b c wy n A H :=
  ⟨s.grow.trans e, s.st.grow e, s.ref.grow e, s.two⟩
theorem Both.live {w : World} {g : Geo} {B a h R b c : Nat} {wx : World} {n : Nat} {A : Int → Option Pl} {H : Pl → Option Int} (s : Both w g B a h R b c wx n A H) (hm : mayG g = true) (hn : n ≤ 1000000) (blk : Int) :
    Calls Try.prog 27 #[.pointer (some ⟨B, 0, none⟩), .int .i64 blk] wx fun e w' => e = .returned (.int .i64 (cntB A blk (logN g) : Nat)) ∧ Grow wx w' := by
  refine (live_map s.st blk (by omega)).mono ?_
  rintro e w' ⟨g1, ps, hnd, hps, hwp, rfl⟩
  exact ⟨ret_len (live_cnt s.two hm hnd hps hwp blk), g1⟩
def RetPg (A : Int → Option Pl) (g : Geo) (w : World) (e : Ending) (w' : World) : Prop := ∃ v, e = .returned v ∧ Own 3 1 w v (pagesTo A (logN g)).length ((pagesTo A (logN g)).map (Value.int .i64)) w'
theorem Both.pages {w : World} {g : Geo} {B a h R b c : Nat} {wx : World} {n : Nat} {A : Int → Option Pl} {H : Pl → Option Int} (s : Both w g B a h R b c wx n A H) (hm : mayG g = true) (hn : n ≤ 1000000) :
    Calls Try.prog 24 #[.pointer (some ⟨B, 0, none⟩)] wx (RetPg A g wx) := by
  refine (pages_own s.st hn).mono ?_
  rintro e w' ⟨v, ks, rfl, k1, k2, k3, k4, k5, k6⟩
  rw [pages_eq s.two hm k1 k2] at k6
  exact ⟨v, rfl, k6⟩
theorem own_ints {w w' : World} {v : Value} {l : List Int} (h : Own 3 1 w v l.length (l.map (Value.int .i64)) w') : Ints w' v l := by
  refine h.reads fun i x hx => ?_
  rw [Nat.mul_one, List.take_one, List.head?_drop, List.getElem?_map, hx]; rfl
/-- Behind the map's change, ahead of the reference's. -/
structure Mid (w : World) (g : Geo) (B a h R b c X : Nat) (x : ActM) (wx : World) (n : Nat) (A H A' H') : Prop where
  grow : Grow w wx
  low : w.heap.size ≤ B ∧ w.heap.size ≤ a ∧ w.heap.size ≤ h
  st : MSt wx B a h g n A' H'
  ref : RSt w.heap.size wx R b c g A
  two : Two g A H
  box : wx.heap[X]? = some (actO x)
def newA (g : Geo) (A : Int → Option Pl) (H : Pl → Option Int) (x : ActM) : Int → Option Pl := if putOk g H x.x ⟨x.b, x.p⟩ then putA A x.x ⟨x.b, x.p⟩ else A
def newH (g : Geo) (A : Int → Option Pl) (H : Pl → Option Int) (x : ActM) : Pl → Option Int := if putOk g H x.x ⟨x.b, x.p⟩ then putH A H x.x ⟨x.b, x.p⟩ else H
def RetMid (r : Bool) (P : World → Prop) (e : Ending) (w' : World) : Prop := e = .returned (.bool r) ∧ P w'
theorem act_ne : 48 ≠ 3 := by decide
section
variable {w wx : World} {g : Geo} {B a h R b c X n : Nat} {x : ActM} {A A' : Int → Option Pl} {H H' : Pl → Option Int}
theorem put_first (s : Mid w g B a h R b c X x wx n A H A H) (hm : mayG g = true) (hx : WfA x) (hn : n ≤ 100000000) :
    Calls Try.prog 23 #[.pointer (some ⟨B, 0, none⟩), .int .i64 x.x, .agg #[.int .i64 x.b, .int .i64 x.p]] wx (RetMid (putOk g H x.x ⟨x.b, x.p⟩) fun w' => Mid w g B a h R b c X x w' (n + 1) A H (newA g A H x) (newH g A H x)) := by
  refine (put_map s.st x.x ⟨x.b, x.p⟩ hx.2.1 ⟨hx.2.2.1, hx.2.2.2⟩ (fun p hp => (s.two.inside hm hp).1) hn).mono ?_
  rintro e w' ⟨rfl, t2, m1, m2⟩
  exact ⟨rfl, t2.grow s.grow s.low.2.1 s.low.2.2, s.low, put_out m1 m2, s.ref.kept t2 s.st.maps.1 s.st.maps.2, s.two, box_turn2 s.st s.box t2⟩
theorem put_second (s : Mid w g B a h R b c X x wx n A H (newA g A H x) (newH g A H x)) (hm : mayG g = true) :
    Calls Try.prog 30 #[.pointer (some ⟨R, 0, none⟩), .int .i64 x.x, .agg #[.int .i64 x.b, .int .i64 x.p]] wx (RetMid (putOk g H x.x ⟨x.b, x.p⟩) fun w' => Mid w g B a h R b c X x w' n (newA g A H x) (newH g A H x) (newA g A H x) (newH g A H x)) := by
  refine (rput_any s.ref s.two hm x.x ⟨x.b, x.p⟩).mono ?_
  rintro e w' ⟨rfl, t2, r2⟩
  obtain ⟨cur, hc⟩ := s.ref.row
  exact ⟨rfl, t2.grow s.grow s.ref.lt.1, s.low, s.st.kept hc t2, r2, s.two.put' _ _, box_turned s.ref act_ne s.box t2⟩
theorem drop_first (s : Mid w g B a h R b c X x wx n A H A H) (hm : mayG g = true) (hx : WfA x) :
    Calls Try.prog 22 #[.pointer (some ⟨B, 0, none⟩), .int .i64 x.x] wx (RetMid (A x.x).isSome fun w' => Mid w g B a h R b c X x w' n A H (dropA A x.x) (dropH A H x.x)) := by
  refine (drop_map s.st x.x hx.2.1 (fun p hp => (s.two.inside hm hp).1)).mono ?_
  rintro e w' ⟨rfl, t2, m1⟩
  exact ⟨rfl, t2.grow s.grow s.low.2.1 s.low.2.2, s.low, m1, s.ref.kept t2 s.st.maps.1 s.st.maps.2, s.two, box_turn2 s.st s.box t2⟩
theorem drop_second (s : Mid w g B a h R b c X x wx n A H (dropA A x.x) (dropH A H x.x)) (hm : mayG g = true) :
    Calls Try.prog 31 #[.pointer (some ⟨R, 0, none⟩), .int .i64 x.x] wx (RetMid (A x.x).isSome fun w' => Mid w g B a h R b c X x w' n (dropA A x.x) (dropH A H x.x) (dropA A x.x) (dropH A H x.x)) := by
  refine (rdrop_any s.ref s.two hm x.x).mono ?_
  rintro e w' ⟨rfl, t2, r2⟩
  obtain ⟨cur, hc⟩ := s.ref.row
  exact ⟨rfl, t2.grow s.grow s.ref.lt.1, s.low, s.st.kept hc t2, r2, s.two.drop _, box_turned s.ref act_ne s.box t2⟩
theorem Mid.more (s : Mid w g B a h R b c X x wx n A H A' H') {wy : World} (e : Grow wx wy) : Mid w g B a h R b c X x wy n A H A' H' :=
  ⟨s.grow.trans e, s.low, s.st.grow e, s.ref.grow e, s.two, e.blk s.box⟩
theorem Mid.cells (s : Mid w g B a h R b c X x wx n A H A' H') : wx.cell? ⟨X, 0, none⟩ = some (.int .i64 x.d) ∧ wx.cell? ⟨X, 1, none⟩ = some (.int .i64 x.x) ∧ wx.cell? ⟨X, 2, none⟩ = some (.int .i64 x.b) ∧ wx.cell? ⟨X, 3, none⟩ = some (.int .i64 x.p) := box4 s.box
theorem Mid.up (s : Mid w g B a h R b c X x wx n A H A' H') {m : Nat} (e : n ≤ m) : Mid w g B a h R b c X x wx m A H A' H' := ⟨s.grow, s.low, s.st.more e, s.ref, s.two, s.box⟩
theorem Mid.both (s : Mid w g B a h R b c X x wx n A H A H) : Both w g B a h R b c wx n A H := ⟨s.grow, s.st, s.ref, s.two⟩
end
end Go.Proofs.Ytcfkpaijlibjaaa
