/- The walk of the law MapsTurn. -/
import Derived.Test.YtcfkpaijlibjaaaTurnL
import Derived.Test.YtcfkpaijlibjaaaActs
import Derived.StillTailTactics
set_option linter.unusedVariables false
set_option linter.unusedSimpArgs false
namespace Go.Proofs.Ytcfkpaijlibjaaa
open Go.RowKit Go.Lib Go.Maps
/-- What the loop over the acts keeps: the map stands, pages and places are one to one. -/
def TurnI (w : World) (g : Geo) (B a h j : Nat) (wx : World) : Prop :=
  Grow w wx ∧ wx.heap[w.heap.size]? = some (geoO g) ∧ (w.heap.size < B ∧ w.heap.size < a ∧ w.heap.size < h) ∧ ∃ A H, MSt wx B a h g j A H ∧ Two g A H
theorem TurnI.grow {w : World} {g : Geo} {B a h j : Nat} {wx wy : World} (t : TurnI w g B a h j wx) (e : Grow wx wy) : TurnI w g B a h j wy := by
  obtain ⟨h1, h2, h3, A, H, h4, h5⟩ := t
  exact ⟨h1.trans e, e.blk h2, h3, A, H, h4.grow e, h5⟩
theorem TurnI.turn {w : World} {g : Geo} {B a h j k : Nat} {wx wy : World} (t : TurnI w g B a h j wx) (e : Turn2 a h wx wy) {A : Int → Option Pl} {H : Pl → Option Int} (s : MSt wy B a h g k A H) (tw : Two g A H) : TurnI w g B a h k wy := by
  obtain ⟨h1, h2, h3, -⟩ := t
  exact ⟨e.grow h1 (by omega) (by omega), (e.block _ (Array.getElem?_eq_some_iff.1 h2).1 (by omega) (by omega)).trans h2, h3, A, H, s, tw⟩
def RetTurn (w : World) (g : Geo) (B a h j : Nat) (e : Ending) (w' : World) : Prop := (∃ b, e = .returned (.bool b)) ∧ TurnI w g B a h j w'
theorem turn_drop {w : World} {g : Geo} {B a h j : Nat} {W : World} (t : TurnI w g B a h j W) (hm : mayG g = true) (x : Int) (hx : Wf x) :
    Calls Try.prog 22 #[.pointer (some ⟨B, 0, none⟩), .int .i64 x] W (RetTurn w g B a h (j + 1)) := by
  obtain ⟨-, -, -, A, H, s, tw⟩ := id t
  refine (drop_map s x hx (fun p hp => (tw.inside hm hp).1)).mono ?_
  rintro e w' ⟨rfl, t2, s2⟩
  exact ⟨⟨_, rfl⟩, t.turn t2 (s2.more (by omega)) (tw.drop x)⟩
theorem turn_put {w : World} {g : Geo} {B a h j : Nat} {W : World} (t : TurnI w g B a h j W) (hm : mayG g = true) (x b p : Int) (hx : Wf x) (hb : Wf b) (hp : Wf p) (hj : j ≤ 100000000) :
    Calls Try.prog 23 #[.pointer (some ⟨B, 0, none⟩), .int .i64 x, .agg #[.int .i64 b, .int .i64 p]] W (RetTurn w g B a h (j + 1)) := by
  obtain ⟨-, -, -, A, H, s, tw⟩ := id t
  refine (put_map s x ⟨b, p⟩ hx ⟨hb, hp⟩ (fun p hp => (tw.inside hm hp).1) hj).mono ?_
  rintro e w' ⟨rfl, t2, s2, s3⟩
  refine ⟨⟨_, rfl⟩, ?_⟩
  cases e : putOk g H x ⟨b, p⟩ with
  | true => exact t.turn t2 (s2 e) (tw.put x _ e)
  | false => exact t.turn t2 (s3 e) tw
/-- What is asked behind the acts. -/
structure Asked (w : World) (g : Geo) (B a h : Nat) (wx : World) (A : Int → Option Pl) (H : Pl → Option Int) (v : Value) (ks : List Int) (L : List Pl) : Prop where
  grow : Grow w wx
  box : wx.heap[w.heap.size]? = some (geoO g)
  st : MSt wx B a h g 60 A H
  two : Two g A H
  ints : Ints wx v ks
  up : ks.Pairwise (· < ·)
  mem : ∀ x : Int, x ∈ ks ↔ Wf x ∧ (A x).isSome = true
  len : ks.length ≤ 60
  cnt : L.length = ks.length
  nodup : L.Nodup
  places : ∀ p, WfP p → (p ∈ L ↔ (H p).isSome = true)
  ins : ∀ p ∈ L, WfP p ∧ 0 ≤ p.b ∧ p.b < g.blocks
theorem Asked.more {w : World} {g : Geo} {B a h : Nat} {wx wy : World} {A : Int → Option Pl} {H : Pl → Option Int} {v : Value} {ks : List Int} {L : List Pl} (q : Asked w g B a h wx A H v ks L) (e : Grow wx wy) : Asked w g B a h wy A H v ks L :=
  ⟨q.grow.trans e, e.blk q.box, q.st.grow e, q.two, Ints.grow q.ints e, q.up, q.mem, q.len, q.cnt, q.nodup, q.places, q.ins⟩
theorem Asked.live {w : World} {g : Geo} {B a h : Nat} {wx : World} {A : Int → Option Pl} {H : Pl → Option Int} {v : Value} {ks : List Int} {L : List Pl} (q : Asked w g B a h wx A H v ks L) (blk : Int) :
    Calls Try.prog 27 #[.pointer (some ⟨B, 0, none⟩), .int .i64 blk] wx fun e w' => e = .returned (.int .i64 (inB L blk : Nat)) ∧ Grow wx w' := by
  refine (live_map q.st blk (by omega)).mono ?_
  rintro e w' ⟨g1, ps, hnd, hps, hwp, rfl⟩
  refine ⟨?_, g1⟩
  have := same_count (P := fun _ => True) hnd q.nodup (fun p => ⟨fun hp => (q.places p (hwp p hp)).2 ((hps p (hwp p hp)).1 hp), fun hp => (hps p (q.ins p hp).1).2 ((q.places p (q.ins p hp).1).1 hp)⟩) blk
  rw [← this]; rfl
theorem Asked.page {w : World} {g : Geo} {B a h : Nat} {wx : World} {A : Int → Option Pl} {H : Pl → Option Int} {v : Value} {ks : List Int} {L : List Pl} (q : Asked w g B a h wx A H v ks L) (hm : mayG g = true) {i : Nat} {x : Int} (hx : ks[i]? = some x) :
    ∃ p, A x = some p ∧ H p = some x ∧ WfP p ∧ Wf x := by
  have h1 := (q.mem x).1 (List.mem_of_getElem? hx)
  obtain ⟨p, hp⟩ := Option.isSome_iff_exists.1 h1.2
  exact ⟨p, hp, q.two.one x p hp, (q.two.inside hm hp).1, h1.1⟩
theorem Asked.step {ks : List Int} (up : ks.Pairwise (· < ·)) {i : Nat} {x y : Int} (hx : ks[i + 1]? = some x) (hy : ks[i]? = some y) : y < x := by
  obtain ⟨h1, rfl⟩ := List.getElem?_eq_some_iff.1 hx
  obtain ⟨h2, rfl⟩ := List.getElem?_eq_some_iff.1 hy
  exact List.pairwise_iff_getElem.1 up i (i + 1) h2 h1 (by omega)
theorem turn_pages {w : World} {g : Geo} {B a h j : Nat} {W : World} (t : TurnI w g B a h j W) (hm : mayG g = true) (hj : j ≤ 60) :
    Calls Try.prog 24 #[.pointer (some ⟨B, 0, none⟩)] W fun e w' => ∃ v ks A H L, e = .returned v ∧ Asked w g B a h w' A H v ks L := by
  obtain ⟨h1, h2, h3, A, H, s, tw⟩ := t
  refine (pages_map s (by omega)).mono ?_
  rintro e w' ⟨v, ks, rfl, k1, k2, k3, k4, k5⟩
  obtain ⟨L, l1, l2, l3, l4⟩ := tw.canon hm k1 k2
  exact ⟨v, ks, A, H, L, rfl, h1.trans k4, k4.blk h2, (s.grow k4).more hj, tw, k3, k1, k2, by omega, l1, l2, l3, l4⟩
end Go.Proofs.Ytcfkpaijlibjaaa
