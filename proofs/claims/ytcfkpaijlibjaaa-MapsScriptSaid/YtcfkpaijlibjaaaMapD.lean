/- Drop of a map. -/
import Derived.Test.YtcfkpaijlibjaaaMapA
set_option linter.unusedVariables false
set_option linter.unusedSimpArgs false
namespace Go.Proofs.Ytcfkpaijlibjaaa
open Go.RowKit Go.Lib Go.Maps
/-- All but blocks a and h is as it was. -/
structure Turn2 (a h : Nat) (w w' : World) : Prop where
  os : w'.os = w.os
  tape : w'.tape = w.tape
  output : w'.output = w.output
  size : w.heap.size ≤ w'.heap.size
  block : ∀ i, i < w.heap.size → i ≠ a → i ≠ h → w'.heap[i]? = w.heap[i]?
theorem Turn2.of_grow {a h : Nat} {w w' : World} (e : Grow w w') : Turn2 a h w w' := ⟨e.os, e.tape, e.output, Below.size e, fun i hi _ _ => Below.block e i hi⟩
theorem Turn2.of_a {a h : Nat} {w w' : World} (e : Turned a w w') : Turn2 a h w w' := ⟨e.os, e.tape, e.output, e.size, fun i hi h1 _ => e.block i hi h1⟩
theorem Turn2.of_h {a h : Nat} {w w' : World} (e : Turned h w w') : Turn2 a h w w' := ⟨e.os, e.tape, e.output, e.size, fun i hi _ h1 => e.block i hi h1⟩
theorem Turn2.refl (a h : Nat) (w : World) : Turn2 a h w w := .of_grow (Grow.refl w)
theorem Turn2.trans {a h : Nat} {u v w : World} (e : Turn2 a h u v) (g : Turn2 a h v w) : Turn2 a h u w :=
  ⟨g.os.trans e.os, g.tape.trans e.tape, g.output.trans e.output, Nat.le_trans e.size g.size, fun i hi h1 h2 => (g.block i (Nat.lt_of_lt_of_le hi e.size) h1 h2).trans (e.block i hi h1 h2)⟩
/-- Below all that stood when the maps were made, nothing changes. -/
theorem Turn2.grow {a h : Nat} {w0 w w' : World} (e : Turn2 a h w w') (g : Grow w0 w) (ha : w0.heap.size ≤ a) (hh : w0.heap.size ≤ h) : Grow w0 w' := by
  have h1 : Turned a w w := Turned.refl a w
  refine Turned.grow (b := a) (w := w0) (w0 := w0) (w' := w') ⟨e.os.trans g.os, e.tape.trans g.tape, e.output.trans g.output, Nat.le_trans g.size e.size, fun i hi _ => ?_⟩ (Grow.refl w0) ha
  have hi' : i < w.heap.size := Nat.lt_of_lt_of_le hi g.size
  exact (e.block i hi' (by omega) (by omega)).trans (Below.block g i hi)
theorem MSt.turn {w w' : World} {B a h : Nat} {g : Geo} {n m k : Nat} {A A' : Int → Option Pl} {H H' : Pl → Option Int} (s : MSt w B a h g n A H) (e : w'.heap[B]? = w.heap[B]?) (ha : AtMap w' a m A') (hh : WhoMap w' h m H') : MSt w' B a h g m A' H' :=
  ⟨e.trans s.1, ha, hh, s.2.2.2⟩
def dropA (A : Int → Option Pl) (x : Int) : Int → Option Pl := fun y => if y = x then none else A y
def dropH (A : Int → Option Pl) (H : Pl → Option Int) (x : Int) : Pl → Option Int := match A x with | some p => fun q => if q = p then none else H q | none => H
def RetDrop (w : World) (B a h : Nat) (g : Geo) (n : Nat) (A : Int → Option Pl) (H : Pl → Option Int) (x : Int) (e : Ending) (w' : World) : Prop :=
  e = .returned (.bool (A x).isSome) ∧ Turn2 a h w w' ∧ MSt w' B a h g n (dropA A x) (dropH A H x)
theorem GMap.ext {k : TypeId} {K V : Type} {Wk : K → Prop} {kl : K → Lit} {vd : V → DataW Unit} {R : Value → Option (DataW Unit × List MemPlace)} {z : V} {w : World} {b n : Nat} {f f' : K → Option V} (h : GMap k Wk kl vd R z w b n f) (e : ∀ x, f x = f' x) : GMap k Wk kl vd R z w b n f' := by
  obtain rfl : f = f' := funext e
  exact h
set_option maxRecDepth 100000 in
set_option maxHeartbeats 2000000 in
theorem drop_map {w : World} {B a h : Nat} {g : Geo} {n : Nat} {A : Int → Option Pl} {H : Pl → Option Int} (s : MSt w B a h g n A H) (x : Int) (hx : Wf x) (hA : ∀ p, A x = some p → WfP p) :
    Calls Try.prog 22 #[.pointer (some ⟨B, 0, none⟩), .int .i64 x] w (RetDrop w B a h g n A H x) := by
  have c := at_map s x hx
  have hB : B < w.heap.size := (Array.getElem?_eq_some_iff.1 s.1).1
  have ha : a < w.heap.size := s.2.1.lt
  have hh : h < w.heap.size := s.2.2.1.lt
  cases e : A x with
  | none =>
    rw [e] at c
    simp only [Option.getD_none, Option.isSome_none] at c
    have HR := Lib.hid e
    have HS := Lib.hid s
    clear s e hA
    go_enter Try.func22, Try.ntmps22
    go_wp2_with fail
    refine c.mono ?_
    rintro e w1 ⟨rfl, g1⟩
    go_wp2_with fail
    go_ret
    refine ⟨by rw [HR.out]; rfl, .of_grow (g1.alloc _), ?_⟩
    have s2 := HS.out.grow (g1.alloc (plO 0 0))
    exact ⟨s2.1, s2.2.1.ext (fun y => by unfold dropA; by_cases h : y = x; rw [if_pos h, h, HR.out]; rw [if_neg h]), by unfold dropH; rw [HR.out]; exact s2.2.2.1, s2.2.2.2⟩
  | some p =>
    have hp := hA p e
    rw [e] at c
    simp only [Option.getD_some, Option.isSome_some] at c
    have HR := Lib.hid e
    have HS := Lib.hid s
    have hne := s.2.2.2
    have HNE := Lib.hid hne
    clear s e hA hne
    go_enter Try.func22, Try.ntmps22
    go_wp2_with fail
    refine c.mono ?_
    rintro e w1 ⟨rfl, g1⟩
    clear c
    have s2 := HS.out.grow (g1.alloc (plO p.b p.p))
    have hw1 := g1.size
    obtain ⟨w3, hr3, hA3, ht3⟩ := s2.2.1.drop atKV hx 0
    have hr3' : ∀ ty : TypeId, (Builtin.delete_ #[73, 3] ty #[.map (some a), .int .i64 x]).run Try.prog (w1.alloc (plO p.b p.p)) = .ok (.tuple #[]) w3 := fun _ => hr3
    have sz : (w1.alloc (plO p.b p.p)).heap.size = w1.heap.size + 1 := Array.size_push _
    have b3 := ht3.block B (by omega) HNE.out.2.1
    have x3 := ht3.block w1.heap.size (by omega) (by omega)
    have h3 := ht3.block h (by omega) (Ne.symm HNE.out.1)
    obtain ⟨c0, c1, c2, c3, c4, c5, c6⟩ := map7 s2.1
    obtain ⟨d0, d1, d2, d3, d4, d5, d6⟩ := map7 (b3.trans s2.1)
    obtain ⟨q0, q1⟩ := box2 (x3.trans (heap_alloc_new w1 _))
    have hH3 := s2.2.2.1.kept h3
    have hH3d := hH3.grow (Grow.refl w3).drew
    obtain ⟨w4, hr4, hH4, ht4⟩ := hH3d.drop whoKV hp 0
    have hr4' : ∀ ty : TypeId, (Builtin.delete_ #[74, 28] ty #[.map (some h), .agg #[.int .i64 p.b, .int .i64 p.p]]).run Try.prog w3.drew = .ok (.tuple #[]) w4 := fun _ => hr4
    have HFin := Lib.hid (show Turn2 a h w w4 ∧ MSt w4 B a h g n (dropA A x) (dropH A H x) from by
      have t1 : Turn2 a h w w3 := (Turn2.of_grow (g1.alloc (plO p.b p.p))).trans (.of_a ht3)
      have t2 : Turn2 a h w3 w4 := (Turn2.of_grow (Grow.refl w3).drew).trans (.of_h ht4)
      have s3 : w3.heap.size ≤ w3.drew.heap.size := Nat.le_refl _
      have hs3 := ht3.size
      refine ⟨t1.trans t2, ?_⟩
      have b4 := ht4.block B (by show B < w3.heap.size; omega) HNE.out.2.2
      have a4 := ht4.block a (by show a < w3.heap.size; omega) HNE.out.1
      exact ⟨b4.trans ((show w3.drew.heap[B]? = w3.heap[B]? from rfl).trans (b3.trans s2.1)), GMap.ext (hA3.kept (a4.trans rfl)) (fun y => rfl), GMap.ext hH4 (fun y => by unfold dropH; rw [HR.out]), HNE.out⟩)
    clear hr3 hr4 hA3 ht3 hH3 hH3d hH4 ht4 h3 x3 b3 s2 sz
    go_upto_region 4 with (fail)
    go_region_with (fail)
    all_goals
      go_wp2_with fail
      go_ret
      exact ⟨by rw [HR.out]; rfl, HFin.out.1, HFin.out.2⟩
end Go.Proofs.Ytcfkpaijlibjaaa
