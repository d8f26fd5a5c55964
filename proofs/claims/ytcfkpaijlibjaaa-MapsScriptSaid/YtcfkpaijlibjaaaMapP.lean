/- Put of a map. -/
import Derived.Test.YtcfkpaijlibjaaaMapD
import Derived.Test.YtcfkpaijlibjaaaEnt
import Derived.Deep.RegionLaw
set_option linter.unusedVariables false
set_option linter.unusedSimpArgs false
namespace Go.Proofs.Ytcfkpaijlibjaaa
open Go.RowKit Go.Lib Go.Maps
def logG (g : Geo) : Int := if mayG g then halfI g else 0
def takenH (H : Pl → Option Int) (x : Int) (p : Pl) : Bool := match H p with | some y => y != x | none => false
def putOk (g : Geo) (H : Pl → Option Int) (x : Int) (p : Pl) : Bool := decide (0 ≤ x) && decide (x < logG g) && decide (0 ≤ numG g p.b p.p) && !takenH H x p
def putA (A : Int → Option Pl) (x : Int) (p : Pl) : Int → Option Pl := fun y => if y = x then some p else dropA A x y
def putH (A : Int → Option Pl) (H : Pl → Option Int) (x : Int) (p : Pl) : Pl → Option Int := fun q => if q = p then some x else dropH A H x q
def RetPut (w : World) (B a h : Nat) (g : Geo) (n : Nat) (A : Int → Option Pl) (H : Pl → Option Int) (x : Int) (p : Pl) (e : Ending) (w' : World) : Prop :=
  e = .returned (.bool (putOk g H x p)) ∧ Turn2 a h w w' ∧ (putOk g H x p = true → MSt w' B a h g (n + 1) (putA A x p) (putH A H x p)) ∧ (putOk g H x p = false → MSt w' B a h g (n + 1) A H)
theorem MSt.more {w : World} {B a h : Nat} {g : Geo} {n m : Nat} {A : Int → Option Pl} {H : Pl → Option Int} (s : MSt w B a h g n A H) (e : n ≤ m) : MSt w B a h g m A H := ⟨s.1, s.2.1.mono e, s.2.2.1.mono e, s.2.2.2⟩
theorem ret_bad {w w' : World} {B a h : Nat} {g : Geo} {n : Nat} {A : Int → Option Pl} {H : Pl → Option Int} {x : Int} {p : Pl} (s : MSt w B a h g n A H) (e : putOk g H x p = false) (g1 : Grow w w') : RetPut w B a h g n A H x p (.returned (.bool false)) w' :=
  ⟨by rw [e], .of_grow g1, (fun h => by rw [e] at h; cases h), fun _ => (s.grow g1).more (by omega)⟩
set_option maxRecDepth 100000 in
set_option maxHeartbeats 4000000 in
theorem put_map {w : World} {B a h : Nat} {g : Geo} {n : Nat} {A : Int → Option Pl} {H : Pl → Option Int} (s : MSt w B a h g n A H) (x : Int) (p : Pl) (hx : Wf x) (hp : WfP p) (hA : ∀ q, A x = some q → WfP q) (hn : n ≤ 100000000) :
    Calls Try.prog 23 #[.pointer (some ⟨B, 0, none⟩), .int .i64 x, plV p] w (RetPut w B a h g n A H x p) := by
  have hB : B < w.heap.size := (Array.getElem?_eq_some_iff.1 s.1).1
  have ha : a < w.heap.size := s.2.1.lt
  have hh : h < w.heap.size := s.2.2.1.lt
  have HS := Lib.hid s
  have HX := Lib.hid hx
  have HP := Lib.hid hp
  have HA := Lib.hid hA
  clear s hx hp hA
  go_enter Try.func23, Try.ntmps23
  go_upto_region 1 with (fail)
  generalize hV : w.alloc (.cells #[.int .i64 p.b, .int .i64 p.p] 28) = V
  have gV : Grow w V := by rw [← hV]; exact (Grow.refl w).alloc _
  have hbx : V.heap[w.heap.size]? = some (.cells #[.int .i64 p.b, .int .i64 p.p] 28 (0, 0)) := by rw [← hV]; exact heap_alloc_new w _
  have HBX := Lib.hid hbx
  have hsz : w.heap.size < V.heap.size := (Array.getElem?_eq_some_iff.1 hbx).1
  have hBV : B < V.heap.size := by omega
  obtain ⟨c0, c1, c2, c3, c4, c5, c6⟩ := map7 (gV.blk HS.out.1)
  obtain ⟨q0, q1⟩ := box2 hbx
  clear hV hbx
  have cL := fun y : Gr V => logical_any g y.W
  have cN := fun y : Gr V => number_any g p.b p.p y.W
  have HOK := Lib.hid (show putOk g H x p = (decide (0 ≤ x) && decide (x < logG g) && decide (0 ≤ numG g p.b p.p) && !takenH H x p) from rfl)
  have HLG := Lib.hid (show logG g = if mayG g then halfI g else 0 from rfl)
  rw [← HLG.out] at cL
  generalize logG g = lg at cL HOK
  generalize numG g p.b p.p = nm at cN HOK
  refine wp_region_gr (by kernel_rfl) (by kernel_rfl) ?_
  repeat (go_big_quiet_step (first | (go_at_call 46; exact Calls.gr (cL _)) | (go_at_call 47; exact Calls.gr (cN _))))
  by_cases f1 : x < 0
  · rw [decide_eq_true f1]
    repeat (go_big_quiet_step (first | (go_at_call 46; exact Calls.gr (cL _)) | (go_at_call 47; exact Calls.gr (cN _))))
    refine wpQuiet_nil ?_
    rintro _ ⟨y, rfl⟩
    go_wp2_with fail
    go_ret
    exact ret_bad HS.out (by rw [HOK.out, decide_eq_false (show ¬ 0 ≤ x by omega)]; rfl) (gV.trans y.g)
  rw [decide_eq_false f1]
  repeat (go_big_quiet_step (first | (go_at_call 46; exact Calls.gr (cL _)) | (go_at_call 47; exact Calls.gr (cN _))))
  by_cases f2 : lg ≤ x
  · first | rw [decide_eq_true f2] | rw [decide_eq_true (show x ≥ lg from f2)]
    repeat (go_big_quiet_step (first | (go_at_call 46; exact Calls.gr (cL _)) | (go_at_call 47; exact Calls.gr (cN _))))
    refine wpQuiet_nil ?_
    rintro _ ⟨y, rfl⟩
    go_wp2_with fail
    go_ret
    exact ret_bad HS.out (by rw [HOK.out, decide_eq_false (show ¬ x < lg by omega), Bool.and_false]; rfl) (gV.trans y.g)
  first | rw [decide_eq_false f2] | rw [decide_eq_false (show ¬ x ≥ lg from f2)]
  repeat (go_big_quiet_step (first | (go_at_call 46; exact Calls.gr (cL _)) | (go_at_call 47; exact Calls.gr (cN _))))
  by_cases f3 : nm < 0
  · rw [decide_eq_true f3]
    repeat (go_big_quiet_step (first | (go_at_call 46; exact Calls.gr (cL _)) | (go_at_call 47; exact Calls.gr (cN _))))
    refine wpQuiet_nil ?_
    rintro _ ⟨y, rfl⟩
    go_wp2_with fail
    go_ret
    exact ret_bad HS.out (by rw [HOK.out, decide_eq_false (show ¬ 0 ≤ nm by omega), Bool.and_false]; rfl) (gV.trans y.g)
  rw [decide_eq_false f3]
  repeat (go_big_quiet_step (first | (go_at_call 46; exact Calls.gr (cL _)) | (go_at_call 47; exact Calls.gr (cN _))))
  refine wpQuiet_nil ?_
  rintro _ ⟨y, rfl⟩
  have g1 := gV.trans y.g
  have hl := fun k => (HS.out.2.2.1.grow (g1.drewN k)).look_ok whoKV HP.out
  have HOK2 := Lib.hid (show putOk g H x p = !takenH H x p by rw [HOK.out, decide_eq_true (show 0 ≤ x by omega), decide_eq_true (show x < lg by omega), decide_eq_true (show 0 ≤ nm by omega)]; simp)
  have hBy := map7 (g1.blk HS.out.1)
  have hby := box2 (y.g.blk HBX.out)
  have HBY := Lib.hid (y.g.blk HBX.out)
  have hsy := y.g.size
  generalize y.W = W1 at *
  obtain ⟨c0, c1, c2, c3, c4, c5, c6⟩ := hBy
  obtain ⟨q0, q1⟩ := hby
  clear cL cN HOK
  cases e : H p with
  | none =>
    rw [e] at hl
    simp only [Option.getD_none, Option.isSome_none] at hl
    have ht : takenH H x p = false := by unfold takenH; rw [e]
    clear e
    go_wp2_with fail
    go_quiet (fail)
    go_wp2_with fail
    refine (drop_map (HS.out.grow (g1.drewN nq)) x HX.out HA.out).mono ?_
    rintro e w4 ⟨he, t4, s4⟩
    subst he
    have hby4 := (t4.block w.heap.size (by show w.heap.size < W1.heap.size; omega) (by omega) (by omega)).trans (((Grow.refl W1).drewN nq).blk HBY.out)
    obtain ⟨k0, k1, k2, k3, k4, k5, k6⟩ := map7 s4.1
    obtain ⟨r0, r1⟩ := box2 hby4
    have z4 : w.heap.size < w4.heap.size := (Array.getElem?_eq_some_iff.1 hby4).1
    obtain ⟨v5, st5, w5, e5, t5, f5⟩ := (s4.2.1.grow (Grow.refl w4).drew).entry atKV HX.out (by omega)
    obtain ⟨w6, e6, m6, t6⟩ := f5 w5 p rfl
    have z5 := t5.size
    have z6 := t6.size
    have zd : w4.drew.heap.size = w4.heap.size := rfl
    have HNE := Lib.hid s4.2.2.2
    have h5 := (s4.2.2.1.grow (Grow.refl w4).drew).kept (t5.block h (by omega) (Ne.symm HNE.out.1))
    have h6 := h5.kept (t6.block h (by omega) (Ne.symm HNE.out.1))
    obtain ⟨v7, st7, w7, e7, t7, f7⟩ := h6.entry whoKV HP.out (by omega)
    obtain ⟨w8, e8, m8, t8⟩ := f7 w7 x rfl
    have z7 := t7.size
    have z8 := t8.size
    have a7 := m6.kept (t7.block a (by omega) HNE.out.1)
    have a8 := a7.kept (t8.block a (by omega) HNE.out.1)
    have b5 := t5.block B (by omega) HNE.out.2.1
    have b6 := t6.block B (by omega) HNE.out.2.1
    have b7 := t7.block B (by omega) HNE.out.2.2
    have b8 := t8.block B (by omega) HNE.out.2.2
    have x5 := t5.block w.heap.size (by omega) (by omega)
    have x6 := t6.block w.heap.size (by omega) (by omega)
    have HFin := Lib.hid (show Turn2 a h w w8 ∧ MSt w8 B a h g (n + 1) (putA A x p) (putH A H x p) from
      ⟨(((((Turn2.of_grow (g1.drewN nq)).trans t4).trans (.of_grow (Grow.refl w4).drew)).trans (.of_a t5)).trans (.of_a t6)).trans ((Turn2.of_h t7).trans (.of_h t8)),
        b8.trans (b7.trans (b6.trans (b5.trans s4.1))), a8, m8, HNE.out⟩)
    have x7 := t7.block w.heap.size (by omega) (by omega)
    have x8 := t8.block w.heap.size (by omega) (by omega)
    obtain ⟨l0, l1, l2, l3, l4, l5, l6⟩ := map7 (b6.trans (b5.trans s4.1))
    obtain ⟨u0', u1'⟩ := box2 (x6.trans (x5.trans hby4))
    obtain ⟨u0a, u1a⟩ := box2 (x5.trans hby4)
    obtain ⟨u0b, u1b⟩ := box2 (x7.trans (x6.trans (x5.trans hby4)))
    obtain ⟨u0c, u1c⟩ := box2 (x8.trans (x7.trans (x6.trans (x5.trans hby4))))
    obtain ⟨la0, la1, la2, la3, la4, la5, la6⟩ := map7 (b5.trans s4.1)
    obtain ⟨lb0, lb1, lb2, lb3, lb4, lb5, lb6⟩ := map7 (b7.trans (b6.trans (b5.trans s4.1)))
    change _ = Result.ok (Value.tuple #[v5, .int .i64 st5]) w5 at e5
    change _ = Result.ok (Value.tuple #[v7, .int .i64 st7]) w7 at e7
    change (Instr.entryStore 73 (.map (some a)) (.int .i64 st5) (plV p)).run Try.prog w5 = _ at e6
    change (Instr.entryStore 74 (.map (some h)) (.int .i64 st7) (.int .i64 x)).run Try.prog w7 = _ at e8
    clear f5 f7 m6 t5 t6 h5 h6 t7 t8 m8 a7 a8 b5 b6 b7 b8 x5 x6 x7 x8 hby4 t4 s4 hl
    go_wp2_with fail
    go_region_with (fail)
    all_goals
      go_wp2_with fail
      go_ret
      exact ⟨by rw [HOK2.out, ht]; rfl, HFin.out.1, (fun _ => HFin.out.2), fun e => by rw [HOK2.out, ht] at e; cases e⟩
  | some y =>
    rw [e] at hl
    simp only [Option.getD_some, Option.isSome_some] at hl
    by_cases hyx : y = x
    · have ht : takenH H x p = false := by unfold takenH; rw [e]; simp [hyx]
      have hyb : (y != x) = false := by rw [hyx]; simp
      clear e hyx
      go_wp2_with fail
      go_quiet (fail)
      go_wp2_with fail
      refine (drop_map (HS.out.grow (g1.drewN nq)) x HX.out HA.out).mono ?_
      rintro e w4 ⟨he, t4, s4⟩
      subst he
      have hby4 := (t4.block w.heap.size (by show w.heap.size < W1.heap.size; omega) (by omega) (by omega)).trans (((Grow.refl W1).drewN nq).blk HBY.out)
      obtain ⟨k0, k1, k2, k3, k4, k5, k6⟩ := map7 s4.1
      obtain ⟨r0, r1⟩ := box2 hby4
      have z4 : w.heap.size < w4.heap.size := (Array.getElem?_eq_some_iff.1 hby4).1
      obtain ⟨v5, st5, w5, e5, t5, f5⟩ := (s4.2.1.grow (Grow.refl w4).drew).entry atKV HX.out (by omega)
      obtain ⟨w6, e6, m6, t6⟩ := f5 w5 p rfl
      have z5 := t5.size
      have z6 := t6.size
      have zd : w4.drew.heap.size = w4.heap.size := rfl
      have HNE := Lib.hid s4.2.2.2
      have h5 := (s4.2.2.1.grow (Grow.refl w4).drew).kept (t5.block h (by omega) (Ne.symm HNE.out.1))
      have h6 := h5.kept (t6.block h (by omega) (Ne.symm HNE.out.1))
      obtain ⟨v7, st7, w7, e7, t7, f7⟩ := h6.entry whoKV HP.out (by omega)
      obtain ⟨w8, e8, m8, t8⟩ := f7 w7 x rfl
      have z7 := t7.size
      have z8 := t8.size
      have a7 := m6.kept (t7.block a (by omega) HNE.out.1)
      have a8 := a7.kept (t8.block a (by omega) HNE.out.1)
      have b5 := t5.block B (by omega) HNE.out.2.1
      have b6 := t6.block B (by omega) HNE.out.2.1
      have b7 := t7.block B (by omega) HNE.out.2.2
      have b8 := t8.block B (by omega) HNE.out.2.2
      have x5 := t5.block w.heap.size (by omega) (by omega)
      have x6 := t6.block w.heap.size (by omega) (by omega)
      have HFin := Lib.hid (show Turn2 a h w w8 ∧ MSt w8 B a h g (n + 1) (putA A x p) (putH A H x p) from
        ⟨(((((Turn2.of_grow (g1.drewN nq)).trans t4).trans (.of_grow (Grow.refl w4).drew)).trans (.of_a t5)).trans (.of_a t6)).trans ((Turn2.of_h t7).trans (.of_h t8)),
          b8.trans (b7.trans (b6.trans (b5.trans s4.1))), a8, m8, HNE.out⟩)
      have x7 := t7.block w.heap.size (by omega) (by omega)
      have x8 := t8.block w.heap.size (by omega) (by omega)
      obtain ⟨l0, l1, l2, l3, l4, l5, l6⟩ := map7 (b6.trans (b5.trans s4.1))
      obtain ⟨u0', u1'⟩ := box2 (x6.trans (x5.trans hby4))
      obtain ⟨u0a, u1a⟩ := box2 (x5.trans hby4)
      obtain ⟨u0b, u1b⟩ := box2 (x7.trans (x6.trans (x5.trans hby4)))
      obtain ⟨u0c, u1c⟩ := box2 (x8.trans (x7.trans (x6.trans (x5.trans hby4))))
      obtain ⟨la0, la1, la2, la3, la4, la5, la6⟩ := map7 (b5.trans s4.1)
      obtain ⟨lb0, lb1, lb2, lb3, lb4, lb5, lb6⟩ := map7 (b7.trans (b6.trans (b5.trans s4.1)))
      change _ = Result.ok (Value.tuple #[v5, .int .i64 st5]) w5 at e5
      change _ = Result.ok (Value.tuple #[v7, .int .i64 st7]) w7 at e7
      change (Instr.entryStore 73 (.map (some a)) (.int .i64 st5) (plV p)).run Try.prog w5 = _ at e6
      change (Instr.entryStore 74 (.map (some h)) (.int .i64 st7) (.int .i64 x)).run Try.prog w7 = _ at e8
      clear f5 f7 m6 t5 t6 h5 h6 t7 t8 m8 a7 a8 b5 b6 b7 b8 x5 x6 x7 x8 hby4 t4 s4 hl
      go_wp2_with fail
      go_region_with (fail)
      all_goals
        go_wp2_with fail
        go_ret
        exact ⟨by rw [HOK2.out, ht]; rfl, HFin.out.1, (fun _ => HFin.out.2), fun e => by rw [HOK2.out, ht] at e; cases e⟩
    · have ht : takenH H x p = true := by unfold takenH; rw [e]; simpa using hyx
      have hyb : (y != x) = true := by simpa using hyx
      clear e hyx
      go_wp2_with fail
      go_quiet (fail)
      go_wp2_with fail
      go_ret
      exact ret_bad HS.out (by rw [HOK2.out, ht]; rfl) (g1.drewN _)
end Go.Proofs.Ytcfkpaijlibjaaa
