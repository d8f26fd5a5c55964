/- The reference's map: Who, Place, Live. -/
import Derived.Test.YtcfkpaijlibjaaaRMapA
import Derived.Deep.RegionHeld3
set_option linter.unusedVariables false
set_option linter.unusedSimpArgs false
namespace Go.Proofs.Ytcfkpaijlibjaaa
open Go.RowKit Go.Lib Go.Maps
section
variable {base : Nat} {w : World} {R b c : Nat} {g : Geo} {A : Int → Option Pl} {H : Pl → Option Int}
set_option maxRecDepth 100000 in
set_option maxHeartbeats 2000000 in
theorem rwho_any (s : RSt base w R b c g A) (t : Two g A H) (hm : mayG g = true) (p : Pl) :
    Calls Try.prog 33 #[.pointer (some ⟨R, 0, none⟩), plV p] w fun e w' => e = .returned (.tuple #[.int .i64 ((H p).getD 0), .bool (H p).isSome]) ∧ Grow w w' := by
  have cN := fun W => rnumber_any g p.b p.p W
  have hl := logN_bd hm
  have hnd := fun i (h : 0 ≤ numG g p.b p.p) (q : Pl) (hq : A i = some q) (e : encP g (A i) = numG g p.b p.p) => num_inj (p := p) (q := q) hm h (by rw [hq] at e; exact e.symm)
  have hlow := num_low g p.b p.p hm
  have hnone : numG g p.b p.p = -1 → H p = none := fun h => by
    cases e : H p with
    | none => rfl
    | some x => have h1 := t.place x p (t.back x p e); rw [h] at h1; omega
  have hbd := fun i : Nat => enc_bd t hm i
  have hn159 : numG g p.b p.p ≤ 159 := by
    rcases hlow with h | h
    · omega
    · exact (num_div hm h).2.2
  have hyes : ∀ i : Nat, i < logN g → 0 ≤ numG g p.b p.p → encP g (A i) = numG g p.b p.p → H p = some (i : Int) := fun i hi h e => by
    cases e2 : A i with
    | none => rw [e2] at e; simp only [encP] at e; omega
    | some q => have := hnd i h q e2 e; rw [this]; exact t.one _ _ e2
  have hno : 0 ≤ numG g p.b p.p → (∀ i : Nat, i < logN g → encP g (A i) ≠ numG g p.b p.p) → H p = none := fun h hall => by
    cases e : H p with
    | none => rfl
    | some x =>
      have h1 := t.back x p e
      have h2 := t.page x p h1
      have h3 := hall x.toNat (by omega)
      rw [show ((x.toNat : Nat) : Int) = x by omega, h1] at h3
      exact absurd rfl h3
  have HNONE := Lib.hid hnone
  have HYES := Lib.hid hyes
  have HNO := Lib.hid hno
  have HBD := Lib.hid hbd
  have HS := Lib.hid s
  have hR : R < w.heap.size := (Array.getElem?_eq_some_iff.1 s.2.1).1
  obtain ⟨hl1, hl2, -⟩ := hl
  have HLOW := Lib.hid hlow
  generalize numG g p.b p.p = nm at *
  clear hlow hnone hyes hno hbd s hnd t hm
  go_enter Try.func33, Try.ntmps33
  go_upto_region 1 with (fail)
  generalize hV : w.alloc (.cells #[.int .i64 p.b, .int .i64 p.p] 28) = V
  have gV : Grow w V := by rw [← hV]; exact (Grow.refl w).alloc _
  have hbx : V.heap[w.heap.size]? = some (.cells #[.int .i64 p.b, .int .i64 p.p] 28 (0, 0)) := by rw [← hV]; exact heap_alloc_new w _
  obtain ⟨k0, k1, k2, k3, k4, k5⟩ := ref6 (gV.blk HS.out.2.1)
  obtain ⟨q0, q1⟩ := box2 hbx
  have gB := gV.drew
  clear hV hbx
  go_still_tail 5, (by kernel_rfl)
  change wpList _ _ _ _ _ V.drew
  go_wp2_with fail
  refine (cN _).mono ?_
  rintro e w1 ⟨rfl, g1⟩
  have gw := gB.trans g1
  have HG := Lib.hid gw
  clear k0 k1 k2 k3 k4 k5 gV gB cN g1 q0 q1
  go_wp2_with fail
  by_cases hneg : nm < 0
  · have hnm : nm = -1 := by have := HLOW.out; omega
    have HR := Lib.hid (HNONE.out hnm)
    have hge : decide (0 ≤ nm) = false := decide_eq_false (by omega)
    obtain ⟨k0, k1, k2, k3, k4, k5⟩ := ref6 (HS.out.grow gw).2.1
    have hl0 : (0 : Int) < (logN g : Nat) := by omega
    clear hnm
    go_loopw [7] (fun v7 wx => v7 = .int .i64 0 ∧ wx = w1) (fun _ _ => 0)
    case atStart => exact ⟨rfl, rfl⟩
    case round =>
      obtain ⟨rfl, rfl⟩ := hrel
      go_wp2_with fail
      go_ret2
      exact ⟨by rw [HR.out]; rfl, HG.out⟩
  · have hge : 0 ≤ nm := by omega
    go_loopw [7] (fun v7 wx => ∃ i : Nat, v7 = .int .i64 i ∧ i ≤ logN g ∧ wx = w1 ∧ ∀ j : Nat, j < i → encP g (A j) ≠ nm) (fun v7 _ => logN g - (Go.RowKit.intOf v7).toNat)
    case atStart => exact ⟨0, rfl, by omega, rfl, fun j h => absurd h (by omega)⟩
    case round =>
      obtain ⟨i, rfl, hi, rfl, hall⟩ := hrel
      have HALL := Lib.hid hall
      have HS2 := HS.out.grow HG.out
      obtain ⟨k0, k1, k2, k3, k4, k5⟩ := ref6 HS2.2.1
      clear hall
      by_cases hlt : i < logN g
      · have hlt' : (i : Int) < (logN g : Nat) := by omega
        have kc := HS2.cell hlt
        have hb1 := HBD.out i
        generalize hE : encP g (A (i : Int)) = y at *
        have HE := Lib.hid hE
        clear hE HS2
        by_cases hy : y = nm
        · have HR := Lib.hid (HYES.out i hlt (by omega) (by rw [HE.out]; exact hy))
          have hy' : (y == nm) = true := by rw [hy]; simp
          clear hy
          go_wp2_with fail
          go_ret2
          exact ⟨by rw [HR.out]; rfl, HG.out⟩
        · have hy' : (y == nm) = false := by rw [beq_eq_false_iff_ne]; exact hy
          have HY := Lib.hid hy
          clear hy
          go_wp2_with fail
          go_roundw
          case rel => exact ⟨i + 1, by go_num, by omega, by first | rfl | trivial, fun j hj => by
            rcases (by omega : j < i ∨ j = i) with h3 | rfl
            · exact HALL.out j h3
            · rw [HE.out]; exact HY.out⟩
          case measure => simp [Go.RowKit.intOf]; omega
      · have hlt' : ¬ (i : Int) < (logN g : Nat) := by omega
        have HR := Lib.hid (HNO.out (by omega) (fun j hj => HALL.out j (by omega)))
        clear HS2
        go_wp2_with fail
        go_ret2
        exact ⟨by rw [HR.out]; rfl, HG.out⟩
theorem out_none (t : Two g A H) (hm : mayG g = true) {x : Int} (h : x < 0 ∨ (logN g : Nat) ≤ x) : A x = none := by
  cases e : A x with
  | none => rfl
  | some p => have h1 := t.page x p e; have h2 := (logN_bd hm).2.2; omega
set_option maxRecDepth 100000 in
set_option maxHeartbeats 2000000 in
theorem rplace_any (s : RSt base w R b c g A) (t : Two g A H) (hm : mayG g = true) (x : Int) :
    Calls Try.prog 32 #[.pointer (some ⟨R, 0, none⟩), .int .i64 x] w fun e w' => e = .returned (.tuple #[plV ((A x).getD ⟨0, 0⟩), .bool (A x).isSome]) ∧ Grow w w' := by
  have hl := logN_bd hm
  obtain ⟨hl1, hl2, -⟩ := hl
  have HS := Lib.hid s
  have hR : R < w.heap.size := (Array.getElem?_eq_some_iff.1 s.2.1).1
  have hbb : b < w.heap.size := s.lt.2
  obtain ⟨k0, k1, k2, k3, k4, k5⟩ := ref6 s.2.1
  by_cases hx : x < 0 ∨ (logN g : Nat) ≤ x
  · have HR := Lib.hid (out_none t hm hx)
    clear s t hm
    rcases hx with hx | hx
    · go_enter Try.func32, Try.ntmps32
      go_wp2_with fail
      refine bodyPost_ret (v := .tuple #[plV ⟨0, 0⟩, .bool false]) ?_ rfl ?_
      · rw [results_cell_tmp rfl]
        go_simp
      · exact ⟨by rw [HR.out]; rfl, by repeat' (first | with_reducible exact Grow.refl _ | with_reducible refine Grow.set ?_ (by simp) _ | with_reducible refine Grow.alloc ?_ _)⟩
    · by_cases hx0 : x < 0
      · omega
      have hx2 : ¬ x < (logN g : Nat) := by omega
      go_enter Try.func32, Try.ntmps32
      go_wp2_with fail
      refine bodyPost_ret (v := .tuple #[plV ⟨0, 0⟩, .bool false]) ?_ rfl ?_
      · rw [results_cell_tmp rfl]
        go_simp
      · exact ⟨by rw [HR.out]; rfl, by repeat' (first | with_reducible exact Grow.refl _ | with_reducible refine Grow.set ?_ (by simp) _ | with_reducible refine Grow.alloc ?_ _)⟩
  · obtain ⟨i, rfl⟩ : ∃ i : Nat, x = i := ⟨x.toNat, by omega⟩
    have hi : i < logN g := by omega
    have hlt' : (i : Int) < (logN g : Nat) := by omega
    have kc := s.cell hi
    have hb1 := enc_bd t hm (i : Int)
    have hdiv : ∀ p, A (i : Int) = some p → encP g (A (i : Int)) / g.pages = p.b ∧ encP g (A (i : Int)) % g.pages = p.p := fun p hp => by
      have := num_div hm (t.place _ p hp)
      rw [hp]; exact ⟨this.1, this.2.1⟩
    have hpg := (mayG_bd hm).2.1
    generalize encP g (A (i : Int)) = y at *
    clear hx
    cases e : A (i : Int) with
    | none =>
      have hy : y < 0 := by have := hb1.2.2; rw [e] at this; simp at this; omega
      clear hb1 hdiv s t hm e
      go_enter Try.func32, Try.ntmps32
      go_wp2_with fail
      refine bodyPost_ret (v := .tuple #[plV ⟨0, 0⟩, .bool false]) ?_ rfl ?_
      · rw [results_cell_tmp rfl]
        go_simp
      · exact ⟨rfl, by repeat' (first | with_reducible exact Grow.refl _ | with_reducible refine Grow.set ?_ (by simp) _ | with_reducible refine Grow.alloc ?_ _)⟩
    | some p =>
      have hy : 0 ≤ y := by have := hb1.2.2; rw [e] at this; simpa using this
      have hy2 := hb1.2.1
      have HD := Lib.hid (hdiv p e)
      have hq1 : 0 ≤ y / g.pages := Int.ediv_nonneg hy (by omega)
      have hq2 : y / g.pages ≤ y := Int.ediv_le_self _ hy
      have hr1 : 0 ≤ y % g.pages := Int.emod_nonneg _ (by omega)
      have hr2 : y % g.pages < g.pages := Int.emod_lt_of_pos _ (by omega)
      have hp0 : ¬ g.pages = 0 := by omega
      have hp1 : (g.pages == 0) = false := by rw [beq_eq_false_iff_ne]; exact hp0
      have hwq : IntKind.i64.wrap (y.tdiv g.pages) = y / g.pages := by rw [Int.tdiv_eq_ediv_of_nonneg hy]; exact IntWalk.i64_in _ (by omega)
      have hwr : IntKind.i64.wrap (y.tmod g.pages) = y % g.pages := by rw [Int.tmod_eq_emod_of_nonneg hy]; exact IntWalk.i64_in _ (by omega)
      clear hb1 hdiv s t hm e
      go_enter Try.func32, Try.ntmps32
      go_upto_region 3 with (fail)
      generalize hV : w.alloc (.cells #[.int .i64 0, .int .i64 0] 28) = V
      have gV : Grow w V := by rw [← hV]; exact (Grow.refl w).alloc _
      have hbx : V.heap[w.heap.size]? = some (.cells #[.int .i64 0, .int .i64 0] 28 (0, 0)) := by rw [← hV]; exact heap_alloc_new w _
      have HS2 := HS.out.grow gV
      obtain ⟨k0, k1, k2, k3, k4, k5⟩ := ref6 HS2.2.1
      have kc := (gV.cells b i hbb).trans kc
      obtain ⟨q0, q1⟩ := box2 hbx
      have f0 := frozen_of_row V w.heap.size 0 _ _ hbx
      have f1 := frozen_of_row V w.heap.size 1 _ _ hbx
      have hv : w.heap.size < V.heap.size := (Array.getElem?_eq_some_iff.1 hbx).1
      clear hV HS2
      go_still_tail 27, (by kernel_rfl)
      change wpList _ _ _ _ _ V.drew
      go_wp2_with fail
      refine bodyPost_ret (v := .tuple #[.agg #[.int .i64 (y / g.pages), .int .i64 (y % g.pages)], .bool true]) ?_ rfl ?_
      · rw [results_cell_tmp rfl]
        go_simp
      · exact ⟨by rw [HD.out.1, HD.out.2]; rfl, by repeat' (first | with_reducible exact gV | with_reducible refine Grow.drew ?_ | with_reducible refine Grow.set ?_ (by simp) _ | with_reducible refine Grow.alloc ?_ _)⟩
/-- How many of the first pages stand in a block. -/
def atB (A : Int → Option Pl) (blk : Int) (i : Nat) : Bool := match A i with | some p => p.b == blk | none => false
def cntB (A : Int → Option Pl) (blk : Int) (n : Nat) : Nat := ((List.range n).filter (atB A blk)).length
theorem cntB_succ (A : Int → Option Pl) (blk : Int) (n : Nat) : cntB A blk (n + 1) = cntB A blk n + if atB A blk n = true then 1 else 0 := by
  unfold cntB
  rw [List.range_succ, List.filter_append, List.length_append]
  cases h : atB A blk n <;> simp [h]
theorem cntB_le (A : Int → Option Pl) (blk : Int) (n : Nat) : cntB A blk n ≤ n := by
  unfold cntB; have := List.length_filter_le (atB A blk) (List.range n); simpa using this
set_option maxRecDepth 100000 in
set_option maxHeartbeats 2000000 in
theorem rlive_any (s : RSt base w R b c g A) (t : Two g A H) (hm : mayG g = true) (blk : Int) :
    Calls Try.prog 34 #[.pointer (some ⟨R, 0, none⟩), .int .i64 blk] w fun e w' => e = .returned (.int .i64 (cntB A blk (logN g) : Nat)) ∧ Grow w w' := by
  obtain ⟨hl1, hl2, -⟩ := logN_bd hm
  have hR : R < w.heap.size := (Array.getElem?_eq_some_iff.1 s.2.1).1
  have hbb : b < w.heap.size := s.lt.2
  obtain ⟨k0, k1, k2, k3, k4, k5⟩ := ref6 s.2.1
  have HS := Lib.hid s
  have HT := Lib.hid t
  have HM := Lib.hid hm
  have hpg := (mayG_bd hm).2.1
  have hp0 : ¬ g.pages = 0 := by omega
  clear s t hm
  go_enter Try.func34, Try.ntmps34
  go_wp2_with fail
  go_loopw [5, 6] (fun v5 v6 wx => ∃ i : Nat, v6 = .int .i64 i ∧ i ≤ logN g ∧ v5 = .int .i64 (cntB A blk i : Nat) ∧ ∃ k, wx = w.drewN k) (fun _ v6 _ => logN g - (Go.RowKit.intOf v6).toNat)
  case atStart => exact ⟨0, rfl, by omega, rfl, 0, rfl⟩
  case round =>
    obtain ⟨i, rfl, hi, rfl, k, rfl⟩ := hrel
    have hgk := (Grow.refl w).drewN k
    by_cases hlt : i < logN g
    · have hlt' : (i : Int) < (logN g : Nat) := by omega
      have kc := HS.out.cell hlt
      have hcs := cntB_succ A blk i
      have hcl := cntB_le A blk i
      have hb1 := enc_bd HT.out HM.out (i : Int)
      have hdiv : ∀ p, A (i : Int) = some p → encP g (A (i : Int)) / g.pages = p.b := fun p hp => by
        have := num_div HM.out (HT.out.place _ p hp)
        rw [hp]; exact this.1
      have HY := Lib.hid (show ∀ n, n = cntB A blk i → atB A blk i = true → cntB A blk (i + 1) = n + 1 from fun n hn h => by rw [hcs, if_pos h, hn])
      have HN := Lib.hid (show ∀ n, n = cntB A blk i → atB A blk i = false → cntB A blk (i + 1) = n from fun n hn h => by rw [hcs, if_neg (by rw [h]; simp), hn]; rfl)
      obtain ⟨n, hn⟩ : ∃ n, n = cntB A blk i := ⟨_, rfl⟩
      have hcl' : n ≤ i := by rw [hn]; exact hcl
      have HY1 := Lib.hid (HY.out n hn)
      have HN1 := Lib.hid (HN.out n hn)
      rw [← hn]
      clear hcs hcl HY HN hn
      generalize encP g (A (i : Int)) = y at *
      cases e : A (i : Int) with
      | none =>
        have hy : ¬ 0 ≤ y := by have := hb1.2.2; rw [e] at this; simp at this; omega
        have hy2 : decide (0 ≤ y) = false := decide_eq_false hy
        have HR := Lib.hid (HN1.out (by unfold atB; rw [e]))
        clear hb1 hdiv e hy
        go_wp2_with fail
        go_quiet (fail)
        go_wp2_with fail
        go_roundw
        case rel => exact ⟨i + 1, by go_num, by omega, by rw [HR.out], ⟨_, rfl⟩⟩
        case measure => simp [Go.RowKit.intOf]; omega
      | some p =>
        have hy : 0 ≤ y := by have := hb1.2.2; rw [e] at this; simpa using this
        have hy2 : decide (0 ≤ y) = true := decide_eq_true hy
        have hwq : IntKind.i64.wrap (y.tdiv g.pages) = p.b := by
          rw [Int.tdiv_eq_ediv_of_nonneg hy, hdiv p e]
          have h1 := hdiv p e
          have hq1 : 0 ≤ y / g.pages := Int.ediv_nonneg hy (by omega)
          have hq2 : y / g.pages ≤ y := Int.ediv_le_self _ hy
          exact IntWalk.i64_in _ (by omega)
        by_cases hq : p.b = blk
        · have hq1 : (p.b == blk) = true := by rw [hq]; simp
          have HR := Lib.hid (HY1.out (by unfold atB; rw [e]; exact hq1))
          clear hb1 hdiv e hq
          go_wp2_with fail
          go_quiet (fail)
          go_wp2_with fail
          go_roundw
          case rel => exact ⟨i + 1, by go_num, by omega, by rw [HR.out]; go_num, ⟨_, rfl⟩⟩
          case measure => simp [Go.RowKit.intOf]; omega
        · have hq1 : (p.b == blk) = false := by rw [beq_eq_false_iff_ne]; exact hq
          have HR := Lib.hid (HN1.out (by unfold atB; rw [e]; exact hq1))
          clear hb1 hdiv e hq
          go_wp2_with fail
          go_quiet (fail)
          go_wp2_with fail
          go_roundw
          case rel => exact ⟨i + 1, by go_num, by omega, by rw [HR.out], ⟨_, rfl⟩⟩
          case measure => simp [Go.RowKit.intOf]; omega
    · have hlt' : ¬ (i : Int) < (logN g : Nat) := by omega
      obtain rfl : i = logN g := by omega
      go_wp2_with fail
      go_ret
      exact ⟨rfl, hgk⟩
end
end Go.Proofs.Ytcfkpaijlibjaaa
