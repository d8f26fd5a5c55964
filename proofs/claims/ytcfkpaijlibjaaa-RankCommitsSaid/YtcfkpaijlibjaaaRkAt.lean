/- The walk of the law's 'at'. -/
import Derived.Test.YtcfkpaijlibjaaaRankA
set_option linter.unusedVariables false
set_option linter.unusedSimpArgs false
namespace Go.Proofs.Ytcfkpaijlibjaaa
open Go.RowKit Go.Lib Go.Maps
theorem find_here {m : List Found} {j : Nat} {x : Found} {p : Int} (hx : m[j]? = some x) (h : ∀ f ∈ m.take j, f.pg ≠ p) (hp : x.pg = p) : m.find? (fun f => f.pg == p) = some x := by
  obtain ⟨hi, e⟩ := List.getElem?_eq_some_iff.1 hx
  rw [List.find?_eq_some_iff_append]
  refine ⟨by rw [hp]; simp, m.take j, m.drop (j + 1), ?_, fun f hf => by simpa using h f hf⟩
  rw [← e, List.getElem_cons_drop, List.take_append_drop]
theorem find_not {m : List Found} {p : Int} (h : ∀ f ∈ m, f.pg ≠ p) : m.find? (fun f => f.pg == p) = none := by
  rw [List.find?_eq_none]; exact fun f hf => by simpa using h f hf
/-- What 'at' finds among those that count. -/
theorem find_live {fs m : List Found} (h : IsAll fs m) (p : Int) : m.find? (fun f => f.pg == p) = liveF fs p := by
  cases e : m.find? (fun f => f.pg == p) with
  | some x =>
    have h1 := List.mem_of_find?_eq_some e
    have h2 := List.find?_some e
    have h3 : x.pg = p := by simpa using h2
    have := (h.2 x).1 h1
    rw [h3] at this
    exact this.symm
  | none =>
    cases e2 : liveF fs p with
    | none => rfl
    | some y =>
      have h1 := (live_spec e2)
      have h2 : y.pg = p := h1.2.2.1
      have h3 := (h.2 y).2 (by rw [h2]; exact e2)
      rw [List.find?_eq_none] at e
      exact absurd h2 (by simpa using e y h3)
set_option maxRecDepth 100000 in
set_option maxHeartbeats 2000000 in
theorem at_any (v : Value) (m : List Found) (p : Int) (w : World) (h : Founds w v m) (hz : m.length ≤ 1000000) :
    Calls Try.prog 19 #[v, .int .i64 p] w (RetLive (m.find? fun f => f.pg == p) w) := by
  have g0 : Grow w (w.alloc (.cells #[.int .i64 0, .int .i64 0, .int .i64 0, .int .i64 0, .int .i64 0, .int .i64 0] 30)) := (Grow.refl w).alloc _
  have HB0 := Lib.hid (heap_alloc_new w (.cells #[.int .i64 0, .int .i64 0, .int .i64 0, .int .i64 0, .int .i64 0, .int .i64 0] 30))
  have HH := Lib.hid (h.grow g0)
  obtain ⟨a, c, rfl⟩ := h.mk
  clear h
  go_enter Try.func19, Try.ntmps19
  go_upto_block 0 with fail
  generalize hW : w.alloc (.cells #[.int .i64 0, .int .i64 0, .int .i64 0, .int .i64 0, .int .i64 0, .int .i64 0] 30) = W at *
  clear hW
  have hsz : w.heap.size < W.heap.size := (Array.getElem?_eq_some_iff.1 HB0.out).1
  have hd := HB0.out
  have e0 := (cell_of_row W w.heap.size 0 _ _ _ hd).trans rfl
  have f0 := frozen_of_row W w.heap.size 0 _ _ hd
  have e1 := (cell_of_row W w.heap.size 1 _ _ _ hd).trans rfl
  have f1 := frozen_of_row W w.heap.size 1 _ _ hd
  have e2 := (cell_of_row W w.heap.size 2 _ _ _ hd).trans rfl
  have f2 := frozen_of_row W w.heap.size 2 _ _ hd
  have e3 := (cell_of_row W w.heap.size 3 _ _ _ hd).trans rfl
  have f3 := frozen_of_row W w.heap.size 3 _ _ hd
  have e4 := (cell_of_row W w.heap.size 4 _ _ _ hd).trans rfl
  have f4 := frozen_of_row W w.heap.size 4 _ _ hd
  have e5 := (cell_of_row W w.heap.size 5 _ _ _ hd).trans rfl
  have f5 := frozen_of_row W w.heap.size 5 _ _ hd
  clear hd
  go_wp2_with fail
  go_loop [6] (fun v6 => ∃ j : Nat, v6 = .int .i64 j ∧ j ≤ m.length ∧ ∀ f ∈ m.take j, f.pg ≠ p) (fun v6 => m.length - (Go.RowKit.intOf v6).toNat)
  case atStart => exact ⟨0, rfl, by omega, fun f hf => (by cases hf)⟩
  case round =>
    obtain ⟨j, rfl, hj, hno⟩ := hrel
    have HNO := Lib.hid hno
    clear hno
    by_cases hlt : j < m.length
    · have hlt' : (j : Int) < m.length := by omega
      obtain ⟨x, hx, -⟩ := lt_get hlt
      obtain ⟨b, off, rfl, hb, k0, k1, k2, k3, k4, k5⟩ := HH.out.at hx
      have HX := Lib.hid hx
      clear hx
      by_cases q : x.pg = p
      · have q1 : (x.pg == p) = true := by rw [q]; simp
        have HR := Lib.hid (find_here HX.out HNO.out q)
        clear q
        go_wp2_with fail
        refine bodyPost_ret (v := .tuple #[foundV x, .bool true]) ?_ rfl ?_
        · rw [results_cell_tmp rfl]
          go_simp
        · exact ⟨by rw [HR.out]; rfl, by repeat' (first | with_reducible exact g0 | with_reducible refine Grow.set ?_ (by simp) _ | with_reducible refine Grow.alloc ?_ _)⟩
      · have q1 : (x.pg == p) = false := by rw [beq_eq_false_iff_ne]; exact q
        have HN2 := Lib.hid (show ∀ f ∈ m.take (j + 1), f.pg ≠ p from fun f hf => by
          obtain ⟨hi, e⟩ := List.getElem?_eq_some_iff.1 HX.out
          rw [List.take_succ_eq_append_getElem hi, e] at hf
          rcases List.mem_append.1 hf with hf | hf
          · exact HNO.out f hf
          · obtain rfl : f = x := by simpa using hf
            exact q)
        clear q
        go_wp2_with fail
        go_round
        case rel => exact ⟨j + 1, by go_num, by omega, HN2.out⟩
        case measure => simp [Go.RowKit.intOf]; omega
    · have hlt' : ¬ (j : Int) < m.length := by omega
      have HR := Lib.hid (find_not (p := p) (m := m) (by have := HNO.out; rwa [List.take_of_length_le (by omega)] at this))
      go_wp2_with fail
      refine bodyPost_ret (v := .tuple #[.agg #[.int .i64 0, .int .i64 0, .int .i64 0, .int .i64 0, .int .i64 0, .int .i64 0], .bool false]) ?_ rfl ?_
      · rw [results_cell_tmp rfl]
        go_simp
      · exact ⟨by rw [HR.out]; rfl, by repeat' (first | with_reducible exact g0 | with_reducible refine Grow.set ?_ (by simp) _ | with_reducible refine Grow.alloc ?_ _)⟩
end Go.Proofs.Ytcfkpaijlibjaaa
