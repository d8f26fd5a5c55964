/- Pages that were found, in memory; SameFounds, GreatFounds, Low, found, three, Newer. -/
import Derived.Test.YtcfkpaijlibjaaaProg
import Derived.Test.YtcfkpaijlibjaaaRankM
import Derived.Deep.QuietTactic
import Derived.BigQuiet
import Derived.WalkLawsBesides
import Derived.WalkSpells
import Derived.Outline
import Derived.LoopTactic
import Derived.Deep.LoopGhost
import Derived.Deep.RegionHeld3
import Derived.Deep.DeepCutAuto
import Derived.Deep.CutBlock
import Derived.Test.YtcfkpaijlibjaaaBase
import Derived.Test.YtcfkpaijlibjaaaGr
import Derived.Test.YtcfkpaijlibjaaaAppg
import Derived.StillTailTactics
set_option linter.unusedVariables false
set_option linter.unusedSimpArgs false
namespace Go.Proofs.Ytcfkpaijlibjaaa
open Go.RowKit Go.Lib
abbrev cellsF (x : Found) : List Value := [.int .i64 x.block, .int .i64 x.page, .int .i64 x.kind, .int .i64 x.pg, .int .i64 x.seq, .int .i64 x.epoch]
abbrev foundV (x : Found) : Value := .agg #[.int .i64 x.block, .int .i64 x.page, .int .i64 x.kind, .int .i64 x.pg, .int .i64 x.seq, .int .i64 x.epoch]
abbrev tagV (x : Found) : Value := .agg #[.int .i64 x.kind, .int .i64 x.pg, .int .i64 x.seq, .int .i64 x.epoch]
def FoundR (_ : World) (x : Found) (cs : List Value) : Prop := cs = cellsF x
abbrev Founds := Reads FoundR 6
theorem Founds.grow {w W : World} {v : Value} {l : List Found} (h : Founds w v l) (g : Grow w W) : Founds W v l := Reads.grow (w := w) (W := W) (fun _ _ h => h) h g
theorem Founds.at {w : World} {a : Option Addr} {n c : Nat} {l : List Found} (h : Founds w (.slice a n c) l) {i : Nat} {x : Found} (hx : l[i]? = some x) :
    ∃ b off, a = some ⟨b, off, none⟩ ∧ b < w.heap.size ∧ w.cell? ⟨b, off + i * 6, none⟩ = some (.int .i64 x.block) ∧ w.cell? ⟨b, off + i * 6 + 1, none⟩ = some (.int .i64 x.page) ∧ w.cell? ⟨b, off + i * 6 + 2, none⟩ = some (.int .i64 x.kind) ∧
      w.cell? ⟨b, off + i * 6 + 3, none⟩ = some (.int .i64 x.pg) ∧ w.cell? ⟨b, off + i * 6 + 4, none⟩ = some (.int .i64 x.seq) ∧ w.cell? ⟨b, off + i * 6 + 5, none⟩ = some (.int .i64 x.epoch) := by
  obtain ⟨b, off, e, hb, cs, h1, h2, h3⟩ := Reads.at h hx
  unfold FoundR at h2
  subst h2
  exact ⟨b, off, e, hb, h3 0 _ rfl, h3 1 _ rfl, h3 2 _ rfl, h3 3 _ rfl, h3 4 _ rfl, h3 5 _ rfl⟩
theorem one_found : ∀ (w : World) (a : Found) (cs : List Value), FoundR w a cs → ∀ u ∈ cs, u.oneCell' = true := by
  intro w a cs h u hu; unfold FoundR at h; subst h; simp at hu; rcases hu with rfl | rfl | rfl | rfl | rfl | rfl <;> rfl
theorem info_found : (Try.prog.info? 30).map (fun i => (i.zero, i.size, i.bytes)) = some (some (.agg #[.int .i64 0, .int .i64 0, .int .i64 0, .int .i64 0, .int .i64 0, .int .i64 0]), 6, 48) := by kernel_rfl
def WfF (f : Found) : Prop := Wf f.block ∧ Wf f.page ∧ Wf f.kind ∧ Wf f.pg ∧ Wf f.seq ∧ Wf f.epoch
/-! equality -/
theorem eqPlace (a b c d : Int) (n : Nat) (w : World) : (Op.equalIn (n + 2) 28 (.agg #[.int .i64 a, .int .i64 b]) (.agg #[.int .i64 c, .int .i64 d])).run Try.prog w = .ok (a == c && b == d) w := by
  refine eq_struct (d := n + 1) Try.underlying28 (by kernel_rfl) ?_
  refine eqf_more (by rfl) (by go_simp; rfl) (by go_simp; rfl) (by go_simp) ?_
  exact eqf_one (by rfl) (by go_simp; rfl) (by go_simp; rfl) (by go_simp)
theorem eqTag (a b c d a' b' c' d' : Int) (n : Nat) (w : World) : (Op.equalIn (n + 2) 26 (.agg #[.int .i64 a, .int .i64 b, .int .i64 c, .int .i64 d]) (.agg #[.int .i64 a', .int .i64 b', .int .i64 c', .int .i64 d'])).run Try.prog w = .ok (a == a' && (b == b' && (c == c' && d == d'))) w := by
  refine eq_struct (d := n + 1) Try.underlying26 (by kernel_rfl) ?_
  refine eqf_more (by rfl) (by go_simp; rfl) (by go_simp; rfl) (by go_simp) ?_
  refine eqf_more (by rfl) (by go_simp; rfl) (by go_simp; rfl) (by go_simp) ?_
  refine eqf_more (by rfl) (by go_simp; rfl) (by go_simp; rfl) (by go_simp) ?_
  exact eqf_one (by rfl) (by go_simp; rfl) (by go_simp; rfl) (by go_simp)
theorem eqFound (x y : Found) (w : World) : (Op.equalIn 10000 30 (foundV x) (foundV y)).run Try.prog w = .ok (decide (x = y)) w := by
  have h : (decide (x = y)) = ((x.block == y.block && x.page == y.page) && (x.kind == y.kind && (x.pg == y.pg && (x.seq == y.seq && x.epoch == y.epoch)))) := by
    rw [Bool.eq_iff_iff]; cases x; cases y; simp [and_assoc]
  rw [h]
  refine eq_struct (d := 9999) Try.underlying30 (by kernel_rfl) ?_
  refine eqf_more (by rfl) (by first | (go_simp; done) | (go_simp; rfl)) (by first | (go_simp; done) | (go_simp; rfl)) (eqPlace _ _ _ _ 9997 w) ?_
  exact eqf_one (by rfl) (by first | (go_simp; done) | (go_simp; rfl)) (by first | (go_simp; done) | (go_simp; rfl)) (eqTag _ _ _ _ _ _ _ _ 9997 w)
theorem neqFound (x y : Found) (r : Bool) (h : decide (x = y) = r) (w : World) : (binOp .neq 30 (foundV x) (foundV y)).run Try.prog w = .ok (.bool (!r)) w := by
  rw [run_neq_struct, eqFound, h]; rfl
theorem eqlFound (x y : Found) (r : Bool) (h : decide (x = y) = r) (w : World) : (binOp .eql 30 (foundV x) (foundV y)).run Try.prog w = .ok (.bool r) w := by
  rw [run_eql_struct, eqFound, h]; rfl
set_option maxRecDepth 100000 in
set_option maxHeartbeats 1000000 in
theorem sameFounds_any (va vb : Value) (l m : List Found) (w : World) (hl : Founds w va l) (hm : Founds w vb m) (hz : l.length ≤ 1000000000) :
    Calls Try.prog 16 #[va, vb] w fun e w' => e = .returned (.bool (same l m)) ∧ Grow w w' := by
  obtain ⟨a, c, rfl⟩ := hl.mk
  obtain ⟨a', c', rfl⟩ := hm.mk
  by_cases hlm : l.length = m.length
  · have hn : ((l.length : Int) != (m.length : Int)) = false := by rw [hlm]; simp
    have HLM := Lib.hid hlm
    clear hlm
    go_enter Try.func16, Try.ntmps16
    go_wp2
    go_loopw [5] (fun v5 wx => Grow w wx ∧ ∃ i : Nat, v5 = .int .i64 i ∧ i ≤ l.length ∧ ∀ j x y, j < i → l[j]? = some x → m[j]? = some y → x = y) (fun v5 _ => l.length - (intOf v5).toNat)
    case atStart => exact ⟨Grow.refl _, 0, rfl, by omega, fun j _ _ h => absurd h (by omega)⟩
    case round =>
      obtain ⟨hg, i, rfl, hi, hall⟩ := hrel
      have HA := Lib.hid hall
      clear hall hn
      by_cases hlt : i < l.length
      · have hlt' : (i : Int) < l.length := by omega
        have hlm' : (i : Int) < m.length := by have := HLM.out; omega
        obtain ⟨x, hx, -⟩ := lt_get hlt
        obtain ⟨y, hy, -⟩ := lt_get (l := m) (i := i) (by omega)
        obtain ⟨b, off, rfl, -, hc0, hc1, hc2, hc3, hc4, hc5⟩ := (hl.grow hg).at hx
        obtain ⟨b', off', rfl, -, hd0, hd1, hd2, hd3, hd4, hd5⟩ := (hm.grow hg).at hy
        have HX := Lib.hid hx
        have HY := Lib.hid hy
        clear hx hy hl hm
        by_cases hxy : x = y
        · have hq := neqFound x y true (by rw [hxy]; simp)
          have HXY := Lib.hid hxy
          clear hxy
          go_wp2
          go_quiet (fail)
          go_wp2
          go_roundw
          case rel => exact ⟨hg.drewN _, i + 1, by go_num, by omega, fun j x' y' hj h1 h2 => by
            rcases (by omega : j < i ∨ j = i) with h3 | rfl
            · exact HA.out j x' y' h3 h1 h2
            · rw [HX.out] at h1; rw [HY.out] at h2; injection h1 with h1; injection h2 with h2; rw [← h1, ← h2]; exact HXY.out⟩
          case measure => simp [intOf]; omega
        · have hq := neqFound x y false (decide_eq_false hxy)
          have HR := Lib.hid (same_no (a := l) (b := m) (fun e => hxy (by have h1 := HX.out; rw [e, HY.out] at h1; injection h1 with h1; exact h1.symm)))
          clear hxy
          go_wp2
          go_quiet (fail)
          go_wp2
          go_ret
          exact ⟨ret_bool HR.out.symm, hg.drewN _⟩
      · have HR := Lib.hid (same_yes (list_same HLM.out (fun j x y h1 h2 => HA.out j x y (by have := (List.getElem?_eq_some_iff.1 h1).1; omega) h1 h2)))
        have hlt' : ¬ (i : Int) < l.length := by omega
        clear hl hm
        go_wp2
        go_ret
        exact ⟨ret_bool HR.out.symm, hg⟩
  · have hn : ((l.length : Int) != (m.length : Int)) = true := by rw [bne_iff_ne]; omega
    have HR := Lib.hid (same_no (a := l) (b := m) (fun e => hlm (by rw [e])))
    clear hlm hl hm
    go_enter Try.func16, Try.ntmps16
    go_wp2
    go_ret
    exact ⟨ret_bool HR.out.symm, Grow.refl _⟩
set_option maxRecDepth 100000 in
theorem greatFounds_any (v : Value) (l : List Found) (m : Int) (w : World) (h : Founds w v l) :
    Calls Try.prog 11 #[v, .int .i64 m] w fun e w' => e = .returned (.bool (decide (m < l.length))) ∧ w = w' := by
  obtain ⟨a, c, rfl⟩ := h.mk
  clear h
  go_enter Try.func11, Try.ntmps11
  go_wp2_with fail
  go_ret
  exact ⟨rfl, rfl⟩
/-- found's page. -/
def mkF (kind page epoch seq : Int) : Found := ⟨seq, 0, kind, page, seq, epoch⟩
set_option maxRecDepth 100000 in
theorem found_any (kind page epoch seq : Int) (w : World) :
    Calls Try.prog 18 #[.int .i64 kind, .int .i64 page, .int .i64 epoch, .int .i64 seq] w fun e w' => e = .returned (foundV (mkF kind page epoch seq)) ∧ Grow w w' := by
  go_enter Try.func18, Try.ntmps18
  go_wp2_with fail
  refine bodyPost_ret (v := foundV (mkF kind page epoch seq)) (by simp [results, Try.results18, go_sem, mkF]) rfl ⟨rfl, ?_⟩
  exact (Grow.refl w).alloc _
def threeF : List Found := [mkF 1 3 1 4, mkF 3 0 1 5, mkF 1 3 2 6]
def RetThree (w : World) (e : Ending) (w' : World) : Prop := ∃ b, e = .returned (.slice (some ⟨b, 0, none⟩) 3 3) ∧ Founds w' (.slice (some ⟨b, 0, none⟩) 3 3) threeF ∧ Grow w w'
theorem three_any (w : World) : Calls Try.prog 39 #[] w (RetThree w) := by
  have c1 := found_any
  unfold foundV mkF at c1
  go_enter Try.func39, Try.ntmps39
  go_wp2_with fail
  refine (c1 1 3 1 4 _).mono ?_
  rintro e w1 ⟨rfl, g1⟩
  go_wp2_with fail
  refine (c1 3 0 1 5 _).mono ?_
  rintro e w2 ⟨rfl, g2⟩
  go_wp2_with fail
  refine (c1 1 3 2 6 _).mono ?_
  rintro e w3 ⟨rfl, g3⟩
  go_wp2_with fail
  go_ret
  exact ⟨w3.heap.size, rfl, lit_reads cellsF (fun _ => rfl) w3 threeF 30 (fun _ => rfl), ((g1.trans g2).trans g3).alloc _⟩
end Go.Proofs.Ytcfkpaijlibjaaa
