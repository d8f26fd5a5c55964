/- The walks of rank.Live, Stale, All. -/
import Derived.Test.YtcfkpaijlibjaaaRankW
import Derived.Test.YtcfkpaijlibjaaaRankL
import Derived.Test.YtcfkpaijlibjaaaKeys
set_option linter.unusedVariables false
set_option linter.unusedSimpArgs false
namespace Go.Proofs.Ytcfkpaijlibjaaa
open Go.RowKit Go.Lib Go.Maps
abbrev boxF (x : Found) : Array Value := #[.int .i64 x.block, .int .i64 x.page, .int .i64 x.kind, .int .i64 x.pg, .int .i64 x.seq, .int .i64 x.epoch]
def RetLive (o : Option Found) (w : World) (e : Ending) (w' : World) : Prop := e = .returned (.tuple #[foundV (o.getD default), .bool o.isSome]) ∧ Grow w w'
set_option maxRecDepth 100000 in
set_option maxHeartbeats 2000000 in
theorem live_any (v : Value) (l : List Found) (p : Int) (w : World) (h : Founds w v l) (hz : l.length ≤ 1000000) (hw : ∀ x ∈ l, Wf x.pg) (hp : Wf p) :
    Calls Try.prog 38 #[v, .int .i64 p] w (RetLive (liveF l p) w) := by
  have g0 : Grow w (w.alloc (.cells #[.int .i64 0, .int .i64 0, .int .i64 0, .int .i64 0, .int .i64 0, .int .i64 0] 30)) := (Grow.refl w).alloc _
  have cN := newest_any v l _ (h.grow g0) hz hw
  have hb0 := heap_alloc_new w (.cells #[.int .i64 0, .int .i64 0, .int .i64 0, .int .i64 0, .int .i64 0, .int .i64 0] 30)
  obtain ⟨a, c, rfl⟩ := h.mk
  have HB0 := Lib.hid hb0
  clear h hb0
  go_enter Try.func38, Try.ntmps38
  go_wp2_with fail
  refine cN.mono ?_
  rintro e w1 ⟨b, rfl, hf, g1⟩
  have hlk := hf.look hp
  have hd := g1.blk HB0.out
  have hsz : w.heap.size < w1.heap.size := (Array.getElem?_eq_some_iff.1 hd).1
  have gw := g0.trans g1
  have HLV := Lib.hid (show liveF l p = dataF (bestF (lastF l) l p) from rfl)
  generalize bestF (lastF l) l p = o at *
  obtain ⟨y, hy⟩ : ∃ y : Found, y = o.getD default := ⟨_, rfl⟩
  rw [← hy] at hlk
  have HY := Lib.hid hy
  clear hy cN hf g0 g1
  have e0 := (cell_of_row w1 w.heap.size 0 _ _ _ hd).trans rfl
  have f0 := frozen_of_row w1 w.heap.size 0 _ _ hd
  have e1 := (cell_of_row w1 w.heap.size 1 _ _ _ hd).trans rfl
  have f1 := frozen_of_row w1 w.heap.size 1 _ _ hd
  have e2 := (cell_of_row w1 w.heap.size 2 _ _ _ hd).trans rfl
  have f2 := frozen_of_row w1 w.heap.size 2 _ _ hd
  have e3 := (cell_of_row w1 w.heap.size 3 _ _ _ hd).trans rfl
  have f3 := frozen_of_row w1 w.heap.size 3 _ _ hd
  have e4 := (cell_of_row w1 w.heap.size 4 _ _ _ hd).trans rfl
  have f4 := frozen_of_row w1 w.heap.size 4 _ _ hd
  have e5 := (cell_of_row w1 w.heap.size 5 _ _ _ hd).trans rfl
  have f5 := frozen_of_row w1 w.heap.size 5 _ _ hd
  clear hd
  by_cases hk : y.kind = 1
  · have hk1 : (y.kind != 1) = false := by rw [hk]; rfl
    have HR := Lib.hid (show liveF l p = some y by
      rw [HLV.out]
      have h2 := HY.out
      cases o with
      | none => rw [Option.getD_none] at h2; rw [h2] at hk; exact absurd hk (by decide)
      | some z => rw [Option.getD_some] at h2; subst h2; unfold dataF; simp only; rw [if_pos hk])
    clear hk
    go_wp2_with fail
    refine bodyPost_ret (v := .tuple #[foundV y, .bool true]) ?_ rfl ?_
    · rw [results_cell_tmp rfl]
      go_simp
    · exact ⟨by rw [HR.out]; rfl, by repeat' (first | with_reducible exact gw | with_reducible refine Grow.set ?_ (by simp) _ | with_reducible refine Grow.alloc ?_ _)⟩
  · have hk1 : (y.kind != 1) = true := by rw [bne_iff_ne]; exact hk
    have HR := Lib.hid (show liveF l p = none by
      rw [HLV.out]
      have h2 := HY.out
      cases o with
      | none => rfl
      | some z => rw [Option.getD_some] at h2; subst h2; unfold dataF; simp only; rw [if_neg hk])
    clear hk
    go_wp2_with fail
    refine bodyPost_ret (v := .tuple #[.agg #[.int .i64 0, .int .i64 0, .int .i64 0, .int .i64 0, .int .i64 0, .int .i64 0], .bool false]) ?_ rfl ?_
    · rw [results_cell_tmp rfl]
      go_simp
    · exact ⟨by rw [HR.out]; rfl, by repeat' (first | with_reducible exact gw | with_reducible refine Grow.set ?_ (by simp) _ | with_reducible refine Grow.alloc ?_ _)⟩
def RetOwn (l : List Found) (w : World) (e : Ending) (w' : World) : Prop := ∃ v, e = .returned v ∧ OwnL FoundR 30 6 w v l w'
theorem filter_take {α : Type} (q : α → Bool) {l : List α} {j : Nat} {x : α} (hx : l[j]? = some x) : (l.take (j + 1)).filter q = (l.take j).filter q ++ (if q x then [x] else []) := by
  obtain ⟨hi, e⟩ := List.getElem?_eq_some_iff.1 hx
  rw [List.take_succ_eq_append_getElem hi, e, List.filter_append]
  cases hq : q x <;> simp [hq]
theorem filter_le {α : Type} (q : α → Bool) (l : List α) (j : Nat) : ((l.take j).filter q).length ≤ l.length := by
  have := List.length_filter_le q (l.take j)
  rw [List.length_take] at this; omega
set_option maxRecDepth 100000 in
set_option maxHeartbeats 2000000 in
theorem stale_any (v : Value) (l : List Found) (w : World) (h : Founds w v l) (hz : l.length ≤ 1000000) :
    Calls Try.prog 17 #[v] w (RetOwn (staleF l) w) := by
  have cL := last_any v l w h hz
  obtain ⟨a, c, rfl⟩ := h.mk
  have HH := Lib.hid h
  clear h
  obtain ⟨i0, hi0, hz0, hz1, hz2⟩ := info_parts info_found
  have HST := Lib.hid (show staleF l = l.filter (fun f => decide (lastF l < f.epoch)) from rfl)
  go_enter Try.func17, Try.ntmps17
  go_wp2_with fail
  refine cL.mono ?_
  rintro e w1 ⟨rfl, g1⟩
  have HO := Lib.hid (OwnL.start (R := FoundR) (e := 30) (k := 6) g1)
  generalize lastF l = last at *
  clear cL
  go_wp2_with fail
  go_loopw [4, 11] (fun v4 v11 wx => ∃ j : Nat, v11 = .int .i64 j ∧ j ≤ l.length ∧ OwnL FoundR 30 6 w v4 ((l.take j).filter (fun f => decide (last < f.epoch))) wx) (fun _ v11 _ => l.length - (Go.RowKit.intOf v11).toNat)
  case atStart => exact ⟨0, rfl, by omega, HO.out⟩
  case round =>
    obtain ⟨j, rfl, hj, ho⟩ := hrel
    have hg := ho.grow
    have HOW := Lib.hid ho
    clear ho HO
    by_cases hlt : j < l.length
    · have hlt' : (j : Int) < l.length := by omega
      obtain ⟨x, hx, -⟩ := lt_get hlt
      obtain ⟨b, off, rfl, hb, k0, k1, k2, k3, k4, k5⟩ := (HH.out.grow hg).at hx
      have HFT := Lib.hid (filter_take (fun f : Found => decide (last < f.epoch)) hx)
      have hfl := filter_le (fun f : Found => decide (last < f.epoch)) l j
      clear hx
      by_cases hk : last < x.epoch
      · have HN := Lib.hid (show (l.take (j + 1)).filter (fun f => decide (last < f.epoch)) = (l.take j).filter (fun f => decide (last < f.epoch)) ++ [x] by rw [HFT.out, if_pos (decide_eq_true hk)])
        clear HFT
        go_upto_region 6 with (fail)
        generalize hU : wr.alloc (.cells (boxF x) 30) = U
        have gU : Grow wr U := by rw [← hU]; exact (Grow.refl wr).alloc _
        have hbu : U.heap[wr.heap.size]? = some (.cells (boxF x) 30 (0, 0)) := by rw [← hU]; exact heap_alloc_new wr _
        clear hU k0 k1 k2 k3 k4 k5
        obtain ⟨p0, p1, p2, p3, p4, p5⟩ := box6 hbu
        obtain ⟨xs, hxs⟩ := HOW.out.more gU
        have HXS := Lib.hid hxs
        generalize hwb : wr.heap.size = wb at *
        generalize hFL : (l.take j).filter (fun f => decide (last < f.epoch)) = L at *
        clear hbu hxs hwb hFL
        go_wp2_with (at_builtin; refine app_one rfl _ _ 22 rfl 30 i0 _ 6 48 Try.underlying22 hi0 hz0 hz1 hz2 rfl (by decide) u4 L.length xs rfl w U ?_ (cellsF x) rfl ?_ rfl ?_ (by decide) ?_; exact HXS.out.1; (intro u hu; simp at hu; rcases hu with rfl | rfl | rfl | rfl | rfl | rfl <;> rfl); omega; intro v' w' ho' hk' _; have HO' := Lib.hid ho'; clear ho' hk')
        go_roundw
        case rel => exact ⟨j + 1, by go_num, by omega, by rw [HN.out]; exact OwnL.one HXS.out HO'.out rfl rfl⟩
        case measure => simp [Go.RowKit.intOf]; omega
      · have HN := Lib.hid (show (l.take (j + 1)).filter (fun f => decide (last < f.epoch)) = (l.take j).filter (fun f => decide (last < f.epoch)) by rw [HFT.out, if_neg (by rw [decide_eq_true_eq]; exact hk), List.append_nil])
        clear HFT
        go_wp2_with fail
        go_roundw
        case rel => exact ⟨j + 1, by go_num, by omega, by rw [HN.out]; exact HOW.out.more ((Grow.refl _).alloc _)⟩
        case measure => simp [Go.RowKit.intOf]; omega
    · have hlt' : ¬ (j : Int) < l.length := by omega
      have HR : Hid (OwnL FoundR 30 6 w u4 (staleF l) wr) := by
        have := HOW.out
        rw [List.take_of_length_le (by omega), ← HST.out] at this
        exact Lib.hid this
      go_wp2_with fail
      go_ret
      exact ⟨_, rfl, HR.out⟩
/-! All -/
theorem fmap_take {α β : Type} (q : α → Option β) {l : List α} {j : Nat} {x : α} (hx : l[j]? = some x) : (l.take (j + 1)).filterMap q = (l.take j).filterMap q ++ (q x).toList := by
  obtain ⟨hi, e⟩ := List.getElem?_eq_some_iff.1 hx
  rw [List.take_succ_eq_append_getElem hi, e, List.filterMap_append]
  cases hq : q x <;> simp [hq]
theorem fmap_le {α β : Type} (q : α → Option β) (l : List α) (j : Nat) : ((l.take j).filterMap q).length ≤ l.length := by
  have := List.length_filterMap_le q (l.take j)
  rw [List.length_take] at this; omega
theorem isAll_of {l : List Found} (hw : ∀ x ∈ l, Wf x.pg) {ks : List Int} (h1 : ks.Pairwise (· < ·)) (h2 : ∀ x : Int, x ∈ ks ↔ Wf x ∧ (bestF (lastF l) l x).isSome = true) : IsAll l (ks.filterMap fun p => dataF (bestF (lastF l) l p)) := by
  have hpg : ∀ p x, dataF (bestF (lastF l) l p) = some x → x.pg = p := fun p x h => (live_spec (fs := l) (p := p) h).2.2.1
  refine ⟨?_, fun x => ?_⟩
  · refine List.pairwise_filterMap.2 (h1.imp fun {a b} hab x hx y hy => ?_)
    rw [hpg a x hx, hpg b y hy]; exact hab
  · rw [List.mem_filterMap]
    constructor
    · rintro ⟨p, -, hx⟩
      have := hpg p x hx
      subst this; exact hx
    · intro hx
      have hs := live_spec hx
      refine ⟨x.pg, (h2 _).2 ⟨hw x hs.1, ?_⟩, hx⟩
      rw [best_of_live hx]; rfl
def RetAll (l : List Found) (w : World) (e : Ending) (w' : World) : Prop := ∃ v m, e = .returned v ∧ IsAll l m ∧ OwnL FoundR 30 6 w v m w' ∧ m.length ≤ l.length
set_option maxRecDepth 100000 in
set_option maxHeartbeats 4000000 in
theorem all_any (v : Value) (l : List Found) (w : World) (h : Founds w v l) (hz : l.length ≤ 1000000) (hw : ∀ x ∈ l, Wf x.pg) :
    Calls Try.prog 14 #[v] w (RetAll l w) := by
  have cN := newest_any v l w h hz hw
  obtain ⟨a, c, rfl⟩ := h.mk
  have HIA := Lib.hid (fun ks h1 h2 => isAll_of (l := l) hw (ks := ks) h1 h2)
  clear h hw
  obtain ⟨i0, hi0, hz0, hz1, hz2⟩ := info_parts info_found
  go_enter Try.func14, Try.ntmps14
  go_wp2_with fail
  refine cN.mono ?_
  rintro e w1 ⟨b, rfl, hf, g1⟩
  have cS := sortedF_any b l.length _ w1 hf hz
  have HF := Lib.hid hf
  clear hf
  generalize hfn : bestF (lastF l) l = f at *
  go_wp2_with fail
  refine (keysF_any (some b) w1).mono ?_
  rintro e w2 ⟨rfl, rfl⟩
  go_wp2_with fail
  refine cS.mono ?_
  rintro e w3 ⟨kv, ks, rfl, h1, h2, hks, g3, hlen⟩
  have g13 : Grow w1 w3 := ((Grow.refl w1).alloc _).trans g3
  have HF3 := Lib.hid (HF.out.grow g13)
  have HALL := Lib.hid (show IsAll l (ks.filterMap fun p => dataF (f p)) from by
    have := HIA.out ks h1 h2
    simpa using this)
  obtain ⟨ka, kc, rfl⟩ := hks.mk
  have HKS := Lib.hid hks
  have HWF := Lib.hid (fun x hx => ((h2 x).1 hx).1)
  have g03 := g1.trans g13
  clear hks h1 h2 cN cS HF g3 HIA
  go_wp2_with fail
  go_loopw [4, 13] (fun v4 v13 wx => ∃ j : Nat, v13 = .int .i64 j ∧ j ≤ ks.length ∧ OwnL FoundR 30 6 w3 v4 ((ks.take j).filterMap fun p => dataF (f p)) wx) (fun _ v13 _ => ks.length - (Go.RowKit.intOf v13).toNat)
  case atStart => exact ⟨0, rfl, by omega, OwnL.start (Grow.refl _)⟩
  case round =>
    obtain ⟨j, rfl, hj, ho⟩ := hrel
    have hg := ho.grow
    have HOW := Lib.hid ho
    clear ho
    by_cases hlt : j < ks.length
    · have hlt' : (j : Int) < ks.length := by omega
      obtain ⟨p, hp, -⟩ := lt_get hlt
      obtain ⟨kb, koff, rfl, hkb, kc0⟩ := (HKS.out.grow hg).at hp
      have HFT := Lib.hid (fmap_take (fun p => dataF (f p)) hp)
      have hfl := fmap_le (fun p => dataF (f p)) ks j
      have hlk := (HF3.out.grow hg).look (HWF.out p (List.mem_of_getElem? hp))
      clear hp
      obtain ⟨y, hy⟩ : ∃ y : Found, y = (f p).getD default := ⟨_, rfl⟩
      rw [← hy] at hlk
      unfold foundV at hlk
      have hf1 : ∀ w, (Instr.field 30 (.agg (boxF y)) 1).run Try.prog w = .ok (.agg #[.int .i64 y.kind, .int .i64 y.pg, .int .i64 y.seq, .int .i64 y.epoch]) w := fun _ => by kernel_rfl
      have hf2 : ∀ w, (Instr.field 26 (.agg #[.int .i64 y.kind, .int .i64 y.pg, .int .i64 y.seq, .int .i64 y.epoch]) 0).run Try.prog w = .ok (.int .i64 y.kind) w := fun _ => by kernel_rfl
      by_cases hk : y.kind = 1
      · have hkk : (y.kind == 1) = true := by rw [beq_iff_eq]; exact hk
        have HN := Lib.hid (show (ks.take (j + 1)).filterMap (fun p => dataF (f p)) = (ks.take j).filterMap (fun p => dataF (f p)) ++ [y] by
          rw [HFT.out]
          have : dataF (f p) = some y := by
            cases ho : f p with
            | none => rw [ho, Option.getD_none] at hy; rw [hy] at hk; exact absurd hk (by decide)
            | some z => rw [ho, Option.getD_some] at hy; subst hy; unfold dataF; simp only; rw [if_pos hk]
          rw [this]; rfl)
        obtain ⟨xs, hxs⟩ := HOW.out
        have HXS := Lib.hid hxs
        generalize hFL : (ks.take j).filterMap (fun p => dataF (f p)) = L at *
        clear hxs HFT hk hy hFL
        go_wp2_with (at_builtin; refine app_one rfl _ _ 22 rfl 30 i0 _ 6 48 Try.underlying22 hi0 hz0 hz1 hz2 rfl (by decide) u4 L.length xs rfl w3 wr ?_ (cellsF y) rfl ?_ rfl ?_ (by decide) ?_; exact HXS.out.1; (intro u hu; simp at hu; rcases hu with rfl | rfl | rfl | rfl | rfl | rfl <;> rfl); omega; intro v' w' ho' hk' _; have HO' := Lib.hid ho'; clear ho' hk')
        go_roundw
        case rel => exact ⟨j + 1, by go_num, by omega, by rw [HN.out]; exact OwnL.one HXS.out HO'.out rfl rfl⟩
        case measure => simp [Go.RowKit.intOf]; omega
      · have hkk : (y.kind == 1) = false := by rw [beq_eq_false_iff_ne]; exact hk
        have HN := Lib.hid (show (ks.take (j + 1)).filterMap (fun p => dataF (f p)) = (ks.take j).filterMap (fun p => dataF (f p)) by
          rw [HFT.out]
          have : dataF (f p) = none := by
            cases ho : f p with
            | none => rfl
            | some z => rw [ho, Option.getD_some] at hy; subst hy; unfold dataF; simp only; rw [if_neg hk]
          rw [this]; exact List.append_nil _)
        clear HFT hk hy
        go_wp2_with fail
        go_roundw
        case rel => exact ⟨j + 1, by go_num, by omega, by rw [HN.out]; exact HOW.out⟩
        case measure => simp [Go.RowKit.intOf]; omega
    · have hlt' : ¬ (j : Int) < ks.length := by omega
      have HR : Hid (OwnL FoundR 30 6 w u4 (ks.filterMap fun p => dataF (f p)) wr) := by
        have := HOW.out
        rw [List.take_of_length_le (by omega)] at this
        exact Lib.hid (this.rebase g03 (fun _ _ h => h))
      have hl2 : (ks.filterMap fun p => dataF (f p)).length ≤ l.length := Nat.le_trans (List.length_filterMap_le _ _) hlen
      have HL2 := Lib.hid hl2
      clear hl2
      go_wp2_with fail
      go_ret
      exact ⟨_, _, rfl, HALL.out, HR.out, HL2.out⟩
end Go.Proofs.Ytcfkpaijlibjaaa
