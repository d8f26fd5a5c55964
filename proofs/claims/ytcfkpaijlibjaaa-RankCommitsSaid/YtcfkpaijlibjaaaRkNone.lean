/- The walk of the law RankNone. -/
import Derived.Test.YtcfkpaijlibjaaaRankK
import Derived.Test.YtcfkpaijlibjaaaOpnF
set_option linter.unusedVariables false
set_option linter.unusedSimpArgs false
namespace Go.Proofs.Ytcfkpaijlibjaaa
open Go.RowKit Go.Lib Go.Maps
def someQ (f : Found) : Bool := !(f.kind == 3) && decide (1 ≤ f.epoch) && decide (f.epoch ≤ 16777215)
theorem someF_take {l : List Found} {j : Nat} {x : Found} (hx : l[j]? = some x) : someF (l.take (j + 1)) = someF (l.take j) ++ (if someQ x then [x] else []) := filter_take someQ hx
theorem someF_le (l : List Found) (j : Nat) : (someF (l.take j)).length ≤ l.length := filter_le someQ l j
theorem ite_max (a b : Int) : (if a < b then b else a) = max a b := by split <;> omega
set_option maxRecDepth 100000 in
set_option maxHeartbeats 4000000 in
theorem none_walk (v : Value) (l : List Found) (w : World) (h : Founds w v l) (hw : ∀ x ∈ l, WfF x) :
    Calls Try.prog 6 #[v] w fun e w' => e = .returned (.bool true) ∧ Grow w w' := by
  have cG := greatFounds_any v l 40 w h
  have cA := awake10_any
  obtain ⟨a, c, rfl⟩ := h.mk
  have HH := Lib.hid h
  have HW := Lib.hid hw
  clear h hw
  obtain ⟨i0, hi0, hz0, hz1, hz2⟩ := info_parts info_found
  by_cases hlen : (40 : Int) < l.length
  · rw [decide_eq_true hlen] at cG
    go_enter Try.func6, Try.ntmps6
    go_wp2_with fail
    refine cG.mono ?_
    rintro e w1 ⟨rfl, rfl⟩
    go_wp2_with fail
    refine (cA _).mono ?_
    rintro e w2 ⟨rfl, g2⟩
    go_wp2_with fail
    go_ret
    exact ⟨rfl, g2⟩
  rw [decide_eq_false hlen] at cG
  have hl40 : l.length ≤ 40 := by omega
  clear hlen
  go_enter Try.func6, Try.ntmps6
  go_wp2_with fail
  refine cG.mono ?_
  rintro e w1 ⟨rfl, rfl⟩
  clear cG
  go_wp2_with fail
  go_loopw [3, 4, 5] (fun v3 v4 v5 wx => ∃ j : Nat, v5 = .int .i64 j ∧ j ≤ l.length ∧ OwnL FoundR 30 6 w v3 (someF (l.take j)) wx ∧ v4 = .int .i64 (topE (someF (l.take j)))) (fun _ _ v5 _ => l.length - (Go.RowKit.intOf v5).toNat)
  case atStart => exact ⟨0, rfl, by omega, OwnL.start (Grow.refl _), rfl⟩
  case round =>
    obtain ⟨j, rfl, hj, ho, rfl⟩ := hrel
    have hg := ho.grow
    have HOW := Lib.hid ho
    clear ho
    by_cases hlt : j < l.length
    · have hlt' : (j : Int) < l.length := by omega
      obtain ⟨x, hx, -⟩ := lt_get hlt
      obtain ⟨b, off, rfl, hb, m0, m1, m2, m3, m4, m5⟩ := HH.out.at hx
      have k0 := (hg.cells _ _ hb).trans m0
      have k1 := (hg.cells _ _ hb).trans m1
      have k2 := (hg.cells _ _ hb).trans m2
      have k3 := (hg.cells _ _ hb).trans m3
      have k4 := (hg.cells _ _ hb).trans m4
      have k5 := (hg.cells _ _ hb).trans m5
      have M5 := Lib.hid m5
      have HFT := Lib.hid (someF_take hx)
      have hfl := someF_le l j
      clear hx m0 m1 m2 m3 m4 m5
      by_cases hq : someQ x = true
      · have hq2 := hq
        unfold someQ at hq2
        simp only [Bool.and_eq_true, Bool.not_eq_true', beq_eq_false_iff_ne, decide_eq_true_eq] at hq2
        obtain ⟨⟨hk, he1⟩, he2⟩ := hq2
        have hkn : (x.kind != 3) = true := by rw [bne_iff_ne]; exact hk
        have HN := Lib.hid (show someF (l.take (j + 1)) = someF (l.take j) ++ [x] by rw [HFT.out, if_pos hq])
        have HT := Lib.hid (show topE (someF (l.take (j + 1))) = max (topE (someF (l.take j))) x.epoch by rw [HN.out, topE_snoc])
        obtain ⟨xs, hxs⟩ := HOW.out
        have HXS := Lib.hid hxs
        generalize hFL : someF (l.take j) = L at *
        clear hxs HFT hk hq hFL
        go_wp2_with (at_builtin; refine app_one rfl _ _ 22 rfl 30 i0 _ 6 48 Try.underlying22 hi0 hz0 hz1 hz2 rfl (by decide) u3 L.length xs rfl w wr ?_ (cellsF x) rfl ?_ rfl ?_ (by decide) ?_; exact HXS.out.1; (intro u hu; simp at hu; rcases hu with rfl | rfl | rfl | rfl | rfl | rfl <;> rfl); omega; intro v' w' ho' hk' _; have HO' := Lib.hid ho'; have hg' := ho'.grow; have k5' := (hg'.cells _ _ hb).trans M5.out; clear ho' hk')
        go_roundw
        case rel => exact ⟨j + 1, by go_num, by omega, by rw [HN.out]; exact OwnL.one HXS.out HO'.out rfl rfl, by rw [HT.out]; try rw [ite_max]⟩
        case measure => simp [Go.RowKit.intOf]; omega
      · have HN := Lib.hid (show someF (l.take (j + 1)) = someF (l.take j) by rw [HFT.out, if_neg hq, List.append_nil])
        have hc : (x.kind != 3) = false ∨ ((x.kind != 3) = true ∧ x.epoch < 1) ∨ ((x.kind != 3) = true ∧ 1 ≤ x.epoch ∧ 16777215 < x.epoch) := by
          unfold someQ at hq
          simp only [Bool.and_eq_true, Bool.not_eq_true', beq_eq_false_iff_ne, decide_eq_true_eq] at hq
          simp only [bne_iff_ne, bne_eq_false_iff_eq, ne_eq]
          omega
        clear hq HFT
        rcases hc with hc1 | ⟨hc1, hc2⟩ | ⟨hc1, hc2, hc3⟩
        all_goals
          go_wp2_with fail
          go_roundw
          case rel => exact ⟨j + 1, by go_num, by omega, by rw [HN.out]; exact HOW.out, by rw [HN.out]⟩
          case measure => simp [Go.RowKit.intOf]; omega
    · have hlt' : ¬ (j : Int) < l.length := by omega
      have HO : Hid (OwnL FoundR 30 6 w u3 (someF l) wr) := by
        have := HOW.out
        rw [List.take_of_length_le (by omega)] at this
        exact Lib.hid this
      rw [show l.take j = l from List.take_of_length_le (by omega)]
      have hle : (someF l).length ≤ 40 := by have := someF_le l l.length; rw [List.take_of_length_le (by omega)] at this; omega
      have HWS := Lib.hid (show ∀ x ∈ someF l, Wf x.pg from fun x hx => (HW.out x (List.mem_filter.1 hx).1).2.2.2.1)
      have HE1 := Lib.hid (last_some l)
      have HE2 := Lib.hid (stale_some l)
      have HE3 := Lib.hid (fun m (h : IsAll (someF l) m) => all_some h)
      have HE4 := Lib.hid (last_commit (fs := l) (c := mkF 3 0 (topE (someF l)) 0) rfl rfl)
      have HE5 := Lib.hid (stale_commit (fs := l) (c := mkF 3 0 (topE (someF l)) 0) rfl rfl)
      generalize topE (someF l) = top at *
      generalize someF l = S at *
      have hrd := HO.out.reads' (fun _ _ _ _ h => h)
      obtain ⟨sa, sc, esv⟩ := hrd.mk
      have HRD := Lib.hid hrd
      clear hrd HOW HO HH HW
      subst esv
      go_wp2_with (at_builtin; refine app_reads (R := FoundR) (k := 6) (l := S) (W0 := wr) rfl _ _ 22 rfl 30 i0 _ 48 Try.underlying22 hi0 hz0 hz1 hz2 rfl (by decide) (.slice none 0 0) (.slice sa S.length sc) 0 [] rfl ?_ rfl ?_ (one_found _) ?_ (by decide) ?_; exact Own.start (Grow.refl _); exact HRD.out; omega; intro v1 w1 hout; have HC := Lib.hid hout.clone; clear hout)
      have g1 := HC.out.2
      refine (found_any 3 0 top 0 w1).mono ?_
      rintro e w2 ⟨rfl, g2⟩
      have g12 := g1.trans g2
      obtain ⟨ys, hys⟩ := HC.out.1.more g2
      have HYS := Lib.hid hys
      generalize hcm : mkF 3 0 top 0 = cm at *
      clear hys HC g1 g2
      have hle2 : S.length + 1 ≤ 1000000000000 := by omega
      go_wp2_with (at_builtin; refine app_one rfl _ _ 22 rfl 30 i0 _ 6 48 Try.underlying22 hi0 hz0 hz1 hz2 rfl (by decide) v1 S.length ys rfl wr w2 ?_ (cellsF cm) rfl ?_ rfl ?_ (by decide) ?_; exact HYS.out.1; (intro u hu; simp at hu; rcases hu with rfl | rfl | rfl | rfl | rfl | rfl <;> rfl); exact hle2; intro v3 w3 ho3 hk3 _; have HO3 := Lib.hid (OwnL.one HYS.out ho3 rfl rfl : OwnL FoundR 30 6 wr v3 (S ++ [cm]) w3); clear ho3 hk3)
      have g3 := HO3.out.grow
      have H3 := Lib.hid (Founds.grow HRD.out g3)
      have H4 := Lib.hid (HO3.out.reads' (fun _ _ _ _ h => h))
      have gw3 := hg.trans g3
      have c1 := last_any _ S w3 H3.out (by omega)
      rw [HE1.out] at c1
      clear g3 g12 HYS HRD HO3
      refine c1.mono ?_
      rintro e w4 ⟨rfl, g4⟩
      clear c1
      go_wp2_with fail
      refine (all_any _ S w4 (Founds.grow H3.out g4) (by omega) HWS.out).mono ?_
      rintro e w5 ⟨v5, m5, rfl, hm5, ho5, -⟩
      obtain rfl := HE3.out m5 hm5
      have g5 := ho5.grow
      obtain ⟨a5, c5, rfl⟩ := (ho5.reads' (fun _ _ _ _ h => h)).mk
      clear hm5 ho5
      rw [List.length_nil]
      go_wp2_with fail
      refine (stale_any _ S w5 (Founds.grow (Founds.grow H3.out g4) g5) (by omega)).mono ?_
      rintro e w6 ⟨v6, rfl, ho6⟩
      rw [HE2.out] at ho6
      have H6 := Lib.hid (ho6.reads' (fun _ _ _ _ h => h))
      have g6 := ho6.grow
      have g36 := (g4.trans g5).trans g6
      have c6 := sameFounds_any v6 _ S S w6 H6.out (Founds.grow H3.out g36) (by omega)
      rw [same_yes rfl] at c6
      clear ho6 g4 g5 g6
      go_wp2_with fail
      refine c6.mono ?_
      rintro e w7 ⟨rfl, g7⟩
      have g37 := g36.trans g7
      have c7 := last_any _ (S ++ [cm]) w7 (Founds.grow H4.out g37) (by rw [List.length_append]; simp; omega)
      rw [HE4.out] at c7
      clear c6 g36 g7
      go_wp2_with fail
      refine c7.mono ?_
      rintro e w8 ⟨rfl, g8⟩
      have g38 := g37.trans g8
      clear c7 g37 g8
      go_wp2_with fail
      refine (stale_any _ (S ++ [cm]) w8 (Founds.grow H4.out g38) (by rw [List.length_append]; simp; omega)).mono ?_
      rintro e w9 ⟨v9, rfl, ho9⟩
      rw [HE5.out] at ho9
      obtain ⟨a9, c9, rfl⟩ := (ho9.reads' (fun _ _ _ _ h => h)).mk
      have g39 := g38.trans ho9.grow
      rw [List.length_nil]
      clear ho9 g38
      go_wp2_with fail
      refine (cA w9).mono ?_
      rintro e w10 ⟨rfl, g10⟩
      go_wp2_with fail
      go_ret
      exact ⟨rfl, (gw3.trans g39).trans g10⟩
end Go.Proofs.Ytcfkpaijlibjaaa
