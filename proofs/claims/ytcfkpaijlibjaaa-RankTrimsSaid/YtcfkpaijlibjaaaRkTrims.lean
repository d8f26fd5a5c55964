/- The walk of the law RankTrims. -/
import Derived.Test.YtcfkpaijlibjaaaRkTop
set_option linter.unusedVariables false
set_option linter.unusedSimpArgs false
namespace Go.Proofs.Ytcfkpaijlibjaaa
open Go.RowKit Go.Lib Go.Maps
theorem filter_ne (p : Int) (f : Found) : (!(f.pg == p)) = (f.pg != p) := rfl
set_option maxRecDepth 100000 in
set_option maxHeartbeats 4000000 in
theorem trims_walk (v : Value) (l : List Found) (p : Int) (w : World) (h : Founds w v l) (hw : ∀ x ∈ l, WfF x) (hp : Wf p) :
    Calls Try.prog 7 #[v, .int .i64 p] w fun e w' => e = .returned (.bool true) ∧ Grow w w' := by
  have cG := greatFounds_any v l 40 w h
  obtain ⟨a, c, rfl⟩ := h.mk
  have HH := Lib.hid h
  have HW := Lib.hid (show ∀ x ∈ l, Wf x.pg from fun x hx => (hw x hx).2.2.2.1)
  have cA := awake10_any
  clear h hw
  obtain ⟨i0, hi0, hz0, hz1, hz2⟩ := info_parts info_found
  by_cases hlen : (40 : Int) < l.length
  · rw [decide_eq_true hlen] at cG
    go_enter Try.func7, Try.ntmps7
    go_wp2_with fail
    refine cG.mono ?_
    rintro e w1 ⟨rfl, rfl⟩
    go_wp2_with fail
    refine (cA _).mono ?_
    rintro e w2 ⟨rfl, g2⟩
    go_wp2_with fail
    go_ret
    exact ⟨rfl, g2⟩
  rw [decide_eq_false hlen] at cG
  have hl40 : l.length ≤ 40 := by omega
  clear hlen
  go_enter Try.func7, Try.ntmps7
  go_wp2_with fail
  refine cG.mono ?_
  rintro e w1 ⟨rfl, rfl⟩
  clear cG
  go_wp2_with fail
  have hla := lastF_nonneg l
  refine (last_any _ l w HH.out (by omega)).mono ?_
  rintro e w1 ⟨rfl, g1⟩
  replace HH := Lib.hid (Founds.grow HH.out g1)
  have hlan : ¬ lastF l < 0 := by omega
  obtain ⟨last, hlast⟩ : ∃ n, lastF l = n := ⟨_, rfl⟩
  rw [hlast] at hla hlan ⊢
  have HLA := Lib.hid hlast
  have HG1 := Lib.hid g1
  clear hlast g1
  go_wp2_with fail
  go_loop [5, 6] (fun vT vI => ∃ j : Nat, vI = .int .i64 j ∧ j ≤ l.length ∧ vT = .int .i64 (topQ (l.take j)) ∧ SeqOk (l.take j)) (fun _ vI => l.length - (Go.RowKit.intOf vI).toNat)
  case atStart => exact ⟨0, rfl, by omega, rfl, fun f hf => (by cases hf)⟩
  case round =>
    obtain ⟨j, rfl, hj, rfl, hsq⟩ := hrel
    have HSQ := Lib.hid hsq
    clear hsq
    by_cases hlt : j < l.length
    · have hlt' : (j : Int) < l.length := by omega
      obtain ⟨x, hx, -⟩ := lt_get hlt
      obtain ⟨b, off, rfl, hb, k0, k1, k2, k3, k4, k5⟩ := HH.out.at hx
      have HX := Lib.hid hx
      clear hx
      by_cases q1 : x.seq < 0
      · go_wp2_with fail
        refine (cA _).mono ?_
        rintro e w2 ⟨rfl, g2⟩
        go_wp2_with fail
        go_ret
        exact ⟨rfl, HG1.out.trans g2⟩
      by_cases q2 : 4294967295 < x.seq
      · go_wp2_with fail
        refine (cA _).mono ?_
        rintro e w2 ⟨rfl, g2⟩
        go_wp2_with fail
        go_ret
        exact ⟨rfl, HG1.out.trans g2⟩
      have HT := Lib.hid (topQ_take HX.out)
      have HS := Lib.hid (seqOk_take HX.out HSQ.out (by omega) (by omega))
      go_wp2_with fail
      go_round
      case rel => exact ⟨j + 1, by go_num, by omega, by rw [HT.out]; try rw [ite_max], HS.out⟩
      case measure => simp [Go.RowKit.intOf]; omega
    have hlt' : ¬ (j : Int) < l.length := by omega
    rw [show l.take j = l from List.take_of_length_le (by omega)]
    have hsq : SeqOk l := by have := HSQ.out; rw [List.take_of_length_le (by omega)] at this; exact this
    have htop := topQ_bd hsq
    have HQL := Lib.hid htop.2
    have ht1 : 0 ≤ topQ l := htop.1.1
    have ht2 : topQ l ≤ 4294967295 := htop.1.2
    generalize topQ l = top at *
    clear hsq htop HSQ
    go_wp2_with fail
    refine (all_any _ l w1 HH.out (by omega) HW.out).mono ?_
    rintro e w2 ⟨v2, m, rfl, hm, ho2, hml⟩
    have HM := Lib.hid hm
    have HO2 := Lib.hid ho2
    have g2 := ho2.grow
    have HR2 := Lib.hid (ho2.reads' (fun _ _ _ _ h => h))
    obtain ⟨ma, mc, em⟩ := HR2.out.mk
    have H2 := Lib.hid (Founds.grow HH.out g2)
    clear hm ho2
    subst em
    go_wp2_with (at_builtin; refine app_reads (R := FoundR) (k := 6) (l := l) (W0 := w2) rfl _ _ 22 rfl 30 i0 _ 48 Try.underlying22 hi0 hz0 hz1 hz2 rfl (by decide) (.slice none 0 0) (.slice a l.length c) 0 [] rfl ?_ rfl ?_ (one_found _) ?_ (by decide) ?_; exact Own.start (Grow.refl _); exact H2.out; omega; intro v3 w3 hout; have HC := Lib.hid hout.clone; clear hout)
    have g3 := HC.out.2
    have H3 := Lib.hid (Founds.grow H2.out g3)
    have g13 := g2.trans g3
    have c3 := last_any _ l w3 H3.out (by omega)
    rw [HLA.out] at c3
    refine c3.mono ?_
    rintro e w4 ⟨rfl, g4⟩
    go_wp2_with fail
    refine (found_any 2 p last (top + 1) w4).mono ?_
    rintro e w5 ⟨rfl, g5⟩
    have g35 := g4.trans g5
    have g15 := g13.trans g35
    have H5 := Lib.hid (Founds.grow H3.out g35)
    have HR5 := Lib.hid (Founds.grow HR2.out (g3.trans g35))
    obtain ⟨ys, hys⟩ := HC.out.1.more g35
    have HYS := Lib.hid hys
    have HTR := Lib.hid (fun b (hb : IsAll (l ++ [mkF 2 p last (top + 1)]) b) => all_trim HM.out (x := mkF 2 p last (top + 1)) rfl HLA.out.symm HQL.out hb)
    have HWX := Lib.hid (show ∀ x ∈ l ++ [mkF 2 p last (top + 1)], Wf x.pg from fun x hx => by
      rcases List.mem_append.1 hx with hx | hx
      · exact HW.out x hx
      · obtain rfl : x = mkF 2 p last (top + 1) := by simpa using hx
        exact hp)
    have HPG := Lib.hid (show (mkF 2 p last (top + 1)).pg = p from rfl)
    generalize hcm : mkF 2 p last (top + 1) = cm at *
    have HG2 := Lib.hid g2
    clear hys HC g4 g5 c3 g13 g15 g2 g3 H3 H5 HR5 g35 hcm
    go_wp2_with (at_builtin; refine app_one rfl _ _ 22 rfl 30 i0 _ 6 48 Try.underlying22 hi0 hz0 hz1 hz2 rfl (by decide) v3 l.length ys rfl w2 w5 ?_ (cellsF cm) rfl ?_ rfl ?_ (by decide) ?_; exact HYS.out.1; exact six_one _; omega; intro v6 w6 ho6 hk6 _; have HO6 := Lib.hid (OwnL.one HYS.out ho6 rfl rfl : OwnL FoundR 30 6 w2 v6 (l ++ [cm]) w6); clear ho6 hk6)
    have g6 := HO6.out.grow
    have H6 := Lib.hid (Founds.grow H2.out g6)
    have HR6 := Lib.hid (Founds.grow HR2.out g6)
    have g16 := HG2.out.trans g6
    have H6a := Lib.hid (HO6.out.reads' (fun _ _ _ _ h => h))
    refine (all_any _ (l ++ [cm]) w6 H6a.out (by rw [List.length_append]; simp; omega) HWX.out).mono ?_
    rintro e w7 ⟨v7, m7, rfl, hm7, ho7, -⟩
    obtain rfl := HTR.out m7 hm7
    have H7 := Lib.hid (Founds.grow H6.out ho7.grow)
    have HR7 := Lib.hid (Founds.grow HR6.out ho7.grow)
    have H7b := Lib.hid (ho7.reads' (fun _ _ _ _ h => h))
    have g17 := g16.trans ho7.grow
    clear g6 g16 HO6 HG2 H6 HR6 H6a hm7 ho7 HYS HTR HWX HO2
    go_wp2_with fail
    go_loopw [9, 10] (fun v9 v10 wx => ∃ k : Nat, v10 = .int .i64 k ∧ k ≤ m.length ∧ OwnL FoundR 30 6 w7 v9 ((m.take k).filter fun f => !(f.pg == cm.pg)) wx) (fun _ v10 _ => m.length - (Go.RowKit.intOf v10).toNat)
    case atStart => exact ⟨0, rfl, by omega, OwnL.start (Grow.refl _)⟩
    case round =>
      obtain ⟨k, rfl, hk, ho⟩ := hrel
      have hg := ho.grow
      have HOW := Lib.hid ho
      clear ho
      by_cases hlt : k < m.length
      · have hlt' : (k : Int) < m.length := by omega
        obtain ⟨x, hx, -⟩ := lt_get hlt
        obtain ⟨b, off, rfl, hb, k0, k1, k2, k3, k4, k5⟩ := (Founds.grow HR7.out hg).at hx
        have HFT := Lib.hid (filter_take (fun f : Found => !(f.pg == cm.pg)) hx)
        have hfl := filter_le (fun f : Found => !(f.pg == cm.pg)) m k
        clear hx
        by_cases hq : x.pg = p
        · have hqq : (x.pg != p) = false := by rw [bne_eq_false_iff_eq]; exact hq
          have HN := Lib.hid (show (m.take (k + 1)).filter (fun f => !(f.pg == cm.pg)) = (m.take k).filter (fun f => !(f.pg == cm.pg)) by rw [HFT.out, if_neg (by rw [HPG.out, hq]; simp), List.append_nil])
          clear HFT hq
          go_wp2_with fail
          go_roundw
          case rel => exact ⟨k + 1, by go_num, by omega, by rw [HN.out]; exact HOW.out⟩
          case measure => simp [Go.RowKit.intOf]; omega
        · have hqq : (x.pg != p) = true := by rw [bne_iff_ne]; exact hq
          have HN := Lib.hid (show (m.take (k + 1)).filter (fun f => !(f.pg == cm.pg)) = (m.take k).filter (fun f => !(f.pg == cm.pg)) ++ [x] by rw [HFT.out, if_pos (by rw [HPG.out]; simp [hq])])
          obtain ⟨xs, hxs⟩ := HOW.out
          have HXS := Lib.hid hxs
          generalize hFL : (m.take k).filter (fun f => !(f.pg == cm.pg)) = L at *
          clear hxs HFT hq hFL
          go_wp2_with (at_builtin; refine app_one rfl _ _ 22 rfl 30 i0 _ 6 48 Try.underlying22 hi0 hz0 hz1 hz2 rfl (by decide) u9 L.length xs rfl w7 wr ?_ (cellsF x) rfl ?_ rfl ?_ (by decide) ?_; exact HXS.out.1; exact six_one _; omega; intro v' w' ho' hk' _; have HO' := Lib.hid ho'; clear ho' hk')
          go_roundw
          case rel => exact ⟨k + 1, by go_num, by omega, by rw [HN.out]; exact OwnL.one HXS.out HO'.out rfl rfl⟩
          case measure => simp [Go.RowKit.intOf]; omega
      · have hlt' : ¬ (k : Int) < m.length := by omega
        have HO9 : Hid (OwnL FoundR 30 6 w7 u9 (m.filter fun f => !(f.pg == cm.pg)) wr) := by
          have := HOW.out
          rw [List.take_of_length_le (by omega)] at this
          exact Lib.hid this
        have hfl := filter_le (fun f : Found => !(f.pg == cm.pg)) m m.length
        rw [List.take_of_length_le (by omega)] at hfl
        have H8 := Lib.hid (Founds.grow HH.out (g17.trans hg))
        have HR8 := Lib.hid (Founds.grow HR7.out hg)
        have c8 := sameFounds_any v7 u9 _ _ wr (Founds.grow H7b.out hg) (HO9.out.reads' (fun _ _ _ _ h => h)) (by omega)
        rw [same_yes rfl] at c8
        clear HOW
        go_wp2_with fail
        refine c8.mono ?_
        rintro e w8 ⟨rfl, g8⟩
        clear c8
        go_wp2_with fail
        refine (all_any _ l w8 (Founds.grow H8.out g8) (by omega) HW.out).mono ?_
        rintro e w9 ⟨v9, m9, rfl, hm9, ho9, -⟩
        obtain rfl : m = m9 := HM.out.unique hm9 (fun _ => rfl)
        have c9 := sameFounds_any v9 _ m m w9 (ho9.reads' (fun _ _ _ _ h => h)) (Founds.grow HR8.out (g8.trans ho9.grow)) (by omega)
        rw [same_yes rfl] at c9
        have g89 := g8.trans ho9.grow
        clear hm9 ho9 g8
        go_wp2_with fail
        refine c9.mono ?_
        rintro e w10 ⟨rfl, g10⟩
        go_wp2_with fail
        refine (cA w10).mono ?_
        rintro e w11 ⟨rfl, g11⟩
        go_wp2_with fail
        go_ret
        exact ⟨rfl, ((((HG1.out.trans g17).trans hg).trans g89).trans g10).trans g11⟩
end Go.Proofs.Ytcfkpaijlibjaaa
