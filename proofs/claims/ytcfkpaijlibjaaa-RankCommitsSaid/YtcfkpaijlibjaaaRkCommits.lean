/- The walk of the law RankCommits. -/
import Derived.Test.YtcfkpaijlibjaaaRkTop
import Derived.Test.YtcfkpaijlibjaaaRkBits
set_option linter.unusedVariables false
set_option linter.unusedSimpArgs false
namespace Go.Proofs.Ytcfkpaijlibjaaa
open Go.RowKit Go.Lib Go.Maps
theorem keep_row {W0 W1 w w' : World} {v v' : Value} {m : List Found} {n : Nat} {xs : List Value} (h : OwnL FoundR 30 6 W1 v' m w) (hv : Own 30 6 W0 v n xs W1) (hg : w.grownBy w' v.ownBlock) (hw : Grow W0 w') : Founds w' v' m := by
  obtain ⟨ys, h1, h2⟩ := h
  have hk := World.ownsRow.kept h1.row hg (by
    cases e1 : v'.ownBlock with
    | none => exact .inl rfl
    | some b =>
      right
      intro e2
      have h3 := (h1.row.lt b e1).1
      have h4 := (hv.row.lt b e2.symm).2
      omega)
  have hr : w'.ownsRow W0.heap.size 30 6 v' m.length ys := by
    refine ⟨hk.1, ?_⟩
    rcases hk.2 with h | ⟨b, cap, cur, h3, h4, h5⟩
    · exact .inl h
    · exact .inr ⟨b, cap, cur, h3, Nat.le_trans hv.grow.size h4, h5⟩
  exact Own.reads (W0 := W0) ⟨hr, hw⟩ (fun i x hx => h2 i x hx)
set_option maxRecDepth 100000 in
set_option maxHeartbeats 8000000 in
theorem commits_walk (v : Value) (l : List Found) (u : Value) (ps : List Int) (bits : Int) (w : World) (h : Founds w v l) (hw : ∀ x ∈ l, WfF x) (hu : Ints w u ps) (hps : ∀ x ∈ ps, Wf x) (hb : Wf bits) :
    Calls Try.prog 5 #[v, u, .int .i64 bits] w fun e w' => e = .returned (.bool true) ∧ Grow w w' := by
  have cG := greatFounds_any v l 40 w h
  obtain ⟨pa, pc, rfl⟩ := hu.mk
  have HU := Lib.hid hu
  clear hu hps hb
  obtain ⟨a, c, rfl⟩ := h.mk
  have HH := Lib.hid h
  have HW := Lib.hid (show ∀ x ∈ l, Wf x.pg from fun x hx => (hw x hx).2.2.2.1)
  have cA := awake10_any
  clear h hw
  obtain ⟨i0, hi0, hz0, hz1, hz2⟩ := info_parts info_found
  by_cases hlen : (40 : Int) < l.length
  · rw [decide_eq_true hlen] at cG
    go_enter Try.func5, Try.ntmps5
    go_wp2_with fail
    refine cG.mono ?_
    rintro e w1 ⟨rfl, rfl⟩
    go_wp2_with fail
    refine (cA _).mono ?_
    rintro e w2 ⟨rfl, g2⟩
    go_wp2_with fail
    go_ret
    exact ⟨rfl, g2⟩
  rw [decide_eq_false hlen] at cG
  have hl40 : l.length ≤ 40 := by omega
  clear hlen
  go_enter Try.func5, Try.ntmps5
  go_wp2_with fail
  refine cG.mono ?_
  rintro e w1 ⟨rfl, rfl⟩
  clear cG
  by_cases h8 : (8 : Int) < ps.length
  · go_wp2_with fail
    refine (cA _).mono ?_
    rintro e wq ⟨rfl, gq⟩
    go_wp2_with fail
    go_ret
    exact ⟨rfl, gq⟩
  have hp8 : ps.length ≤ 8 := by omega
  go_wp2_with fail
  refine (stale_any _ l w HH.out (by omega)).mono ?_
  rintro e w1 ⟨v1, rfl, ho1⟩
  have g1 := ho1.grow
  obtain ⟨sa, sc, es⟩ := (ho1.reads' (fun _ _ _ _ h => h)).mk
  have H1 := Lib.hid (Founds.grow HH.out g1)
  clear ho1
  obtain ⟨sn, hsn⟩ : ∃ n, (staleF l).length = n := ⟨_, rfl⟩
  rw [hsn] at es
  have HSN := Lib.hid hsn
  clear hsn
  subst es
  by_cases hs : (0 : Int) < sn
  · go_wp2_with fail
    refine (cA _).mono ?_
    rintro e wq ⟨rfl, gq⟩
    go_wp2_with fail
    go_ret
    exact ⟨rfl, g1.trans gq⟩
  have HS := Lib.hid (show staleF l = [] from List.length_eq_zero_iff.1 (by rw [HSN.out]; omega))
  go_wp2_with fail
  have hla := lastF_nonneg l
  have c1 := last_any _ l w1 H1.out (by omega)
  have hlan : ¬ lastF l < 0 := by omega
  obtain ⟨last, hlast⟩ : ∃ n, lastF l = n := ⟨_, rfl⟩
  rw [hlast] at hla hlan c1
  have HLA := Lib.hid hlast
  clear hlast
  refine c1.mono ?_
  rintro e w2 ⟨rfl, g2⟩
  have H2 := Lib.hid (Founds.grow H1.out g2)
  clear c1
  go_wp2_with fail
  have c2 := last_any _ l w2 H2.out (by omega)
  rw [HLA.out] at c2
  refine c2.mono ?_
  rintro e w3 ⟨rfl, g3⟩
  have H3 := Lib.hid (Founds.grow H2.out g3)
  have g13 := (g1.trans g2).trans g3
  clear c2 H2 g2 g3
  by_cases hbig : (16777215 : Int) < last
  · go_wp2_with fail
    refine (cA _).mono ?_
    rintro e wq ⟨rfl, gq⟩
    go_wp2_with fail
    go_ret
    exact ⟨rfl, g13.trans gq⟩
  go_wp2_with fail
  have c3 := last_any _ l w3 H3.out (by omega)
  rw [HLA.out] at c3
  refine c3.mono ?_
  rintro e w4 ⟨rfl, g4⟩
  have H4 := Lib.hid (Founds.grow H3.out g4)
  have g14 := g13.trans g4
  clear c3 H3 g13 g4
  go_wp2_with fail
  refine (all_any _ l w4 H4.out (by omega) HW.out).mono ?_
  rintro e w5 ⟨v5, m, rfl, hm, ho5, hml⟩
  have HM := Lib.hid hm
  have g5 := ho5.grow
  have HR5 := Lib.hid (ho5.reads' (fun _ _ _ _ h => h))
  obtain ⟨ma, mc, em⟩ := HR5.out.mk
  have H5 := Lib.hid (Founds.grow H4.out g5)
  have gw5 := g14.trans g5
  clear hm ho5 H4 g14 g5
  subst em
  have HNA := Lib.hid (fun (k : Nat) (b : List Found) (hb : IsAll (l ++ newsF ps bits (last + 1) k) b) => new_ahead (by rw [HLA.out]; exact newsF_ok _ _ _ _) HM.out hb)
  have HLL := Lib.hid (fun k => (show (l ++ newsF ps bits (last + 1) k).length = l.length + k by rw [List.length_append, newsF_len]))
  have HWN := Lib.hid (show ∀ k, ∀ x ∈ l ++ newsF ps bits (last + 1) k, Wf x.pg from fun k x hx => by
    rcases List.mem_append.1 hx with hx | hx
    · exact HW.out x hx
    · exact newsF_wf _ _ _ _ x hx)
  go_wp2_with (at_builtin; refine app_reads (R := FoundR) (k := 6) (l := l) (W0 := w5) rfl _ _ 22 rfl 30 i0 _ 48 Try.underlying22 hi0 hz0 hz1 hz2 rfl (by decide) (.slice none 0 0) (.slice a l.length c) 0 [] rfl ?_ rfl ?_ (one_found _) ?_ (by decide) ?_; exact Own.start (Grow.refl _); exact H5.out; omega; intro v6 w6 hout; have HC := Lib.hid hout.clone; clear hout)
  have HC1 := Lib.hid HC.out.1
  go_loopw [9, 10, 11] (fun v9 v10 v11 wx => ∃ k : Nat, v10 = .int .i64 k ∧ k ≤ ps.length ∧ OwnL FoundR 30 6 w5 v9 (l ++ newsF ps bits (last + 1) k) wx) (fun _ v10 _ _ => ps.length - (Go.RowKit.intOf v10).toNat)
  case atStart => exact ⟨0, rfl, by omega, by rw [show newsF ps bits (last + 1) 0 = [] from rfl, List.append_nil]; exact HC1.out⟩
  case round =>
    obtain ⟨k, rfl, hk, ho⟩ := hrel
    have HOW := Lib.hid ho
    have hg := ho.grow
    clear ho
    by_cases hlt : k < ps.length
    · have hlt' : (k : Int) < ps.length := by omega
      obtain ⟨x, hx, -⟩ := lt_get hlt
      have HPx := Lib.hid (show ps.getD k 0 = x by rw [List.getD_eq_getElem?_getD, hx]; rfl)
      obtain ⟨b, off, rfl, -, k0⟩ := Ints.at (Ints.grow HU.out (gw5.trans hg)) hx
      have hk2 : Go.bits .and .i64 (bits / 2 ^ k) 1 = bitI bits k := rfl
      have hll := HLL.out k
      have hL48 : (l ++ newsF ps bits (last + 1) k).length ≤ 48 := by omega
      clear hx hll
      obtain ⟨L, hL⟩ : ∃ L, L = l ++ newsF ps bits (last + 1) k := ⟨_, rfl⟩
      rw [← hL] at HOW hL48
      have HL := Lib.hid hL
      clear hL
      rcases bit01 bits k with hb | hb
      · rw [hb] at hk2
        have HNF := Lib.hid (show newF ps bits (last + 1) k = mkF 1 (lowI x 20) (last + 1) k by unfold newF; rw [HPx.out, hb]; rfl)
        clear hb
        go_wp2_with fail
        refine (low_any x 20 wr (by decide) (by decide)).mono ?_
        rintro e wz ⟨rfl, rfl⟩
        go_wp2_with fail
        refine (found_any 1 (lowI x 20) (last + 1) k wr).mono ?_
        rintro e w7 ⟨rfl, g7⟩
        obtain ⟨xs, hxs⟩ := HOW.out.more g7
        have HXS := Lib.hid hxs
        generalize hcm : mkF 1 (lowI x 20) (last + 1) k = cm at *
        clear hxs hcm
        go_wp2_with (at_builtin; refine app_one rfl _ _ 22 rfl 30 i0 _ 6 48 Try.underlying22 hi0 hz0 hz1 hz2 rfl (by decide) u9 L.length xs rfl w5 w7 ?_ (cellsF cm) rfl ?_ rfl ?_ (by decide) ?_; exact HXS.out.1; exact six_one _; omega; intro v' w' ho' hk' _; have HO' := Lib.hid (OwnL.one HXS.out ho' rfl rfl : OwnL FoundR 30 6 w5 v' (L ++ [cm]) w'); clear ho' hk')
        go_roundw
        case rel => exact ⟨k + 1, by go_num, by omega, by rw [newsF_succ, ← List.append_assoc, ← HL.out, HNF.out]; exact HO'.out⟩
        case measure => simp [Go.RowKit.intOf]; omega
      · rw [hb] at hk2
        have HNF := Lib.hid (show newF ps bits (last + 1) k = mkF 2 (lowI x 20) (last + 1) k by unfold newF; rw [HPx.out, hb]; rfl)
        clear hb
        go_wp2_with fail
        refine (low_any x 20 wr (by decide) (by decide)).mono ?_
        rintro e wz ⟨rfl, rfl⟩
        go_wp2_with fail
        refine (found_any 2 (lowI x 20) (last + 1) k wr).mono ?_
        rintro e w7 ⟨rfl, g7⟩
        obtain ⟨xs, hxs⟩ := HOW.out.more g7
        have HXS := Lib.hid hxs
        generalize hcm : mkF 2 (lowI x 20) (last + 1) k = cm at *
        clear hxs hcm
        go_wp2_with (at_builtin; refine app_one rfl _ _ 22 rfl 30 i0 _ 6 48 Try.underlying22 hi0 hz0 hz1 hz2 rfl (by decide) u9 L.length xs rfl w5 w7 ?_ (cellsF cm) rfl ?_ rfl ?_ (by decide) ?_; exact HXS.out.1; exact six_one _; omega; intro v' w' ho' hk' _; have HO' := Lib.hid (OwnL.one HXS.out ho' rfl rfl : OwnL FoundR 30 6 w5 v' (L ++ [cm]) w'); clear ho' hk')
        go_roundw
        case rel => exact ⟨k + 1, by go_num, by omega, by rw [newsF_succ, ← List.append_assoc, ← HL.out, HNF.out]; exact HO'.out⟩
        case measure => simp [Go.RowKit.intOf]; omega
    · have hlt' : ¬ (k : Int) < ps.length := by omega
      obtain rfl : k = ps.length := by omega
      have hL48 : (l ++ newsF ps bits (last + 1) ps.length).length ≤ 48 := by rw [HLL.out]; omega
      have HNL := Lib.hid (HNA.out ps.length)
      have HWL := Lib.hid (HWN.out ps.length)
      have HSL := Lib.hid (show staleF (l ++ newsF ps bits (last + 1) ps.length ++ [mkF 3 0 (last + 1) ps.length]) = [] from by
        rw [← HLA.out]; exact new_stale HS.out (newsF_ok _ _ _ _) rfl rfl)
      have HLV := Lib.hid (fun p : Int => (show liveF (l ++ newsF ps bits (last + 1) ps.length ++ [mkF 3 0 (last + 1) ps.length]) p = liveF (l ++ newsF ps bits (lastF l + 1) ps.length ++ [mkF 3 0 (lastF l + 1) ps.length]) p by rw [HLA.out]))
      generalize l ++ newsF ps bits (last + 1) ps.length = L at HOW hL48 HNL HWL HSL HLV
      go_wp2_with fail
      refine (all_any u9 L wr (HOW.out.reads' (fun _ _ _ _ h => h)) (by omega) HWL.out).mono ?_
      rintro e w6 ⟨v6, m6, rfl, hm6, ho6, -⟩
      obtain rfl := HNL.out m6 hm6
      have HO6 := Lib.hid ho6
      obtain ⟨ys, hys⟩ := HOW.out
      have HYS := Lib.hid hys
      clear hm6 ho6 hys
      go_wp2_with fail
      refine (found_any 3 0 (last + 1) ps.length w6).mono ?_
      rintro e w7 ⟨rfl, g7⟩
      have HXS := Lib.hid (show _ ∧ ∀ (i : Nat) x, L[i]? = some x → FoundR w5 x ((ys.drop (i * 6)).take 6) from ⟨(HYS.out.1.grow' HO6.out.grow).grow' g7, HYS.out.2⟩)
      have HWC := Lib.hid (show ∀ x ∈ L ++ [mkF 3 0 (last + 1) ps.length], Wf x.pg from fun x hx => by
        rcases List.mem_append.1 hx with hx | hx
        · exact HWL.out x hx
        · obtain rfl : x = mkF 3 0 (last + 1) ps.length := by simpa using hx
          show Wf 0
          unfold Wf; omega)
      have hLC : (L ++ [mkF 3 0 (last + 1) ps.length]).length ≤ 49 := by rw [List.length_append]; simp; omega
      generalize mkF 3 0 (last + 1) ps.length = cm at *
      go_wp2_with (at_builtin; refine app_reads (R := FoundR) (k := 6) (l := [cm]) (W0 := w5) rfl _ _ 22 rfl 30 i0 _ 48 Try.underlying22 hi0 hz0 hz1 hz2 rfl (by decide) u9 (.slice (some ⟨w7.heap.size, 0, none⟩) 1 1) L.length ys rfl ((HXS.out.1).alloc _) rfl (lit_reads cellsF (fun _ => rfl) w7 [cm] 30 (fun _ => rfl)) (one_found _) (by simp; omega) (by decide) ?_; intro v8 w8 hout; have HO8 := Lib.hid (OwnL.app ⟨ys, (HXS.out.1).alloc _, HXS.out.2⟩ ⟨(HXS.out.1).alloc _, HXS.out.2⟩ hout (fun _ _ _ h => h) : OwnL FoundR 30 6 w5 v8 (L ++ [cm]) w8); have HV6 := Lib.hid (keep_row (HO6.out.more (g7.alloc _)) HYS.out.1 (by obtain ⟨news, -, h2, -⟩ := hout; exact h2) HO8.out.grow); clear hout)
      refine (all_any v8 (L ++ [cm]) w8 (HO8.out.reads' (fun _ _ _ _ h => h)) (by omega) HWC.out).mono ?_
      rintro e w9 ⟨v9, m9, rfl, hm9, ho9, hml9⟩
      have HM9 := Lib.hid hm9
      have HB9 := Lib.hid (ho9.reads' (fun _ _ _ _ h => h))
      have g9 := ho9.grow
      have g59 := HO8.out.grow.trans g9
      clear hm9 ho9
      go_wp2_with fail
      have c10 := sameFounds_any v6 _ m6 m6 w9 (Founds.grow HV6.out g9) (Founds.grow HR5.out g59) (by omega)
      rw [same_yes rfl] at c10
      refine c10.mono ?_
      rintro e w10 ⟨rfl, g10⟩
      clear c10
      go_wp2_with fail
      refine (stale_any v8 (L ++ [cm]) w10 (Founds.grow (HO8.out.reads' (fun _ _ _ _ h => h)) (g9.trans g10)) (by omega)).mono ?_
      rintro e w11 ⟨v11, rfl, ho11⟩
      have g11 := ho11.grow
      rw [HSL.out] at ho11
      obtain ⟨sa', sc', es⟩ := (ho11.reads' (fun _ _ _ _ h => h)).mk
      subst es
      have HBH := Lib.hid (Founds.grow HB9.out (g10.trans g11))
      have g511 := g59.trans (g10.trans g11)
      have HOLD := Lib.hid (Founds.grow HR5.out g511)
      have HPS := Lib.hid (Ints.grow HU.out (gw5.trans g511))
      have GW := Lib.hid (gw5.trans g511)
      have hm6l : m6.length ≤ 40 := by omega
      have HLC := Lib.hid (HLV.out)
      clear ho11 g11 g10 g9 g59 g511 HOW HXS HYS HV6 HO8 HO6 HB9 g7 HLV
      go_wp2_with fail
      go_loopw [14, 15, 16, 17, 18, 19, 20] (fun v14 v15 v16 v17 v18 v19 v20 wx => Grow w11 wx ∧ ∃ p : Nat, v14 = .int .i64 p ∧ p ≤ 20) (fun v14 _ _ _ _ _ _ _ => 20 - (Go.RowKit.intOf v14).toNat)
      case atStart => exact ⟨Grow.refl _, 0, rfl, by omega⟩
      case round =>
        obtain ⟨hg2, p, rfl, hp⟩ := hrel
        by_cases hlt2 : p < 20
        · have hlt2' : (p : Int) < 20 := by omega
          have HPS2 := Lib.hid (Ints.grow HPS.out hg2)
          go_wp2_with fail
          go_loop [15, 16] (fun v15 v16 => ∃ i : Nat, ∃ k : Int, v16 = .int .i64 i ∧ v15 = .int .i64 k ∧ i ≤ ps.length ∧ LastAt ps p i k) (fun _ v16 => ps.length - (Go.RowKit.intOf v16).toNat)
          case atStart => exact ⟨0, -1, rfl, rfl, by omega, .inl ⟨rfl, fun j hj => by omega⟩⟩
          case round =>
            obtain ⟨i, k, rfl, rfl, hi, hla2⟩ := hrel
            have HLA2 := Lib.hid hla2
            clear hla2
            by_cases hlt3 : i < ps.length
            · have hlt3' : (i : Int) < ps.length := by omega
              obtain ⟨x, hx, -⟩ := lt_get hlt3
              have HPx := Lib.hid (show ps.getD i 0 = x by rw [List.getD_eq_getElem?_getD, hx]; rfl)
              obtain ⟨b, off, rfl, -, k0⟩ := Ints.at HPS2.out hx
              clear hx
              by_cases q : lowI x 20 = p
              · have q1 : (lowI x 20 == (p : Int)) = true := by rw [q]; simp
                have HN := Lib.hid (HLA2.out.yes (by rw [HPx.out]; exact q))
                clear q
                go_wp2_with fail
                refine (low_any x 20 _ (by decide) (by decide)).mono ?_
                rintro e wz ⟨rfl, rfl⟩
                go_wp2_with fail
                go_round
                case rel => exact ⟨i + 1, i, by go_num, rfl, by omega, HN.out⟩
                case measure => simp [Go.RowKit.intOf]; omega
              · have q1 : (lowI x 20 == (p : Int)) = false := by rw [beq_eq_false_iff_ne]; exact q
                have HN := Lib.hid (HLA2.out.no (by rw [HPx.out]; exact q))
                clear q
                go_wp2_with fail
                refine (low_any x 20 _ (by decide) (by decide)).mono ?_
                rintro e wz ⟨rfl, rfl⟩
                go_wp2_with fail
                go_round
                case rel => exact ⟨i + 1, k, by go_num, rfl, by omega, HN.out⟩
                case measure => simp [Go.RowKit.intOf]; omega
            · have hlt3' : ¬ (i : Int) < ps.length := by omega
              obtain rfl : i = ps.length := by omega
              rcases HLA2.out with ⟨rfl, hno⟩ | ⟨n, rfl, hn1, hn2, hn3⟩
              · skip
                have hlv := commit_old (bits := bits) HS.out hno
                have c1 := at_any v9 m9 p wr (Founds.grow HBH.out hg2) (by omega)
                rw [find_live HM9.out, HLC.out, hlv] at c1
                have c2 := fun W (g : Grow w11 W) => at_any (.slice ma m6.length mc) m6 p W (Founds.grow HOLD.out g) (by omega)
                simp only [find_live HM.out] at c2
                generalize liveF l p = o at *
                unfold RetLive at c1 c2
                generalize o.getD default = y1 at *
                generalize o.isSome = s1 at *
                have hq := neqFound y1 y1 true (by simp)
                have hs1 : (s1 != s1) = false := by cases s1 <;> rfl
                clear hno hlv HLA2
                go_upto_region 28 with (go_at_call 19; refine c1.mono ?_; rintro e wa ⟨rfl, ga⟩)
                generalize hX : wa.alloc (.cells #[.int .i64 y1.block, .int .i64 y1.page, .int .i64 y1.kind, .int .i64 y1.pg, .int .i64 y1.seq, .int .i64 y1.epoch] 30) = X
                have gX : Grow wr X := by rw [← hX]; exact ga.alloc _
                have hbx : X.heap[wa.heap.size]? = some (.cells #[.int .i64 y1.block, .int .i64 y1.page, .int .i64 y1.kind, .int .i64 y1.pg, .int .i64 y1.seq, .int .i64 y1.epoch] 30 (0, 0)) := by rw [← hX]; exact heap_alloc_new wa _
                have HBX := Lib.hid hbx
                clear hX hbx c1
                have c2' := c2 X (hg2.trans gX)
                go_upto_region 29 with (go_at_call 19; refine c2'.mono ?_; rintro e wb ⟨rfl, gb⟩)
                generalize hY : wb.alloc (.cells #[.int .i64 y1.block, .int .i64 y1.page, .int .i64 y1.kind, .int .i64 y1.pg, .int .i64 y1.seq, .int .i64 y1.epoch] 30) = Y
                have gY : Grow X Y := by rw [← hY]; exact gb.alloc _
                have hby : Y.heap[wb.heap.size]? = some (.cells #[.int .i64 y1.block, .int .i64 y1.page, .int .i64 y1.kind, .int .i64 y1.pg, .int .i64 y1.seq, .int .i64 y1.epoch] 30 (0, 0)) := by rw [← hY]; exact heap_alloc_new wb _
                obtain ⟨p0, p1, p2, p3, p4, p5⟩ := box6 (gY.blk HBX.out)
                obtain ⟨q0, q1, q2, q3, q4, q5⟩ := box6 hby
                clear hY hby c2'
                go_wp2_with fail
                go_roundw
                case rel => exact ⟨hg2.trans (gX.trans gY), p + 1, by go_num, by omega⟩
                case measure => simp [Go.RowKit.intOf]; omega
              · rcases bit01 bits n with hb | hb
                · skip
                  have hlv := commit_top (bits := bits) HS.out hn1 hn2 hn3
                  have c1 := at_any v9 m9 p wr (Founds.grow HBH.out hg2) (by omega)
                  rw [find_live HM9.out, HLC.out, hlv, commit_data0 (by rw [hb]; decide)] at c1
                  have c2 := fun W (g : Grow w11 W) => at_any (.slice ma m6.length mc) m6 p W (Founds.grow HOLD.out g) (by omega)
                  simp only [find_live HM.out] at c2
                  unfold RetLive at c1 c2
                  generalize (liveF l p).getD default = y2 at *
                  generalize (liveF l p).isSome = s2 at *
                  have hk2 : Go.bits .and .i64 (bits / 2 ^ n) 1 = bitI bits n := rfl
                  rw [hb] at hk2
                  have hnn : ¬ (n : Int) < 0 := by omega
                  have hn8 : n ≤ 8 := by omega
                  simp only [Option.isSome_none, Option.isSome_some] at c1
                  generalize hy1 : (some (newF ps bits (lastF l + 1) n)).getD default = y1 at *
                  have hep : (y1.epoch != last + 1) = false := by rw [← hy1, ← HLA.out]; show (lastF l + 1 != lastF l + 1) = false; simp
                  clear hlv HLA2 hy1 hb hn2 hn3
                  go_upto_region 28 with (go_at_call 19; refine c1.mono ?_; rintro e wa ⟨rfl, ga⟩)
                  generalize hX : wa.alloc (.cells #[.int .i64 y1.block, .int .i64 y1.page, .int .i64 y1.kind, .int .i64 y1.pg, .int .i64 y1.seq, .int .i64 y1.epoch] 30) = X
                  have gX : Grow wr X := by rw [← hX]; exact ga.alloc _
                  have hbx : X.heap[wa.heap.size]? = some (.cells #[.int .i64 y1.block, .int .i64 y1.page, .int .i64 y1.kind, .int .i64 y1.pg, .int .i64 y1.seq, .int .i64 y1.epoch] 30 (0, 0)) := by rw [← hX]; exact heap_alloc_new wa _
                  have HBX := Lib.hid hbx
                  clear hX hbx c1
                  have c2' := c2 X (hg2.trans gX)
                  go_upto_region 29 with (go_at_call 19; refine c2'.mono ?_; rintro e wb ⟨rfl, gb⟩)
                  generalize hY : wb.alloc (.cells #[.int .i64 y2.block, .int .i64 y2.page, .int .i64 y2.kind, .int .i64 y2.pg, .int .i64 y2.seq, .int .i64 y2.epoch] 30) = Y
                  have gY : Grow X Y := by rw [← hY]; exact gb.alloc _
                  have hby : Y.heap[wb.heap.size]? = some (.cells #[.int .i64 y2.block, .int .i64 y2.page, .int .i64 y2.kind, .int .i64 y2.pg, .int .i64 y2.seq, .int .i64 y2.epoch] 30 (0, 0)) := by rw [← hY]; exact heap_alloc_new wb _
                  obtain ⟨p0, p1, p2, p3, p4, p5⟩ := box6 (gY.blk HBX.out)
                  obtain ⟨q0, q1, q2, q3, q4, q5⟩ := box6 hby
                  clear hY hby c2'
                  go_wp2_with fail
                  go_roundw
                  case rel => exact ⟨hg2.trans (gX.trans gY), p + 1, by go_num, by omega⟩
                  case measure => simp [Go.RowKit.intOf]; omega
                · skip
                  have hlv := commit_top (bits := bits) HS.out hn1 hn2 hn3
                  have c1 := at_any v9 m9 p wr (Founds.grow HBH.out hg2) (by omega)
                  rw [find_live HM9.out, HLC.out, hlv, commit_data1 hb] at c1
                  have c2 := fun W (g : Grow w11 W) => at_any (.slice ma m6.length mc) m6 p W (Founds.grow HOLD.out g) (by omega)
                  simp only [find_live HM.out] at c2
                  unfold RetLive at c1 c2
                  generalize (liveF l p).getD default = y2 at *
                  generalize (liveF l p).isSome = s2 at *
                  have hk2 : Go.bits .and .i64 (bits / 2 ^ n) 1 = bitI bits n := rfl
                  rw [hb] at hk2
                  have hnn : ¬ (n : Int) < 0 := by omega
                  have hn8 : n ≤ 8 := by omega
                  simp only [Option.isSome_none, Option.isSome_some] at c1
                  generalize hy1 : (none : Option Found).getD default = y1 at *
                  
                  clear hlv HLA2 hy1 hb hn2 hn3
                  go_upto_region 28 with (go_at_call 19; refine c1.mono ?_; rintro e wa ⟨rfl, ga⟩)
                  generalize hX : wa.alloc (.cells #[.int .i64 y1.block, .int .i64 y1.page, .int .i64 y1.kind, .int .i64 y1.pg, .int .i64 y1.seq, .int .i64 y1.epoch] 30) = X
                  have gX : Grow wr X := by rw [← hX]; exact ga.alloc _
                  have hbx : X.heap[wa.heap.size]? = some (.cells #[.int .i64 y1.block, .int .i64 y1.page, .int .i64 y1.kind, .int .i64 y1.pg, .int .i64 y1.seq, .int .i64 y1.epoch] 30 (0, 0)) := by rw [← hX]; exact heap_alloc_new wa _
                  have HBX := Lib.hid hbx
                  clear hX hbx c1
                  have c2' := c2 X (hg2.trans gX)
                  go_upto_region 29 with (go_at_call 19; refine c2'.mono ?_; rintro e wb ⟨rfl, gb⟩)
                  generalize hY : wb.alloc (.cells #[.int .i64 y2.block, .int .i64 y2.page, .int .i64 y2.kind, .int .i64 y2.pg, .int .i64 y2.seq, .int .i64 y2.epoch] 30) = Y
                  have gY : Grow X Y := by rw [← hY]; exact gb.alloc _
                  have hby : Y.heap[wb.heap.size]? = some (.cells #[.int .i64 y2.block, .int .i64 y2.page, .int .i64 y2.kind, .int .i64 y2.pg, .int .i64 y2.seq, .int .i64 y2.epoch] 30 (0, 0)) := by rw [← hY]; exact heap_alloc_new wb _
                  obtain ⟨p0, p1, p2, p3, p4, p5⟩ := box6 (gY.blk HBX.out)
                  obtain ⟨q0, q1, q2, q3, q4, q5⟩ := box6 hby
                  clear hY hby c2'
                  go_wp2_with fail
                  go_roundw
                  case rel => exact ⟨hg2.trans (gX.trans gY), p + 1, by go_num, by omega⟩
                  case measure => simp [Go.RowKit.intOf]; omega
        · have hlt2' : ¬ (p : Int) < 20 := by omega
          go_wp2_with fail
          refine (cA _).mono ?_
          rintro e wq ⟨rfl, gq⟩
          go_wp2_with fail
          go_ret
          exact ⟨rfl, GW.out.trans (hg2.trans gq)⟩
end Go.Proofs.Ytcfkpaijlibjaaa
