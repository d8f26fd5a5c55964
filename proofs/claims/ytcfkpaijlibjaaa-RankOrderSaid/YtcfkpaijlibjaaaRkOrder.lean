/- The walk of the law RankOrder. -/
import Derived.Test.YtcfkpaijlibjaaaRkTop
import Derived.Test.YtcfkpaijlibjaaaLow
import Derived.Deep.DrawnRows
import Derived.Deep.RegionLaw
set_option linter.unusedVariables false
set_option linter.unusedSimpArgs false
namespace Go.Proofs.Ytcfkpaijlibjaaa
open Go.RowKit Go.Lib Go.Maps
theorem unlike_take {l : List Found} {j : Nat} {x : Found} (hx : l[j]? = some x) (h : Unlike (l.take j)) (hn : ∀ m z, m < j → l[m]? = some z → ¬ (x.epoch = z.epoch ∧ x.seq = z.seq)) : Unlike (l.take (j + 1)) := by
  obtain ⟨hi, e⟩ := List.getElem?_eq_some_iff.1 hx
  rw [List.take_succ_eq_append_getElem hi, e]
  have hd : ∀ f ∈ l.take j, ¬ (x.epoch = f.epoch ∧ x.seq = f.seq) := by
    intro f hf
    obtain ⟨m, hm, rfl⟩ := List.getElem_of_mem hf
    rw [List.length_take] at hm
    rw [List.getElem_take]
    exact hn m _ (by omega) (List.getElem?_eq_getElem _)
  intro a ha b hb h1 h2
  rcases List.mem_append.1 ha with ha1 | ha1
  · rcases List.mem_append.1 hb with hb1 | hb1
    · exact h a ha1 b hb1 h1 h2
    · have e : b = x := by simpa using hb1
      rw [e] at h1 h2
      exact absurd ⟨h1.symm, h2.symm⟩ (hd a ha1)
  · have e : a = x := by simpa using ha1
    rcases List.mem_append.1 hb with hb1 | hb1
    · rw [e] at h1 h2
      exact absurd ⟨h1, h2⟩ (hd b hb1)
    · have e2 : b = x := by simpa using hb1
      rw [e, e2]
set_option maxRecDepth 100000 in
set_option maxHeartbeats 4000000 in
theorem order_walk (v : Value) (l : List Found) (p : Int) (w : World) (h : Founds w v l) (hw : ∀ x ∈ l, WfF x) (hp : Wf p) :
    Calls Try.prog 3 #[v, .int .i64 p] w fun e w' => e = .returned (.bool true) ∧ Grow w w' := by
  have cG := greatFounds_any v l 40 w h
  have cA := awake10_any
  obtain ⟨a, c, rfl⟩ := h.mk
  have hlc := h.len.2
  have HH := Lib.hid h
  have HW := Lib.hid (show ∀ x ∈ l, Wf x.pg from fun x hx => (hw x hx).2.2.2.1)
  clear h hw
  obtain ⟨i0, hi0, hz0, hz1, hz2⟩ := info_parts info_found
  by_cases hlen : (40 : Int) < l.length
  · rw [decide_eq_true hlen] at cG
    go_enter Try.func3, Try.ntmps3
    go_wp2_with fail
    refine cG.mono ?_
    rintro e w1 ⟨rfl, rfl⟩
    go_wp2_with fail
    refine (cA _).mono ?_
    rintro e w2 ⟨rfl, g2⟩
    go_wp2_with fail
    go_ret
    exact ⟨rfl, g2⟩
  rw [decide_eq_false hlen] at cG
  have hl40 : l.length ≤ 40 := by omega
  clear hlen
  by_cases hl0 : l.length = 0
  · have hl0' : ((l.length : Int) == 0) = true := by rw [beq_iff_eq]; omega
    have HL0 := Lib.hid hl0
    clear hl0
    go_enter Try.func3, Try.ntmps3
    go_wp2_with fail
    refine cG.mono ?_
    rintro e w1 ⟨rfl, rfl⟩
    go_wp2_with fail
    refine (cA _).mono ?_
    rintro e w2 ⟨rfl, g2⟩
    go_wp2_with fail
    go_ret
    exact ⟨rfl, g2⟩
  have hl0' : ((l.length : Int) == 0) = false := by rw [beq_eq_false_iff_ne]; omega
  have hpos : 0 < l.length := by omega
  go_enter Try.func3, Try.ntmps3
  go_wp2_with fail
  refine cG.mono ?_
  rintro e w1 ⟨rfl, rfl⟩
  clear cG hl0'
  go_wp2_with fail
  go_loopw [5] (fun v5 wx => Grow w wx ∧ ∃ j : Nat, v5 = .int .i64 j ∧ j ≤ l.length ∧ Unlike (l.take j)) (fun v5 _ => l.length - (Go.RowKit.intOf v5).toNat)
  case atStart => exact ⟨Grow.refl _, 0, rfl, by omega, fun a ha => (by cases ha)⟩
  case round =>
    obtain ⟨hg, j, rfl, hj, hu⟩ := hrel
    have HU := Lib.hid hu
    clear hu
    by_cases hlt : j < l.length
    · have hlt' : (j : Int) < l.length := by omega
      obtain ⟨x, hx, -⟩ := lt_get hlt
      have HX := Lib.hid hx
      clear hx
      go_wp2_with fail
      go_loopw [6] (fun v6 wx => Grow w wx ∧ ∃ k : Nat, v6 = .int .i64 k ∧ k ≤ j ∧ ∀ m z, m < k → l[m]? = some z → ¬ (x.epoch = z.epoch ∧ x.seq = z.seq)) (fun v6 _ => j - (Go.RowKit.intOf v6).toNat)
      case atStart => exact ⟨hg, 0, rfl, by omega, fun m z h => absurd h (by omega)⟩
      case round =>
        obtain ⟨hg2, k, rfl, hk, hall⟩ := hrel
        have HA := Lib.hid hall
        clear hall
        by_cases hkj : k < j
        · have hkj' : (k : Int) < j := by omega
          have hkl' : (k : Int) < l.length := by omega
          obtain ⟨z, hz, -⟩ := lt_get (l := l) (i := k) (by omega)
          obtain ⟨b, off, rfl, hb, k0, k1, k2, k3, k4, k5⟩ := (Founds.grow HH.out hg2).at HX.out
          obtain ⟨b', off', e', hb', n0, n1, n2, n3, n4, n5⟩ := (Founds.grow HH.out hg2).at hz
          injection e' with e'
          injection e' with e1 e2
          subst e1 e2
          have HZ := Lib.hid hz
          clear hz
          by_cases q1 : x.epoch = z.epoch
          · have q1' : (x.epoch == z.epoch) = true := by rw [beq_iff_eq]; exact q1
            by_cases q2 : x.seq = z.seq
            · have q2' : (x.seq == z.seq) = true := by rw [beq_iff_eq]; exact q2
              have Q1 := Lib.hid q1
              have Q2 := Lib.hid q2
              clear q1 q2
              go_upto_region 9 with (fail)
              refine wp_region_gr (by kernel_rfl) (by kernel_rfl) ?_
              repeat (go_big_quiet_step (fail))
              refine wpQuiet_nil ?_
              rintro _ ⟨y, rfl⟩
              go_wp2_with fail
              refine (cA _).mono ?_
              rintro e w2 ⟨rfl, g2⟩
              go_wp2_with fail
              go_ret
              exact ⟨rfl, (hg2.trans y.g).trans g2⟩
            · have q2' : (x.seq == z.seq) = false := by rw [beq_eq_false_iff_ne]; exact q2
              have Q1 := Lib.hid q1
              have Q2 := Lib.hid (show ¬ (x.epoch = z.epoch ∧ x.seq = z.seq) from fun h => q2 h.2)
              clear q1 q2
              go_upto_region 9 with (fail)
              refine wp_region_gr (by kernel_rfl) (by kernel_rfl) ?_
              repeat (go_big_quiet_step (fail))
              refine wpQuiet_nil ?_
              rintro _ ⟨y, rfl⟩
              go_wp2_with fail
              go_roundw
              case rel => exact ⟨hg2.trans y.g, k + 1, by go_num, by omega, fun m z' hm hz' => by
                rcases (by omega : m < k ∨ m = k) with h3 | rfl
                · exact HA.out m z' h3 hz'
                · rw [HZ.out] at hz'; injection hz' with hz'; rw [← hz']; exact Q2.out⟩
              case measure => simp [Go.RowKit.intOf]; omega
          · have q1' : (x.epoch == z.epoch) = false := by rw [beq_eq_false_iff_ne]; exact q1
            have Q2 := Lib.hid (show ¬ (x.epoch = z.epoch ∧ x.seq = z.seq) from fun h => q1 h.1)
            clear q1
            go_upto_region 9 with (fail)
            refine wp_region_gr (by kernel_rfl) (by kernel_rfl) ?_
            repeat (go_big_quiet_step (fail))
            refine wpQuiet_nil ?_
            rintro _ ⟨y, rfl⟩
            go_wp2_with fail
            go_roundw
            case rel => exact ⟨hg2.trans y.g, k + 1, by go_num, by omega, fun m z' hm hz' => by
              rcases (by omega : m < k ∨ m = k) with h3 | rfl
              · exact HA.out m z' h3 hz'
              · rw [HZ.out] at hz'; injection hz' with hz'; rw [← hz']; exact Q2.out⟩
            case measure => simp [Go.RowKit.intOf]; omega
        · have hkj' : ¬ (k : Int) < j := by omega
          have HN := Lib.hid (unlike_take HX.out HU.out (fun m z hm hz => HA.out m z (by omega) hz))
          go_wp2_with fail
          go_roundw
          case rel => exact ⟨hg2, j + 1, by go_num, by omega, HN.out⟩
          case measure => simp [Go.RowKit.intOf]; omega
    · have hlt' : ¬ (j : Int) < l.length := by omega
      have HUL : Hid (Unlike l) := by
        have := HU.out
        rw [List.take_of_length_le (by omega)] at this
        exact Lib.hid this
      have hlb := lowI_bd p l.length (by omega)
      obtain ⟨t, ht⟩ : ∃ t : Nat, lowI p l.length = t := ⟨(lowI p l.length).toNat, by omega⟩
      have cW := low_any p l.length wr (by omega) (by omega)
      rw [ht] at cW hlb
      clear HU ht
      go_wp2_with fail
      refine cW.mono ?_
      rintro e wz ⟨rfl, rfl⟩
      obtain ⟨f0, hf0, -⟩ := lt_get hpos
      obtain ⟨b, off, rfl, hb, -⟩ := HH.out.at hf0
      have htl : t < l.length := by omega
      have hct : ¬ c = t := by omega
      have hz1' : (0 : Int) ≤ (t : Int) := by omega
      have hz2' : (t : Int) ≤ (l.length : Int) := by omega
      have hz3' : (t : Int) ≤ (c : Int) := by omega
      have hz4' : (l.length : Int) ≤ (c : Int) := by omega
      clear hf0 cW
      have HD : Hid (Founds wr.drew (.slice (some ⟨b, off + t * 6, none⟩) (l.length - t) (c - t)) (l.drop t)) := by
        have := Reads.cut (i := t) (j := l.length) (Founds.grow HH.out hg.drew) (by omega) (Nat.le_refl _)
        rw [List.take_length] at this
        exact Lib.hid this
      have HT : Hid (Founds wr.drew (.slice (some ⟨b, off, none⟩) t c) (l.take t)) := by
        have := Reads.cut (i := 0) (j := t) (Founds.grow HH.out hg.drew) (by omega) (by omega)
        simp only [Nat.zero_mul, Nat.add_zero, Nat.sub_zero, List.drop_zero] at this
        exact Lib.hid this
      have hdl : 0 + (l.drop t).length ≤ 1000000000000 := by rw [List.length_drop]; omega
      have hdl2 : (l.drop t).length + (l.take t).length ≤ 1000000000000 := by rw [List.length_drop, List.length_take]; omega
      have HDL := Lib.hid hdl
      have HDL2 := Lib.hid hdl2
      have tok1 : True := trivial
      clear hdl hdl2
      go_upto_region 12 with (fail)
      go_region_law ((first
        | (have _t := tok1; refine step_app (R := FoundR) (k := 6) (l := l.drop t) (W0 := wr.drew) (by rfl) _ _ 22 (by rfl) 30 i0 _ 48 Try.underlying22 hi0 hz0 hz1 hz2 (by rfl) (by decide) (.slice none 0 0) (.slice (some ⟨b, off + t * 6, none⟩) (l.length - t) (c - t)) 0 [] (by rfl) (Own.start (Grow.refl _)) (by rfl) HD.out (one_found _) HDL.out (by decide) ?_; intro v1 w1 hout; obtain ⟨ho1, hg1⟩ := hout.clone; obtain ⟨ys, hys⟩ := ho1; have HYS := Lib.hid hys; have HT1 := Lib.hid (Founds.grow HT.out hg1); have HG1 := Lib.hid hg1; clear hout hys hg1 tok1)
        | (refine step_app (R := FoundR) (k := 6) (l := l.take t) (W0 := wr.drew) (by rfl) _ _ 22 (by rfl) 30 i0 _ 48 Try.underlying22 hi0 hz0 hz1 hz2 (by rfl) (by decide) v1 (.slice (some ⟨b, off, none⟩) t c) (l.drop t).length ys (by rfl) HYS.out.1 (by rfl) HT1.out (one_found _) HDL2.out (by decide) ?_; intro v2 w2 hout; have HO2 := Lib.hid (OwnL.app ⟨ys, HYS.out⟩ HYS.out hout (fun _ _ _ h => h)); clear hout)))
      all_goals
        have gw2 := hg.drew.trans HO2.out.grow
        have HR2 := Lib.hid (HO2.out.reads' (fun _ _ _ _ h => h))
        have HWT := Lib.hid (show ∀ x ∈ l.drop t ++ l.take t, Wf x.pg from fun x hx => HW.out x ((mem_turn l t x).2 hx))
        have HLT := Lib.hid (show (l.drop t ++ l.take t).length = l.length by rw [List.length_append, List.length_drop, List.length_take]; omega)
        have HLF := Lib.hid (lastF_perm (mem_turn l t))
        have HST := Lib.hid (stale_turn l t)
        have HAT := Lib.hid (fun a b ha hb => all_turn (fs := l) (a := a) (b := b) (t := t) ha hb HUL.out)
        generalize hot : l.drop t ++ l.take t = ot at *
        have H2 := Lib.hid (Founds.grow HH.out gw2)
        clear HO2 HYS HT1 HG1 HD HT HDL HDL2 HUL hot hg
        go_wp2_with fail
        refine (all_any _ l w2 H2.out (by omega) HW.out).mono ?_
        rintro e w3 ⟨v3, m, rfl, hm, ho3, hml⟩
        have HM := Lib.hid hm
        have g3 := ho3.grow
        have HR3 := Lib.hid (ho3.reads' (fun _ _ _ _ h => h))
        clear ho3 hm
        go_wp2_with fail
        refine (all_any _ ot w3 (Founds.grow HR2.out g3) (by rw [HLT.out]; omega) HWT.out).mono ?_
        rintro e w4 ⟨v4, m4, rfl, hm4, ho4, -⟩
        obtain rfl : m = m4 := HAT.out _ _ HM.out hm4
        have g4 := ho4.grow
        have g34 := g3.trans g4
        have H4 := Lib.hid (Founds.grow H2.out g34)
        have HO4 := Lib.hid (Founds.grow HR2.out g34)
        have HA4 := Lib.hid (Founds.grow HR3.out g4)
        have HB4 := Lib.hid (ho4.reads' (fun _ _ _ _ h => h))
        have gw4 := gw2.trans g34
        obtain ⟨ma, mc, em⟩ := HA4.out.mk
        clear hm4 ho4 g3 g4 g34 HR3 HR2 H2 HAT HWT gw2
        subst em
        have HMX := Lib.hid (show ∀ (i : Nat) x, m[i]? = some x → x.kind = 1 ∧ x.epoch ≤ lastF l from fun i x hx => by
          have := live_spec ((HM.out.2 x).1 (List.mem_of_getElem? hx))
          exact ⟨this.2.1, this.2.2.2⟩)
        have HMP := Lib.hid (show ∀ (i j : Nat) x z, i < j → m[i]? = some z → m[j]? = some x → z.pg < x.pg from fun i j x z hij hz hx => by
          obtain ⟨h1, e1⟩ := List.getElem?_eq_some_iff.1 hz
          obtain ⟨h2, e2⟩ := List.getElem?_eq_some_iff.1 hx
          have := List.pairwise_iff_getElem.1 HM.out.1 i j h1 h2 hij
          rw [e1, e2] at this; exact this)
        go_wp2_with fail
        go_loopw [10] (fun v10 wx => Grow w4 wx ∧ ∃ i : Nat, v10 = .int .i64 i ∧ i ≤ m.length) (fun v10 _ => m.length - (Go.RowKit.intOf v10).toNat)
        case atStart => exact ⟨Grow.refl _, 0, rfl, by omega⟩
        case round =>
          obtain ⟨hg5, i, rfl, hi⟩ := hrel
          by_cases hlt : i < m.length
          · have hlt' : (i : Int) < m.length := by omega
            obtain ⟨x, hx, -⟩ := lt_get hlt
            obtain ⟨bm, om, rfl, hbm, k0, k1, k2, k3, k4, k5⟩ := (Founds.grow HA4.out hg5).at hx
            obtain ⟨hk, he⟩ := HMX.out i x hx
            have hk' : (x.kind != 1) = false := by rw [hk]; rfl
            have he' : ¬ lastF l < x.epoch := by omega
            have cLL := fun y : Gr wr => last_any _ l y.W (Founds.grow (Founds.grow H4.out hg5) y.g) (by omega)
            have HX := Lib.hid hx
            clear hx hk he
            generalize lastF l = last at *
            by_cases hi0 : (0 : Int) < i
            · obtain ⟨z, hz, -⟩ := lt_get (l := m) (i := i - 1) (by omega)
              obtain ⟨b', off', e', hb', n0, n1, n2, n3, n4, n5⟩ := (Founds.grow HA4.out hg5).at hz
              injection e' with e'
              injection e' with e1 e2
              subst e1 e2
              have hzx := HMP.out (i - 1) i x z (by omega) hz HX.out
              have hzx' : ¬ x.pg ≤ z.pg := by omega
              have hi1 : IntKind.i64.wrap ((i : Int) - 1) = (i : Int) - 1 := IntWalk.i64_in _ (by omega)
              have hi2 : (0 : Int) ≤ (i : Int) - 1 := by omega
              have hi3 : (i : Int) - 1 < m.length := by omega
              have hi4 : ((i : Int) - 1).toNat = i - 1 := by omega
              clear hz
              go_upto_region 17 with (fail)
              refine wp_region_gr (by kernel_rfl) (by kernel_rfl) ?_
              repeat (go_big_quiet_step (first | (go_at_call 15; exact Calls.gr (cLL _))))
              all_goals (first | rw [decide_eq_false he'] | skip)
              repeat (go_big_quiet_step (first | (go_at_call 15; exact Calls.gr (cLL _))))
              all_goals (first | rw [decide_eq_true hi0] | rw [decide_eq_true (show 0 < i by omega)] | skip)
              repeat (go_big_quiet_step (first | (go_at_call 15; exact Calls.gr (cLL _))))
              refine wpQuiet_nil ?_
              rintro _ ⟨y, rfl⟩
              clear hi1 hi2 hi3 hi4
              go_wp2_with fail
              go_roundw
              case rel => exact ⟨hg5.trans y.g, i + 1, by go_num, by omega⟩
              case measure => simp [Go.RowKit.intOf]; omega
            · go_upto_region 17 with (fail)
              refine wp_region_gr (by kernel_rfl) (by kernel_rfl) ?_
              repeat (go_big_quiet_step (first | (go_at_call 15; exact Calls.gr (cLL _))))
              all_goals (first | rw [decide_eq_false he'] | skip)
              repeat (go_big_quiet_step (first | (go_at_call 15; exact Calls.gr (cLL _))))
              all_goals (first | rw [decide_eq_false hi0] | rw [decide_eq_false (show ¬ 0 < i by omega)] | skip)
              repeat (go_big_quiet_step (first | (go_at_call 15; exact Calls.gr (cLL _))))
              refine wpQuiet_nil ?_
              rintro _ ⟨y, rfl⟩
              go_wp2_with fail
              go_roundw
              case rel => exact ⟨hg5.trans y.g, i + 1, by go_num, by omega⟩
              case measure => simp [Go.RowKit.intOf]; omega
          · have hlt' : ¬ (i : Int) < m.length := by omega
            have c5 := sameFounds_any _ v4 m m wr (Founds.grow HA4.out hg5) (Founds.grow HB4.out hg5) (by omega)
            rw [same_yes rfl] at c5
            have H5 := Lib.hid (Founds.grow H4.out hg5)
            have HO5 := Lib.hid (Founds.grow HO4.out hg5)
            go_wp2_with fail
            refine c5.mono ?_
            rintro e w6 ⟨rfl, g6⟩
            clear c5
            go_wp2_with fail
            refine (last_any _ l w6 (Founds.grow H5.out g6) (by omega)).mono ?_
            rintro e w7 ⟨rfl, g7⟩
            have g67 := g6.trans g7
            have c7 := last_any _ ot w7 (Founds.grow HO5.out g67) (by rw [HLT.out]; omega)
            rw [← HLF.out] at c7
            generalize lastF l = last at *
            go_wp2_with fail
            refine c7.mono ?_
            rintro e w8 ⟨rfl, g8⟩
            have g68 := g67.trans g8
            clear c7 g6 g7 g67 g8
            go_wp2_with fail
            refine (stale_any _ l w8 (Founds.grow H5.out g68) (by omega)).mono ?_
            rintro e w9 ⟨v9, rfl, ho9⟩
            have hr9 := ho9.reads' (fun _ _ _ _ h => h)
            obtain ⟨a9, c9, e9⟩ := hr9.mk
            have g69 := g68.trans ho9.grow
            clear ho9 g68 hr9
            subst e9
            go_wp2_with fail
            refine (stale_any _ ot w9 (Founds.grow HO5.out g69) (by rw [HLT.out]; omega)).mono ?_
            rintro e w10 ⟨v10, rfl, ho10⟩
            have hr10 := ho10.reads' (fun _ _ _ _ h => h)
            obtain ⟨a10, c10, e10⟩ := hr10.mk
            have g610 := g69.trans ho10.grow
            clear ho10 g69 hr10
            subst e10
            rw [← HST.out]
            generalize (staleF l).length = n9 at *
            go_wp2_with fail
            refine (cA w10).mono ?_
            rintro e w11 ⟨rfl, g11⟩
            go_wp2_with fail
            go_ret
            exact ⟨rfl, ((gw4.trans hg5).trans g610).trans g11⟩
end Go.Proofs.Ytcfkpaijlibjaaa
