/- The walk of the law RankCopies. -/
import Derived.Test.YtcfkpaijlibjaaaRkTop
import Derived.Test.YtcfkpaijlibjaaaLow
import Derived.Deep.DrawnRows
import Derived.Deep.RegionLaw
set_option linter.unusedVariables false
set_option linter.unusedSimpArgs false
namespace Go.Proofs.Ytcfkpaijlibjaaa
open Go.RowKit Go.Lib Go.Maps
theorem first2 {U w1 : World} {o : Obj} (h : Grow (U.drew.alloc o) w1) : Grow U w1 := ((Grow.refl U).drew.alloc o).trans h
theorem six_get (xs : List Value) (n q : Nat) (c0 c1 c2 c3 c4 c5 : Value) (hn : n + 6 ≤ xs.length) :
    ((((((xs.set n c0).set (n + 1) c1).set (n + 2) c2).set (n + 3) c3).set (n + 4) c4).set (n + 5) c5)[q]? = if n ≤ q ∧ q < n + 6 then [c0, c1, c2, c3, c4, c5][q - n]? else xs[q]? := by
  by_cases h : n ≤ q ∧ q < n + 6
  · rw [if_pos h]
    obtain ⟨r, rfl⟩ : ∃ r, q = n + r := ⟨q - n, by omega⟩
    have hr : r < 6 := by omega
    rw [Nat.add_sub_cancel_left]
    rcases r with _ | _ | _ | _ | _ | _ | r
    · simp [List.getElem?_set]; omega
    · simp [List.getElem?_set]; omega
    · simp [List.getElem?_set]; omega
    · simp [List.getElem?_set]; omega
    · simp [List.getElem?_set]; omega
    · simp [List.getElem?_set]; omega
    · omega
  · rw [if_neg h]
    simp only [List.getElem?_set, List.length_set]
    rw [if_neg (by omega), if_neg (by omega), if_neg (by omega), if_neg (by omega), if_neg (by omega), if_neg (by omega)]
/-- A page is written over in a row of the call's own. -/
theorem set6 {g cap : Nat} {W0 w : World} {l : List Found} (h : OwnL FoundR 30 6 W0 (.slice (some ⟨g, 0, none⟩) l.length cap) l w) {i : Nat} (hi : i < l.length) (x : Found) :
    OwnL FoundR 30 6 W0 (.slice (some ⟨g, 0, none⟩) l.length cap) (l.set i x)
      ((((((w.setCell ⟨g, i * 6, none⟩ (.int .i64 x.block)).setCell ⟨g, i * 6 + 1, none⟩ (.int .i64 x.page)).setCell ⟨g, i * 6 + 2, none⟩ (.int .i64 x.kind)).setCell ⟨g, i * 6 + 3, none⟩ (.int .i64 x.pg)).setCell ⟨g, i * 6 + 4, none⟩ (.int .i64 x.seq)).setCell ⟨g, i * 6 + 5, none⟩ (.int .i64 x.epoch)) := by
  obtain ⟨xs, h1, h2⟩ := h
  have hg : W0.heap.size ≤ g := (h1.row.lt g rfl).1
  have s1 := (h1.row.stored (i * 6) (.int .i64 x.block)).1
  have s2 := (s1.stored (i * 6 + 1) (.int .i64 x.page)).1
  have s3 := (s2.stored (i * 6 + 2) (.int .i64 x.kind)).1
  have s4 := (s3.stored (i * 6 + 3) (.int .i64 x.pg)).1
  have s5 := (s4.stored (i * 6 + 4) (.int .i64 x.seq)).1
  have s6 := (s5.stored (i * 6 + 5) (.int .i64 x.epoch)).1
  have hl : xs.length = l.length * 6 := h1.row.1
  refine ⟨_, ⟨by rw [List.length_set]; exact s6, ((((((h1.grow.set hg _).set hg _).set hg _).set hg _).set hg _).set hg _)⟩, fun j y hy => ?_⟩
  unfold FoundR
  apply List.ext_getElem?
  intro r
  by_cases hr : r < 6
  · rw [List.getElem?_take_of_lt hr, List.getElem?_drop, six_get _ _ _ _ _ _ _ _ _ (by omega)]
    by_cases hji : j = i
    · subst hji
      rw [if_pos (by omega), show j * 6 + r - j * 6 = r by omega]
      rw [List.getElem?_set_self hi] at hy
      obtain rfl := Option.some.inj hy
      rfl
    · rw [if_neg (by omega)]
      rw [List.getElem?_set_ne (fun e => hji e.symm)] at hy
      have h3 := h2 j y hy
      unfold FoundR at h3
      rw [← h3, List.getElem?_take_of_lt hr, List.getElem?_drop]
  · rw [List.getElem?_eq_none (by rw [List.length_take]; omega), List.getElem?_eq_none (by simp; omega)]
theorem set6' {g cap : Nat} {W0 w : World} {l m : List Found} (h : OwnL FoundR 30 6 W0 (.slice (some ⟨g, 0, none⟩) l.length cap) l w) {i : Nat} (hi : i < l.length) {x : Found} (hm : l.set i x = m) :
    OwnL FoundR 30 6 W0 (.slice (some ⟨g, 0, none⟩) l.length cap) m
      ((((((w.setCell ⟨g, i * 6, none⟩ (.int .i64 x.block)).setCell ⟨g, i * 6 + 1, none⟩ (.int .i64 x.page)).setCell ⟨g, i * 6 + 2, none⟩ (.int .i64 x.kind)).setCell ⟨g, i * 6 + 3, none⟩ (.int .i64 x.pg)).setCell ⟨g, i * 6 + 4, none⟩ (.int .i64 x.seq)).setCell ⟨g, i * 6 + 5, none⟩ (.int .i64 x.epoch)) := hm ▸ set6 h hi x
set_option maxRecDepth 100000 in
set_option maxHeartbeats 8000000 in
theorem copies_walk (v : Value) (l : List Found) (p bl : Int) (w : World) (h : Founds w v l) (hw : ∀ x ∈ l, WfF x) (hp : Wf p) (hbl : Wf bl) :
    Calls Try.prog 4 #[v, .int .i64 p, .int .i64 bl] w fun e w' => e = .returned (.bool true) ∧ Grow w w' := by
  have cG := greatFounds_any v l 40 w h
  obtain ⟨a, c, rfl⟩ := h.mk
  have HH := Lib.hid h
  have HW := Lib.hid (show ∀ x ∈ l, Wf x.pg from fun x hx => (hw x hx).2.2.2.1)
  have cA := awake10_any
  clear h hw
  obtain ⟨i0, hi0, hz0, hz1, hz2⟩ := info_parts info_found
  by_cases hlen : (40 : Int) < l.length
  · rw [decide_eq_true hlen] at cG
    go_enter Try.func4, Try.ntmps4
    go_wp2_with fail
    refine cG.mono ?_
    rintro e w1 ⟨rfl, rfl⟩
    go_wp2_with fail
    refine (cA _).mono ?_
    rintro e w2 ⟨rfl, g2⟩
    go_wp2_with fail
    go_ret
    exact ⟨rfl, g2⟩
  rw [decide_eq_false hlen] at cG
  have hl40 : l.length ≤ 40 := by omega
  clear hlen
  go_enter Try.func4, Try.ntmps4
  go_wp2_with fail
  refine cG.mono ?_
  rintro e w1 ⟨rfl, rfl⟩
  clear cG
  go_wp2_with fail
  go_loop [7, 8] (fun vT vI => ∃ j : Nat, vI = .int .i64 j ∧ j ≤ l.length ∧ vT = .int .i64 (topQ (l.take j)) ∧ SeqOk (l.take j)) (fun _ vI => l.length - (Go.RowKit.intOf vI).toNat)
  case atStart => exact ⟨0, rfl, by omega, rfl, fun f hf => (by cases hf)⟩
  case round =>
    obtain ⟨j, rfl, hj, rfl, hsq⟩ := hrel
    have HSQ := Lib.hid hsq
    clear hsq
    by_cases hlt : j < l.length
    · have hlt' : (j : Int) < l.length := by omega
      obtain ⟨x, hx, -⟩ := lt_get hlt
      obtain ⟨b, off, rfl, hb, k0, k1, k2, k3, k4, k5⟩ := HH.out.at hx
      have HX := Lib.hid hx
      clear hx
      by_cases q1 : x.seq < 0
      · go_wp2_with fail
        refine (cA _).mono ?_
        rintro e w2 ⟨rfl, g2⟩
        go_wp2_with fail
        go_ret
        exact ⟨rfl, g2⟩
      by_cases q2 : 4294967295 < x.seq
      · go_wp2_with fail
        refine (cA _).mono ?_
        rintro e w2 ⟨rfl, g2⟩
        go_wp2_with fail
        go_ret
        exact ⟨rfl, g2⟩
      have HT := Lib.hid (topQ_take HX.out)
      have HS := Lib.hid (seqOk_take HX.out HSQ.out (by omega) (by omega))
      go_wp2_with fail
      go_round
      case rel => exact ⟨j + 1, by go_num, by omega, by rw [HT.out]; try rw [ite_max], HS.out⟩
      case measure => simp [Go.RowKit.intOf]; omega
    have hlt' : ¬ (j : Int) < l.length := by omega
    rw [show l.take j = l from List.take_of_length_le (by omega)]
    have hsq : SeqOk l := by have := HSQ.out; rw [List.take_of_length_le (by omega)] at this; exact this
    have htop := topQ_bd hsq
    have HQL := Lib.hid htop.2
    have ht1 : 0 ≤ topQ l := htop.1.1
    have ht2 : topQ l ≤ 4294967295 := htop.1.2
    generalize topQ l = top at *
    clear hsq htop HSQ
    go_wp2_with fail
    refine (all_any _ l w HH.out (by omega) HW.out).mono ?_
    rintro e w1 ⟨v1, m, rfl, hm, ho1, hml⟩
    have HM := Lib.hid hm
    have g1 := ho1.grow
    have HR1 := Lib.hid (ho1.reads' (fun _ _ _ _ h => h))
    clear hm ho1
    go_wp2_with fail
    refine (stale_any _ l w1 (Founds.grow HH.out g1) (by omega)).mono ?_
    rintro e w2 ⟨v2, rfl, ho2⟩
    have g2 := ho2.grow
    have HR2 := Lib.hid (ho2.reads' (fun _ _ _ _ h => h))
    have HM2 := Lib.hid (Founds.grow HR1.out g2)
    have H2 := Lib.hid (Founds.grow HH.out (g1.trans g2))
    have gw2 := g1.trans g2
    obtain ⟨sa, sc, es⟩ := HR2.out.mk
    obtain ⟨ma, mc, em⟩ := HM2.out.mk
    have hsl : (staleF l).length ≤ 40 := by have := List.length_filter_le (fun f : Found => decide (lastF l < f.epoch)) l; unfold staleF; omega
    have HWL := Lib.hid (show ∀ x : Found, Wf x.pg → ∀ y ∈ l ++ [x], Wf y.pg from fun x hx y hy => by
      rcases List.mem_append.1 hy with hy | hy
      · exact HW.out y hy
      · have e : y = x := by simpa using hy
        rw [e]; exact hx)
    have HL1 := Lib.hid (show 0 + l.length ≤ 1000000000000 by omega)
    have HL2 := Lib.hid (show l.length + 1 ≤ 1000000000000 by omega)
    have HL3' := Lib.hid (show ∀ x : Found, (l ++ [x]).length ≤ 1000000 from fun x => by rw [List.length_append]; simp; omega)
    clear ho2 g1 g2 HR1 HH
    subst es em
    go_upto_if 55 with (fail)
    go_cut [11] (fun _ wc => Grow w2 wc)
    case first =>
      have HSM := Lib.hid (show ∀ x ∈ staleF l, x ∈ staleF l ∧ Wf x.pg from fun x hx => ⟨hx, HW.out x (List.mem_filter.1 hx).1⟩)
      have HAS := Lib.hid (fun (x : Found) (s : Int) (b : List Found) (hx : x ∈ staleF l) (hk : x.kind ≠ 3) (hb : IsAll (l ++ [{ x with seq := s }]) b) => all_stale HM.out hx hk hb)
      generalize staleF l = st at *
      by_cases hs : st.length = 0
      · have hs' : ¬ (0 : Int) < st.length := by omega
        have HS0 := Lib.hid hs
        clear hs
        go_wp2_with fail
        go_meet
        exact Grow.refl _
      have hs' : (0 : Int) < st.length := by omega
      have hlb := lowI_bd p st.length (by omega)
      obtain ⟨q, hq⟩ : ∃ q : Nat, lowI p st.length = q := ⟨(lowI p st.length).toNat, by omega⟩
      have cW := low_any p st.length w2 (by omega) (by omega)
      rw [hq] at cW hlb
      have hql : q < st.length := by omega
      have hql' : (q : Int) < st.length := by omega
      obtain ⟨x, hx, -⟩ := lt_get hql
      obtain ⟨bb, off, rfl, hbb, k0, k1, k2, k3, k4, k5⟩ := Founds.at HR2.out hx
      have hxm := HSM.out x (List.mem_of_getElem? hx)
      have HXM := Lib.hid hxm
      clear hx hq hxm
      by_cases hk : x.kind = 3
      · have hk' : (x.kind != 3) = false := by rw [hk]; rfl
        clear hk
        go_wp2_with fail
        refine cW.mono ?_
        rintro e wz ⟨rfl, rfl⟩
        go_wp2_with fail
        go_meet
        exact (Grow.refl _).alloc _
      have hk' : (x.kind != 3) = true := by rw [bne_iff_ne]; exact hk
      have HKN := Lib.hid hk
      clear hk
      go_upto_region 15 with (go_at_call 13; refine cW.mono ?_; rintro e wz ⟨rfl, rfl⟩)
      generalize hU : w2.alloc (.cells #[.int .i64 x.block, .int .i64 x.page, .int .i64 x.kind, .int .i64 x.pg, .int .i64 (top + 1), .int .i64 x.epoch] 30) = U
      have gU : Grow w2 U := by rw [← hU]; exact (Grow.refl w2).alloc _
      have hbu : U.heap[w2.heap.size]? = some (.cells #[.int .i64 x.block, .int .i64 x.page, .int .i64 x.kind, .int .i64 x.pg, .int .i64 (top + 1), .int .i64 x.epoch] 30 (0, 0)) := by rw [← hU]; exact heap_alloc_new w2 _
      have HBX := Lib.hid hbu
      obtain ⟨p0, p1, p2, p3, p4, p5⟩ := box6 hbu
      have HF := Lib.hid (Founds.grow (Founds.grow H2.out gU) (Grow.refl U).drew)
      have hwsz : w2.heap.size < U.heap.size := (Array.getElem?_eq_some_iff.1 hbu).1
      have HAX := Lib.hid (fun b hb => HAS.out x (top + 1) b HXM.out.1 HKN.out hb)
      have HWX := Lib.hid (HWL.out { x with seq := top + 1 } HXM.out.2)
      have HL3 := Lib.hid (HL3'.out { x with seq := top + 1 })
      have HMU := Lib.hid (Founds.grow HM2.out gU)
      clear hU hbu k0 k1 k2 k3 k4 k5 cW
      have tok1 : True := trivial
      have tok2 : True := trivial
      go_region_law ((first
        | (have _t := tok1; refine step_app (R := FoundR) (k := 6) (l := l) (by rfl) _ _ 22 (by rfl) 30 i0 _ 48 Try.underlying22 hi0 hz0 hz1 hz2 (by rfl) (by decide) (.slice none 0 0) (.slice a l.length c) 0 [] (by rfl) (Own.start (Grow.refl _)) (by rfl) ?_ (one_found _) HL1.out (by decide) ?_; (first | exact HF.out | exact Founds.grow HF.out ((Grow.refl _).alloc _)); intro v1 w1 hout; obtain ⟨ho1, hg1⟩ := hout.clone; obtain ⟨ys, hys⟩ := ho1; have HYS := Lib.hid hys; have hgU : Grow U w1 := (by first | exact first2 hg1 | exact (Grow.refl U).drew.trans hg1); obtain ⟨b0, b1, b2, b3, b4, b5⟩ := box6 (hgU.blk HBX.out); have HG1 := Lib.hid hgU; have HL9 := Lib.hid hg1; clear hout hys hg1 hgU tok1)
        | (have _t := tok2; refine step_app (R := FoundR) (k := 6) (l := [({ x with seq := top + 1 } : Found)]) (W0 := U.drew) (by rfl) _ _ 22 (by rfl) 30 i0 _ 48 Try.underlying22 hi0 hz0 hz1 hz2 (by rfl) (by decide) v1 (.slice (some ⟨w1.heap.size, 0, none⟩) 1 1) l.length ys (by rfl) ((HYS.out.1).alloc _) (by rfl) (lit_reads cellsF (fun _ => rfl) w1 [({ x with seq := top + 1 } : Found)] 30 (fun _ => rfl)) (one_found _) HL2.out (by decide) ?_; intro v2 w2' hout; have HO2 := Lib.hid (OwnL.app ⟨ys, (HYS.out.1).alloc _, HYS.out.2⟩ ⟨(HYS.out.1).alloc _, HYS.out.2⟩ hout (fun _ _ _ h => h) : OwnL FoundR 30 6 U.drew v2 (l ++ [({ x with seq := top + 1 } : Found)]) w2'); clear hout tok2)
        | (have _t := tok2; refine step_app (R := FoundR) (k := 6) (l := [({ x with seq := top + 1 } : Found)]) (W0 := U.drew.alloc (.cells (boxF ({ x with seq := top + 1 } : Found)) 30)) (by rfl) _ _ 22 (by rfl) 30 i0 _ 48 Try.underlying22 hi0 hz0 hz1 hz2 (by rfl) (by decide) v1 (.slice (some ⟨U.heap.size, 0, none⟩) 1 1) l.length ys (by rfl) HYS.out.1 (by rfl) (Founds.grow (lit_reads cellsF (fun _ => rfl) U.drew [({ x with seq := top + 1 } : Found)] 30 (fun _ => rfl)) HL9.out) (one_found _) HL2.out (by decide) ?_; intro v2 w2' hout; have HO2 := Lib.hid (OwnL.rebase ((Grow.refl U.drew).alloc _) (OwnL.app ⟨ys, HYS.out⟩ HYS.out hout (fun _ _ _ h => h)) (fun _ _ h => h) : OwnL FoundR 30 6 U.drew v2 (l ++ [({ x with seq := top + 1 } : Found)]) w2'); clear hout tok2)
        | (go_simp; go_at_call 14; refine (all_any v2 (l ++ [({ x with seq := top + 1 } : Found)]) _ (HO2.out.reads' (fun _ _ _ _ h => h)) HL3.out HWX.out).mono ?_; rintro e w7 ⟨v7, m7, rfl, hm7, ho7, -⟩; have HM7 := Lib.hid hm7; have HO7 := Lib.hid ho7; clear hm7 ho7)
        | (go_simp; go_at_call 16; have hmm := HAX.out m7 HM7.out; refine (sameFounds_any v7 _ m7 m _ (HO7.out.reads' (fun _ _ _ _ h => h)) (Founds.grow HMU.out (((Grow.refl U).drew.trans HO2.out.grow).trans HO7.out.grow)) (by rw [hmm]; omega)).mono ?_; rw [same_yes hmm]; rintro e w8 ⟨rfl, g8⟩; have GSF := Lib.hid ((((Grow.refl U).drew.trans HO2.out.grow).trans HO7.out.grow).trans g8); clear hmm g8)
      ))
      all_goals
        obtain rfl := HAX.out m7 HM7.out
        go_wp2_with fail
        go_meet
        exact (gU.trans GSF.out)
    case rest =>
      have HMc := Lib.hid (Founds.grow HM2.out hcut)
      have Hc := Lib.hid (Founds.grow H2.out hcut)
      have gwc := gw2.trans hcut
      clear hcut HR2
      by_cases hm0 : m.length = 0
      · have hm1 : ((m.length : Int) == 0) = true := by rw [hm0]; rfl
        have HM0 := Lib.hid hm0
        clear hm0
        go_wp2_with fail
        refine (cA _).mono ?_
        rintro e w3 ⟨rfl, g3⟩
        go_wp2_with fail
        go_ret
        exact ⟨rfl, gwc.trans g3⟩
      have hm1 : ((m.length : Int) == 0) = false := by rw [beq_eq_false_iff_ne]; omega
      have hlb := lowI_bd p m.length (by omega)
      obtain ⟨q, hq⟩ : ∃ q : Nat, lowI p m.length = q := ⟨(lowI p m.length).toNat, by omega⟩
      have cW := low_any p m.length wc (by omega) (by omega)
      rw [hq] at cW hlb
      have hql : q < m.length := by omega
      have hql' : (q : Int) < m.length := by omega
      obtain ⟨y, hy, -⟩ := lt_get hql
      obtain ⟨bb, off, rfl, hbb, k0, k1, k2, k3, k4, k5⟩ := Founds.at HMc.out hy
      have HY := Lib.hid hy
      have HYP := Lib.hid (HW.out y (live_spec ((HM.out.2 y).1 (List.mem_of_getElem? hy))).1)
      have HM0 := Lib.hid hm0
      clear hy hq hm0
      go_upto_region 22 with (go_at_call 13; refine cW.mono ?_; rintro e wz ⟨rfl, rfl⟩)
      generalize hU : wc.alloc (.cells #[.int .i64 bl, .int .i64 y.page, .int .i64 y.kind, .int .i64 y.pg, .int .i64 (top + 1), .int .i64 y.epoch] 30) = U
      have gU : Grow wc U := by rw [← hU]; exact (Grow.refl wc).alloc _
      have hbu : U.heap[wc.heap.size]? = some (.cells #[.int .i64 bl, .int .i64 y.page, .int .i64 y.kind, .int .i64 y.pg, .int .i64 (top + 1), .int .i64 y.epoch] 30 (0, 0)) := by rw [← hU]; exact heap_alloc_new wc _
      have HBX := Lib.hid hbu
      obtain ⟨p0, p1, p2, p3, p4, p5⟩ := box6 hbu
      have HF := Lib.hid (Founds.grow (Founds.grow Hc.out gU) (Grow.refl U).drew)
      have hwsz : wc.heap.size < U.heap.size := (Array.getElem?_eq_some_iff.1 hbu).1
      have HAX := Lib.hid (fun (b : List Found) (hb : IsAll (l ++ [{ y with block := bl, seq := top + 1 }]) b) => all_copy (k := q) (x := y) (bl := bl) (s := top + 1) HM.out HY.out HQL.out hb)
      have HWX := Lib.hid (HWL.out { y with block := bl, seq := top + 1 } HYP.out)
      have HL3 := Lib.hid (HL3'.out { y with block := bl, seq := top + 1 })
      have HMU := Lib.hid (Founds.grow HMc.out gU)
      clear hU hbu k0 k1 k2 k3 k4 k5 cW
      go_cut [14] (fun v14 wx => OwnL FoundR 30 6 U v14 (m.set q { y with block := bl, seq := top + 1 }) wx)
      case first =>
        have tok1 : True := trivial
        have tok2 : True := trivial
        go_region_law ((first
          | (have _t := tok1; refine step_app (R := FoundR) (k := 6) (l := l) (by rfl) _ _ 22 (by rfl) 30 i0 _ 48 Try.underlying22 hi0 hz0 hz1 hz2 (by rfl) (by decide) (.slice none 0 0) (.slice a l.length c) 0 [] (by rfl) (Own.start (Grow.refl _)) (by rfl) ?_ (one_found _) HL1.out (by decide) ?_; (first | exact HF.out | exact Founds.grow HF.out ((Grow.refl _).alloc _)); intro v1 w1 hout; obtain ⟨ho1, hg1⟩ := hout.clone; obtain ⟨ys, hys⟩ := ho1; have HYS := Lib.hid hys; have hgU : Grow U w1 := (by first | exact first2 hg1 | exact (Grow.refl U).drew.trans hg1); obtain ⟨b0, b1, b2, b3, b4, b5⟩ := box6 (hgU.blk HBX.out); have HG1 := Lib.hid hgU; have HL9 := Lib.hid hg1; clear hout hys hg1 hgU tok1)
          | (have _t := tok2; refine step_app (R := FoundR) (k := 6) (l := [({ y with block := bl, seq := top + 1 } : Found)]) (W0 := U.drew) (by rfl) _ _ 22 (by rfl) 30 i0 _ 48 Try.underlying22 hi0 hz0 hz1 hz2 (by rfl) (by decide) v1 (.slice (some ⟨w1.heap.size, 0, none⟩) 1 1) l.length ys (by rfl) ((HYS.out.1).alloc _) (by rfl) (lit_reads cellsF (fun _ => rfl) w1 [({ y with block := bl, seq := top + 1 } : Found)] 30 (fun _ => rfl)) (one_found _) HL2.out (by decide) ?_; intro v2 w2' hout; have HO2 := Lib.hid (OwnL.app ⟨ys, (HYS.out.1).alloc _, HYS.out.2⟩ ⟨(HYS.out.1).alloc _, HYS.out.2⟩ hout (fun _ _ _ h => h) : OwnL FoundR 30 6 U.drew v2 (l ++ [({ y with block := bl, seq := top + 1 } : Found)]) w2'); clear hout tok2)
          | (have _t := tok2; refine step_app (R := FoundR) (k := 6) (l := [({ y with block := bl, seq := top + 1 } : Found)]) (W0 := U.drew.alloc (.cells (boxF ({ y with block := bl, seq := top + 1 } : Found)) 30)) (by rfl) _ _ 22 (by rfl) 30 i0 _ 48 Try.underlying22 hi0 hz0 hz1 hz2 (by rfl) (by decide) v1 (.slice (some ⟨U.heap.size, 0, none⟩) 1 1) l.length ys (by rfl) HYS.out.1 (by rfl) (Founds.grow (lit_reads cellsF (fun _ => rfl) U.drew [({ y with block := bl, seq := top + 1 } : Found)] 30 (fun _ => rfl)) HL9.out) (one_found _) HL2.out (by decide) ?_; intro v2 w2' hout; have HO2 := Lib.hid (OwnL.rebase ((Grow.refl U.drew).alloc _) (OwnL.app ⟨ys, HYS.out⟩ HYS.out hout (fun _ _ _ h => h)) (fun _ _ h => h) : OwnL FoundR 30 6 U.drew v2 (l ++ [({ y with block := bl, seq := top + 1 } : Found)]) w2'); clear hout tok2)
          | (go_simp; go_at_call 14; refine (all_any v2 (l ++ [({ y with block := bl, seq := top + 1 } : Found)]) _ (HO2.out.reads' (fun _ _ _ _ h => h)) HL3.out HWX.out).mono ?_; rintro e w7 ⟨v7, m7, rfl, hm7, ho7, -⟩; have HM7 := Lib.hid hm7; have HO7 := Lib.hid ho7; clear hm7 ho7)
        ))
        all_goals
          obtain rfl := HAX.out m7 HM7.out
          go_wp2_with fail
          go_meet
          exact (OwnL.rebase ((Grow.refl U).drew.trans HO2.out.grow) HO7.out (fun _ _ h => h))
      case rest =>
        have hsl : (m.set q { y with block := bl, seq := top + 1 }).length = m.length := List.length_set
        have hsq : (m.set q { y with block := bl, seq := top + 1 })[q]? = some { y with block := bl, seq := top + 1 } := List.getElem?_set_self hql
        have hss : (m.set q { y with block := bl, seq := top + 1 }).set q y = m := by
          rw [List.set_set]
          obtain ⟨h1, h2⟩ := List.getElem?_eq_some_iff.1 HY.out
          rw [← h2, List.set_getElem_self]
        generalize m.set q { y with block := bl, seq := top + 1 } = b at *
        have gB := hcut.grow
        have hform : ∃ g cap, u14 = .slice (some ⟨g, 0, none⟩) b.length cap := by
          obtain ⟨xs, h1, h2⟩ := hcut
          rcases h1.row.2 with ⟨rfl, h0⟩ | ⟨g, cap, cur, rfl, _⟩
          · omega
          · exact ⟨g, cap, rfl⟩
        obtain ⟨g, cap, rfl⟩ := hform
        have HB := Lib.hid (hcut.reads' (fun _ _ _ _ h => h))
        have HON := Lib.hid (fun n => hcut.more ((Grow.refl wc).drewN n))
        obtain ⟨b1, o1, e1, -, c0, c1, c2, c3, c4, c5⟩ := Founds.at HB.out hsq
        cases e1
        simp only [Nat.zero_add] at c0 c1 c2 c3 c4 c5
        have hfz : ∀ j, wc.frozen? ⟨g, j, none⟩ = false := by
          obtain ⟨xs, h1, h2⟩ := hcut
          exact fun j => h1.row.frozenAt j
        have f0 := hfz (q * 6)
        have f1 := hfz (q * 6 + 1)
        have f2 := hfz (q * 6 + 2)
        have f3 := hfz (q * 6 + 3)
        have f4 := hfz (q * 6 + 4)
        have f5 := hfz (q * 6 + 5)
        obtain ⟨p0', p1', p2', p3', p4', p5'⟩ := box6 (gB.blk HBX.out)
        have HMx := Lib.hid (Founds.grow HMU.out gB)
        obtain ⟨b2, o2, e2, -, k0, k1, k2, k3, k4, k5⟩ := Founds.at HMx.out HY.out
        cases e2
        have hn : ((b.length : Int) != (m.length : Int)) = false := by rw [hsl]; simp
        have hbl' : (q : Int) < b.length := by omega
        have hqb : q < b.length := by omega
        have hq := neqFound { y with block := bl, seq := top + 1 } { y with block := bl, seq := top + 1 } true (by simp)
        have HSS := Lib.hid hss
        have HSL := Lib.hid hsl
        clear hss hsq hsl hcut hfz p0 p1 p2 p3 p4 p5
        go_wp2_with fail
        go_quiet (fail)
        go_wp2_with fail
        have hO := set6' (HON.out nq) hqb HSS.out
        refine (sameFounds_any _ _ m m _ (Founds.grow HMU.out hO.grow) (hO.reads' (fun _ _ _ _ h => h)) (by omega)).mono ?_
        rw [same_yes rfl]
        rintro e w8 ⟨rfl, g8⟩
        have G8 := Lib.hid (hO.grow.trans g8)
        clear hO g8
        go_wp2_with fail
        refine (cA _).mono ?_
        rintro e w9 ⟨rfl, g9⟩
        go_wp2_with fail
        go_ret
        exact ⟨rfl, (gwc.trans gU).trans (G8.out.trans g9)⟩
end Go.Proofs.Ytcfkpaijlibjaaa
