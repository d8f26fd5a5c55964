/- MapsTurn: the law's walk, in three parts. -/
import Derived.Test.YtcfkpaijlibjaaaTurnW
set_option linter.unusedVariables false
set_option linter.unusedSimpArgs false
namespace Go.Proofs.Ytcfkpaijlibjaaa
open Go.RowKit Go.Lib Go.Maps
set_option maxRecDepth 100000 in
set_option maxHeartbeats 4000000 in
theorem turn13_walk (g : Geo) (v : Value) (l : List ActM) (w : World) (hg : WfGeo g) (hl : Acts w v l) (hw : ∀ x ∈ l, WfA x) :
    Calls Try.prog 8 #[geoV g, v] w fun e w' => e = .returned (.bool true) ∧ Grow w w' := by
  have cA := awake13_any
  clear hg
  obtain ⟨a0, c0, rfl⟩ := hl.mk
  have HL := Lib.hid hl
  have HW := Lib.hid hw
  clear hl hw
  have HBX := Lib.hid (heap_alloc_new w (geoO g))
  by_cases hm : mayG g = true
  · by_cases hlen : l.length ≤ 60
    · have hlen' : (l.length : Int) ≤ 60 := by omega
      have HM := Lib.hid hm
      have cN := fun W => new_yes2 g W hm
      clear hm
      go_enter Try.func8, Try.ntmps8
      go_wp2_with fail
      refine (cN _).mono ?_
      rintro e w2 ⟨B, a, h, rfl, hB, s2, g2⟩
      have ht : TurnI w g B a h 0 w2 := ⟨((Grow.refl w).alloc _).trans g2, g2.blk HBX.out, by
        have e1 : w.heap.size < (w.alloc (geoO g)).heap.size := Nat.lt_of_lt_of_eq (Nat.lt_succ_self _) (Array.size_push _).symm
        exact ⟨Nat.lt_of_lt_of_le e1 hB.1, Nat.lt_of_lt_of_le e1 hB.2.1, Nat.lt_of_lt_of_le e1 hB.2.2⟩, noA, noH, s2, Two.start g⟩
      have HT := Lib.hid ht
      clear ht s2 hB cN g2
      go_wp2_with fail
      go_loopw [6] (fun v6 wx => ∃ j : Nat, v6 = .int .i64 j ∧ j ≤ l.length ∧ TurnI w g B a h j wx) (fun v6 _ => l.length - (Go.RowKit.intOf v6).toNat)
      case atStart => exact ⟨0, rfl, by omega, HT.out⟩
      case round =>
        obtain ⟨j, rfl, hj, ht⟩ := hrel
        have HT2 := Lib.hid ht
        clear ht HT
        by_cases hlt : j < l.length
        · have hlt' : (j : Int) < l.length := by omega
          obtain ⟨x, hx, -⟩ := lt_get hlt
          obtain ⟨b, off, rfl, hb, m0, m1, m2, m3⟩ := (HL.out.grow HT2.out.1).at hx
          have HX := Lib.hid (HW.out x (List.mem_of_getElem? hx))
          clear hx
          by_cases hd : x.d = 1
          · have hd' : (x.d == 1) = true := by rw [hd]; simp
            clear hd
            go_wp2_with fail
            refine (turn_drop HT2.out HM.out x.x HX.out.2.1).mono ?_
            rintro e w3 ⟨⟨r, rfl⟩, t3⟩
            have HT3 := Lib.hid t3
            clear t3
            go_wp2_with fail
            go_roundw
            case rel => exact ⟨j + 1, by go_num, by omega, HT3.out⟩
            case measure => simp [Go.RowKit.intOf]; omega
          · have hd' : (x.d == 1) = false := by rw [beq_eq_false_iff_ne]; exact hd
            clear hd
            go_wp2_with fail
            go_still_tail 11, (by kernel_rfl)
            change wpList _ _ _ _ _ wr.drew
            go_wp2_with fail
            refine (turn_put (HT2.out.grow (Grow.refl _).drew) HM.out x.x x.b x.p HX.out.2.1 HX.out.2.2.1 HX.out.2.2.2 (by omega)).mono ?_
            rintro e w3 ⟨⟨r, rfl⟩, t3⟩
            have HT3 := Lib.hid t3
            clear t3
            go_wp2_with fail
            go_roundw
            case rel => exact ⟨j + 1, by go_num, by omega, HT3.out⟩
            case measure => simp [Go.RowKit.intOf]; omega
        · have hlt' : ¬ (j : Int) < l.length := by omega
          clear HL HW
          go_wp2_with fail
          refine (turn_pages HT2.out HM.out (by omega)).mono ?_
          rintro e w3 ⟨v7, ks, A, H, L, rfl, hq⟩
          obtain ⟨a7, c7, rfl⟩ := hq.ints.mk
          have HQ := Lib.hid hq
          have hkl := hq.len
          clear hq HT2
          go_wp2_with fail
          go_loopw [8] (fun v8 wx => ∃ i : Nat, v8 = .int .i64 i ∧ i ≤ ks.length ∧ Asked w g B a h wx A H (.slice a7 ks.length c7) ks L) (fun v8 _ => ks.length - (Go.RowKit.intOf v8).toNat)
          case atStart => exact ⟨0, rfl, by omega, HQ.out⟩
          case round =>
            obtain ⟨i, rfl, hi, hq2⟩ := hrel
            have HQ2 := Lib.hid hq2
            clear hq2 HQ
            by_cases hlt : i < ks.length
            · have hlt' : (i : Int) < ks.length := by omega
              obtain ⟨x, hx, -⟩ := lt_get hlt
              obtain ⟨b, off, rfl, hb, hc⟩ := Ints.at HQ2.out.ints hx
              obtain ⟨p, hA, hH, hp, hwx⟩ := HQ2.out.page HM.out hx
              have c1 := fun W (q : Asked w g B a h W A H (.slice (some ⟨b, off, none⟩) ks.length c7) ks L) => at_map q.st x hwx
              rw [hA] at c1
              have c2 := fun W (q : Asked w g B a h W A H (.slice (some ⟨b, off, none⟩) ks.length c7) ks L) => who_map q.st p hp
              rw [hH] at c2
              simp only [Option.getD_some, Option.isSome_some] at c1 c2
              have ho : i = 0 ∨ (0 < i ∧ ∃ y : Int, y < x ∧ ∀ W, Asked w g B a h W A H (.slice (some ⟨b, off, none⟩) ks.length c7) ks L → W.cell? ⟨b, off + (i - 1), none⟩ = some (.int .i64 y)) := by
                rcases Nat.eq_zero_or_pos i with h0 | h0
                · exact .inl h0
                · obtain ⟨y, hy, -⟩ := lt_get (l := ks) (i := i - 1) (by omega)
                  refine .inr ⟨h0, y, Asked.step HQ2.out.up (i := i - 1) (by rw [show i - 1 + 1 = i by omega]; exact hx) hy, fun W q => ?_⟩
                  obtain ⟨b', off', e', hb', k0⟩ := Ints.at q.ints hy
                  injection e' with e'
                  injection e' with e1 e2
                  subst e1 e2
                  exact k0
              clear hA hH
              have HX := Lib.hid (fun W (q : Asked w g B a h W A H (.slice (some ⟨b, off, none⟩) ks.length c7) ks L) => (show W.cell? ⟨b, off + i, none⟩ = some (.int .i64 x) from by
                obtain ⟨b', off', e', hb', k0⟩ := Ints.at q.ints hx
                injection e' with e'
                injection e' with e1 e2
                subst e1 e2
                exact k0))
              clear hx
              go_wp2_with fail
              refine (c1 _ HQ2.out).mono ?_
              rintro e w4 ⟨rfl, g4⟩
              have q5 := HQ2.out.more (g4.alloc (plO p.b p.p))
              have HQ5 := Lib.hid q5
              clear q5 c1
              go_wp2_with fail
              refine (c2 _ HQ5.out).mono ?_
              rintro e w5 ⟨rfl, g5⟩
              have HQ6 := Lib.hid (HQ5.out.more g5)
              have hx6 := HX.out _ HQ6.out
              have hxx : (x != x) = false := by simp
              clear c2 hc
              rcases ho with rfl | ⟨h0, y, hy, k0⟩
              · rw [Nat.add_zero] at hx6
                go_wp2_with fail
                go_quiet (fail)
                go_wp2_with fail
                go_roundw
                case rel => exact ⟨1, rfl, by omega, HQ6.out.more ((Grow.refl _).drewN _)⟩
                case measure => simp [Go.RowKit.intOf]; omega
              · have k6 := k0 _ HQ6.out
                have hd : decide (0 < i) = true := decide_eq_true (by omega)
                have hd' : decide ((0 : Int) < i) = true := decide_eq_true (by omega)
                have hi0 : IntKind.i64.wrap ((i : Int) - 1) = (i : Int) - 1 := IntWalk.i64_in _ (by omega)
                have hi1 : (0 : Int) ≤ (i : Int) - 1 := by omega
                have hi2 : (i : Int) - 1 < ks.length := by omega
                have hi3 : ((i : Int) - 1).toNat = i - 1 := by omega
                have hxy : decide (x ≤ y) = false := decide_eq_false (by omega)
                clear k0
                go_wp2_with fail
                go_quiet (fail)
                go_wp2_with fail
                clear hi0 hi1 hi2 hi3 hd hd' hxy
                go_roundw
                case rel => exact ⟨i + 1, by go_num, by omega, HQ6.out.more ((Grow.refl _).drewN _)⟩
                case measure => simp [Go.RowKit.intOf]; omega
            · have hlt' : ¬ (i : Int) < ks.length := by omega
              have hmb := mayG_bd HM.out
              obtain ⟨hb1, -⟩ := hmb
              have HZ := Lib.hid (show belowB L 0 = 0 from belowB_zero (fun p hp => (HQ2.out.ins p hp).2.1))
              go_wp2_with fail
              go_loopw [13, 14] (fun v13 v14 wx => ∃ b : Nat, v14 = .int .i64 b ∧ (b : Int) ≤ g.blocks ∧ v13 = .int .i64 (belowB L b : Nat) ∧ Asked w g B a h wx A H (.slice a7 ks.length c7) ks L) (fun _ v14 _ => g.blocks.toNat - (Go.RowKit.intOf v14).toNat)
              case atStart => exact ⟨0, rfl, by omega, by rw [show ((0 : Nat) : Int) = 0 from rfl, HZ.out]; rfl, HQ2.out⟩
              case round =>
                obtain ⟨b, rfl, hb, rfl, hq⟩ := hrel
                have HQ3 := Lib.hid hq
                obtain ⟨d0, d1, d2, d3, d4⟩ := geo5 hq.box
                clear hq HZ
                by_cases hbl : (b : Int) < g.blocks
                · have hs := belowB_succ L b
                  have hle : belowB L (b + 1) ≤ L.length := List.length_filter_le _ _
                  have hcn := HQ3.out.cnt
                  obtain ⟨n, hn⟩ : ∃ n : Nat, n = belowB L b := ⟨_, rfl⟩
                  obtain ⟨m, hm⟩ : ∃ m : Nat, m = inB L b := ⟨_, rfl⟩
                  have cl := HQ3.out.live b
                  rw [← hn, ← hm] at hs
                  rw [← hn]
                  rw [← hm] at cl
                  have HS := Lib.hid hs
                  have hnm : n + m ≤ 60 := by omega
                  clear hs hle hcn hn hm
                  go_wp2_with fail
                  refine cl.mono ?_
                  rintro e w5 ⟨rfl, g5⟩
                  clear cl
                  go_wp2_with fail
                  go_roundw
                  case rel => exact ⟨b + 1, by go_num, by omega, by rw [show ((b + 1 : Nat) : Int) = (b : Int) + 1 by omega, HS.out]; go_num, HQ3.out.more g5⟩
                  case measure => simp [Go.RowKit.intOf]; omega
                · have hbe : (b : Int) = g.blocks := by omega
                  have hnk : belowB L b = ks.length := by rw [hbe, belowB_all (fun p hp => (HQ3.out.ins p hp).2.2), HQ3.out.cnt]
                  rw [hnk]
                  have c0 := fun W (q : Asked w g B a h W A H (.slice a7 ks.length c7) ks L) => q.live (-1)
                  rw [inB_none (fun p hp => by have := (HQ3.out.ins p hp).2.1; omega)] at c0
                  have c1 := fun W (q : Asked w g B a h W A H (.slice a7 ks.length c7) ks L) => q.live g.blocks
                  rw [inB_none (fun p hp => by have := (HQ3.out.ins p hp).2.2; omega)] at c1
                  clear hbe hnk
                  go_wp2_with fail
                  refine (c0 _ HQ3.out).mono ?_
                  rintro e w5 ⟨rfl, g5⟩
                  have HQ4 := Lib.hid (HQ3.out.more g5)
                  obtain ⟨d0, d1, d2, d3, d4⟩ := geo5 HQ4.out.box
                  clear c0
                  go_wp2_with fail
                  refine (c1 _ HQ4.out).mono ?_
                  rintro e w6 ⟨rfl, g6⟩
                  clear c1
                  go_wp2_with fail
                  refine (cA _).mono ?_
                  rintro e w7 ⟨rfl, g7⟩
                  go_wp2_with fail
                  go_ret
                  exact ⟨rfl, (HQ4.out.grow.trans g6).trans g7⟩
    · have hlen' : ¬ (l.length : Int) ≤ 60 := by omega
      have cN := fun W => new_yes2 g W hm
      clear hm HL HW HBX
      go_enter Try.func8, Try.ntmps8
      go_wp2_with fail
      refine (cN _).mono ?_
      rintro e w2 ⟨B, a, h, rfl, hB, s2, g2⟩
      clear hB s2
      go_wp2_with fail
      refine (cA _).mono ?_
      rintro e w3 ⟨rfl, g3⟩
      go_wp2_with fail
      go_ret
      exact ⟨rfl, (((Grow.refl w).alloc _).trans g2).trans g3⟩
  · have hm' : mayG g = false := by simpa using hm
    have cN := fun W => new_no g W hm'
    clear hm hm' HL HW HBX
    go_enter Try.func8, Try.ntmps8
    go_wp2_with fail
    refine (cN _).mono ?_
    rintro e w2 ⟨rfl, g2⟩
    go_wp2_with fail
    refine (cA _).mono ?_
    rintro e w3 ⟨rfl, g3⟩
    go_wp2_with fail
    go_ret
    exact ⟨rfl, (((Grow.refl w).alloc _).trans g2).trans g3⟩
end Go.Proofs.Ytcfkpaijlibjaaa
