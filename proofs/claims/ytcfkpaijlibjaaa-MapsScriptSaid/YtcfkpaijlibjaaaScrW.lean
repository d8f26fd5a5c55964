/- The walk of the law MapsScript. -/
import Derived.Test.YtcfkpaijlibjaaaScrA
import Derived.Test.YtcfkpaijlibjaaaAwk
import Derived.Deep.DrawnRows
set_option linter.unusedVariables false
set_option linter.unusedSimpArgs false
namespace Go.Proofs.Ytcfkpaijlibjaaa
open Go.RowKit Go.Lib Go.Maps
attribute [local go_sem ↓] Go.wp_at_zero Go.wp_at_succ
set_option maxRecDepth 100000 in
set_option maxHeartbeats 8000000 in
theorem script13_walk (g : Geo) (v : Value) (l : List ActM) (w : World) (hg : WfGeo g) (hl : Acts w v l) (hw : ∀ x ∈ l, WfA x) :
    Calls Try.prog 9 #[geoV g, v] w fun e w' => e = .returned (.bool true) ∧ Grow w w' := by
  have cA := awake13_any
  clear hg
  obtain ⟨a0, c0, rfl⟩ := hl.mk
  have HL := Lib.hid hl
  have HW := Lib.hid hw
  clear hl hw
  have HBX := Lib.hid (heap_alloc_new w (geoO g))
  by_cases hlen : (80 : Int) < l.length
  · clear HL HW HBX
    go_enter Try.func9, Try.ntmps9
    go_wp2_with fail
    refine (cA _).mono ?_
    rintro e w3 ⟨rfl, g3⟩
    go_wp2_with fail
    go_ret
    exact ⟨rfl, ((Grow.refl w).alloc _).trans g3⟩
  have hl80 : l.length ≤ 80 := by omega
  have key : ∀ W, Grow (w.alloc (geoO g)) W → W.cell? ⟨w.heap.size, 0, none⟩ = some (.int .i64 g.blocks) ∧ W.cell? ⟨w.heap.size, 1, none⟩ = some (.int .i64 g.pages) ∧ W.cell? ⟨w.heap.size, 2, none⟩ = some (.int .i64 g.bytes) ∧ W.cell? ⟨w.heap.size, 3, none⟩ = some (.int .i64 g.spares) ∧ W.cell? ⟨w.heap.size, 4, none⟩ = some (.int .i64 g.trigger) := fun W gW => geo5 (gW.blk HBX.out)
  have HK := Lib.hid key
  clear key
  by_cases hm : mayG g = true
  · have HM := Lib.hid hm
    have cN := fun W => new_yes2 g W hm
    have cR := fun W => rnew_yes g W hm
    clear hm
    go_enter Try.func9, Try.ntmps9
    go_upto_region 3 with (fail)
    generalize hV : w.alloc (.cells #[.int .i64 g.blocks, .int .i64 g.pages, .int .i64 g.bytes, .int .i64 g.spares, .int .i64 g.trigger] 43) = V at *
    have gV : Grow w V := by rw [← hV]; exact (Grow.refl w).alloc _
    have s0 := HK.out _ (Grow.refl V).drew
    clear hV HBX
    go_region_held3 (fun w' => w'.cell? ⟨w.heap.size, 0, none⟩ = some (.int .i64 g.blocks) ∧ w'.cell? ⟨w.heap.size, 1, none⟩ = some (.int .i64 g.pages) ∧ w'.cell? ⟨w.heap.size, 2, none⟩ = some (.int .i64 g.bytes) ∧ w'.cell? ⟨w.heap.size, 3, none⟩ = some (.int .i64 g.spares) ∧ w'.cell? ⟨w.heap.size, 4, none⟩ = some (.int .i64 g.trigger))
      (with_reducible (first | exact s2 | exact s1 | exact s0))
      (first
        | (go_at_call 20; refine (cN _).mono ?_; rintro e w1 ⟨B, a, h, rfl, hB, m1, g1⟩; have gV1 := (Grow.refl V).drew.trans g1; have s1 := HK.out _ gV1)
        | (go_at_call 28; refine (cR _).mono ?_; rintro e w2 ⟨R, b, c, rfl, r2, g2⟩; have gV2 := gV1.trans g2; have s2 := HK.out _ gV2))
    have hsc : ScrI w g B a h R b c 0 w2 := by
      have hz := gV.size
      have hz2 := (Grow.refl V).drew.size
      have hz1 := gV1.size
      refine ⟨gV.trans gV2, ⟨by have := hB.1; omega, by have := hB.2.1; omega, by have := hB.2.2; omega⟩, noA, noH, m1.grow g2, r2.base_mono (by omega), Two.start g⟩
    have HS := Lib.hid hsc
    clear hsc hB m1 g1 gV1 s0 s1 s2 r2 g2 gV2 gV cN cR HK
    go_wp2_with fail
    go_loopw [7] (fun v7 wx => ∃ j : Nat, v7 = .int .i64 j ∧ j ≤ l.length ∧ ScrI w g B a h R b c j wx) (fun v7 _ => l.length - (Go.RowKit.intOf v7).toNat)
    case atStart => exact ⟨0, rfl, by omega, HS.out⟩
    case round =>
      obtain ⟨j, rfl, hj, hs⟩ := hrel
      have HS2 := Lib.hid hs
      clear hs HS
      by_cases hlt : j < l.length
      · have hlt' : (j : Int) < l.length := by omega
        obtain ⟨x, hx, -⟩ := lt_get hlt
        obtain ⟨b', off, rfl, hb, p0, p1, p2, p3⟩ := (HL.out.grow HS2.out.1).at hx
        have HX := Lib.hid (HW.out x (List.mem_of_getElem? hx))
        clear hx
        go_upto_region 12 with (fail)
        generalize hV : wr.alloc (.cells #[.int .i64 x.d, .int .i64 x.x, .int .i64 x.b, .int .i64 x.p] 48) = V
        have gV : Grow wr V := by rw [← hV]; exact (Grow.refl wr).alloc _
        have HBX : Hid (V.heap[wr.heap.size]? = some (actO x)) := by rw [← hV]; exact Lib.hid (heap_alloc_new wr (actO x))
        have hsV := HS2.out.grow gV
        clear hV gV HS2 p0 p1 p2 p3 hb
        obtain ⟨gw, hlow, A, H, hmst, hrst, htwo⟩ := hsV
        have cC := copy_map hmst
        have HXS := Lib.hid (show wr.heap.size < V.heap.size from (Array.getElem?_eq_some_iff.1 HBX.out).1)
        have HB := Lib.hid (show Both w g B a h R b c V j A H from ⟨gw, hmst, hrst, htwo⟩)
        have HLOW := Lib.hid hlow
        clear gw hlow hmst hrst htwo
        generalize wr.heap.size = X at *
        go_wp2_with fail
        refine cC.mono ?_
        rintro e w1 ⟨B', a', h', rfl, hB', m', g1⟩
        have hbx1 := g1.blk HBX.out
        obtain ⟨q0, q1, q2, q3⟩ := box4 hbx1
        have HBX1 := Lib.hid hbx1
        have cD := drop_map m' x.x HX.out.2.1 (fun p hp => (HB.out.two.inside HM.out hp).1)
        have hsz : V.heap.size ≤ B' ∧ V.heap.size ≤ a' ∧ V.heap.size ≤ h' := hB'
        have HSZ := Lib.hid hsz
        clear cC hB' m' hsz hbx1
        go_wp2_with fail
        refine cD.mono ?_
        rintro e w2 ⟨rfl, t2, -⟩
        have g2 : Grow V w2 := t2.grow g1 HSZ.out.2.1 HSZ.out.2.2
        have hb2 := HB.out.more g2
        have HB2 := Lib.hid hb2
        have HBX2 := Lib.hid (g2.blk HBX.out)
        have hX2 : X < w2.heap.size := Nat.lt_of_lt_of_le HXS.out g2.size
        obtain ⟨q0, q1, q2, q3⟩ := box4 (g2.blk HBX.out)
        clear cD t2 g1 g2 HB HBX HBX1 HSZ HXS hb2
        have HMD := Lib.hid (show Mid w g B a h R b c X x w2 j A H A H from ⟨HB2.out.grow, HLOW.out, HB2.out.st, HB2.out.ref, HB2.out.two, HBX2.out⟩)
        clear HB2 HBX2 HLOW
        go_upto_block 2 with (fail)
        have s0 := (HMD.out.more (Grow.refl w2).drew).cells
        go_cut [10] (fun v10 wx => v10 = .bool true ∧ ∃ A H, Mid w g B a h R b c X x wx (j + 1) A H A H)
        case first =>
          have hj80 : j ≤ 80 := by omega
          by_cases hd : x.d = 0
          · have hd' : (x.d == 0) = true := by rw [hd]; simp
            have cF := put_first (HMD.out.more (Grow.refl w2).drew) HM.out HX.out (by omega)
            have cS := fun W (s : Mid w g B a h R b c X x W (j + 1) A H (newA g A H x) (newH g A H x)) => put_second s HM.out
            clear hd hX2
            generalize putOk g H x.x ⟨x.b, x.p⟩ = ok at *
            go_wp2_with fail
            go_region_held3 (fun w' => w'.cell? ⟨X, 0, none⟩ = some (.int .i64 x.d) ∧ w'.cell? ⟨X, 1, none⟩ = some (.int .i64 x.x) ∧ w'.cell? ⟨X, 2, none⟩ = some (.int .i64 x.b) ∧ w'.cell? ⟨X, 3, none⟩ = some (.int .i64 x.p))
              (with_reducible (first | exact s2 | exact s1 | exact s0))
              (first
                | (go_at_call 23; refine cF.mono ?_; rintro e w3 ⟨rfl, md3⟩; have s1 := md3.cells)
                | (go_at_call 30; refine (cS _ md3).mono ?_; rintro e w4 ⟨rfl, md4⟩; have s2 := md4.cells))
            go_wp2_with fail
            go_meet
            exact ⟨by cases ok <;> rfl, _, _, md4⟩
          · have hd' : (x.d == 0) = false := by rw [beq_eq_false_iff_ne]; exact hd
            by_cases he : x.d = 1
            · have he' : (x.d == 1) = true := by rw [he]; simp
              have cF := drop_first (HMD.out.more (Grow.refl w2).drew) HM.out HX.out
              have cS := fun W (s : Mid w g B a h R b c X x W j A H (dropA A x.x) (dropH A H x.x)) => drop_second s HM.out
              clear hd he hX2
              generalize (A x.x).isSome = ok at *
              go_wp2_with fail
              go_region_held3 (fun w' => w'.cell? ⟨X, 0, none⟩ = some (.int .i64 x.d) ∧ w'.cell? ⟨X, 1, none⟩ = some (.int .i64 x.x) ∧ w'.cell? ⟨X, 2, none⟩ = some (.int .i64 x.b) ∧ w'.cell? ⟨X, 3, none⟩ = some (.int .i64 x.p))
                (with_reducible (first | exact s2 | exact s1 | exact s0))
                (first
                  | (go_at_call 22; refine cF.mono ?_; rintro e w3 ⟨rfl, md3⟩; have s1 := md3.cells)
                  | (go_at_call 31; refine (cS _ md3).mono ?_; rintro e w4 ⟨rfl, md4⟩; have s2 := md4.cells))
              go_wp2_with fail
              go_meet
              exact ⟨by cases ok <;> rfl, _, _, md4.up (by omega)⟩
            · have he' : (x.d == 1) = false := by rw [beq_eq_false_iff_ne]; exact he
              clear hd he hX2
              go_wp2_with fail
              go_meet
              exact ⟨rfl, _, _, HMD.out.up (by omega)⟩
        case rest =>
          obtain ⟨rfl, A, H, md⟩ := hcut
          have hj80 : j + 1 ≤ 81 := by omega
          have cAt := at_map md.st x.x HX.out.2.1
          have cPl := fun W (s : Mid w g B a h R b c X x W (j + 1) A H A H) => rplace_any s.ref s.two HM.out x.x
          have cWh := fun W (s : Mid w g B a h R b c X x W (j + 1) A H A H) => who_map s.st ⟨x.b, x.p⟩ ⟨HX.out.2.2.1, HX.out.2.2.2⟩
          have cRw := fun W (s : Mid w g B a h R b c X x W (j + 1) A H A H) => rwho_any s.ref s.two HM.out ⟨x.b, x.p⟩
          have cPg := fun W (s : Mid w g B a h R b c X x W (j + 1) A H A H) => s.both.pages HM.out (by omega)
          have cRp := fun W (s : Mid w g B a h R b c X x W (j + 1) A H A H) => rpages_any s.ref s.two HM.out
          have cLv := fun W (s : Mid w g B a h R b c X x W (j + 1) A H A H) => s.both.live HM.out (by omega) x.b
          have cRl := fun W (s : Mid w g B a h R b c X x W (j + 1) A H A H) => rlive_any s.ref s.two HM.out x.b
          have HLn := Lib.hid (show (pagesTo A (logN g)).length ≤ 1000 from by have := pagesTo_le A (logN g); have := (logN_bd HM.out).2.1; omega)
          unfold RetPg at cPg
          unfold RetInts at cRp
          generalize pagesTo A (logN g) = L at *
          generalize cntB A x.b (logN g) = cn at *
          generalize (A x.x).getD ⟨0, 0⟩ = pv at *
          generalize (A x.x).isSome = pis at *
          generalize (H ⟨x.b, x.p⟩).getD 0 = hv at *
          generalize (H ⟨x.b, x.p⟩).isSome = his at *
          have HMD5 := Lib.hid md
          obtain ⟨q0, q1, q2, q3⟩ := md.cells
          clear md HMD s0 hX2
          go_wp2_with fail
          refine cAt.mono ?_
          rintro e w5 ⟨rfl, g5⟩
          have g5' := g5.alloc (plO pv.b pv.p)
          have md6 := HMD5.out.more g5'
          have HP6 := Lib.hid (heap_alloc_new w5 (plO pv.b pv.p))
          have HMD6 := Lib.hid md6
          obtain ⟨q0, q1, q2, q3⟩ := md6.cells
          clear cAt g5 g5' md6 HMD5
          go_wp2_with fail
          refine (cPl _ HMD6.out).mono ?_
          rintro e w6 ⟨rfl, g6⟩
          have g6' := g6.alloc (plO pv.b pv.p)
          have md7 := HMD6.out.more g6'
          have HP7 := Lib.hid (g6'.blk HP6.out)
          have HQ7 := Lib.hid (heap_alloc_new w6 (plO pv.b pv.p))
          have HMD7 := Lib.hid md7
          obtain ⟨q0, q1, q2, q3⟩ := md7.cells
          clear cPl g6 g6' md7 HMD6 HP6
          go_wp2_with fail
          refine (cWh _ HMD7.out).mono ?_
          rintro e w7 ⟨rfl, g7⟩
          have md8 := HMD7.out.more g7
          have HP8 := Lib.hid (g7.blk HP7.out)
          have HQ8 := Lib.hid (g7.blk HQ7.out)
          have HMD8 := Lib.hid md8
          obtain ⟨q0, q1, q2, q3⟩ := md8.cells
          clear cWh g7 md8 HMD7 HP7 HQ7
          go_wp2_with fail
          refine (cRw _ HMD8.out).mono ?_
          rintro e w8 ⟨rfl, g8⟩
          have md9 := HMD8.out.more g8
          have HP9 := Lib.hid (g8.blk HP8.out)
          have HQ9 := Lib.hid (g8.blk HQ8.out)
          have HMD9 := Lib.hid md9
          clear cRw g8 md9 HMD8 HP8 HQ8
          go_wp2_with fail
          refine (cPg _ HMD9.out).mono ?_
          rintro e w9 ⟨v9, rfl, o9⟩
          have g9 := o9.grow
          have HO9 := Lib.hid o9
          have HI9 := Lib.hid (own_ints o9)
          obtain ⟨a9, n9, c9, rfl⟩ := own_slice o9.row
          have HMD := Lib.hid (HMD9.out.more g9)
          have HP := Lib.hid (g9.blk HP9.out)
          have HQ := Lib.hid (g9.blk HQ9.out)
          clear cPg g9 o9 HP9 HQ9 q0 q1 q2 q3
          have hPn : w5.heap.size < w9.heap.size := (Array.getElem?_eq_some_iff.1 HP.out).1
          have hQn : w6.heap.size < w9.heap.size := (Array.getElem?_eq_some_iff.1 HQ.out).1
          generalize w5.heap.size = P5 at *
          generalize w6.heap.size = P6 at *
          have key : ∀ W, Grow w9 W → W.cell? ⟨X, 0, none⟩ = some (.int .i64 x.d) ∧ W.cell? ⟨X, 1, none⟩ = some (.int .i64 x.x) ∧ W.cell? ⟨X, 2, none⟩ = some (.int .i64 x.b) ∧ W.cell? ⟨X, 3, none⟩ = some (.int .i64 x.p) ∧ W.cell? ⟨P5, 0, none⟩ = some (.int .i64 pv.b) ∧ W.cell? ⟨P5, 1, none⟩ = some (.int .i64 pv.p) ∧ W.cell? ⟨P6, 0, none⟩ = some (.int .i64 pv.b) ∧ W.cell? ⟨P6, 1, none⟩ = some (.int .i64 pv.p) := fun W gW => by
            obtain ⟨x0, x1, x2, x3⟩ := (HMD.out.more gW).cells
            obtain ⟨y0, y1⟩ := box2 (gW.blk HP.out)
            obtain ⟨z0, z1⟩ := box2 (gW.blk HQ.out)
            exact ⟨x0, x1, x2, x3, y0, y1, z0, z1⟩
          have HK := Lib.hid key
          have s0 := key _ (Grow.refl w9).drew
          have heq : ∀ W : World, (Op.equalIn 10000 28 (.agg #[.int .i64 pv.b, .int .i64 pv.p]) (.agg #[.int .i64 pv.b, .int .i64 pv.p])).run Try.prog W = .ok true W := fun W => by rw [eqPlace pv.b pv.p pv.b pv.p 9998 W]; simp
          clear key hPn hQn
          go_wp2_with fail
          go_region_held3 (fun w' => w'.cell? ⟨X, 0, none⟩ = some (.int .i64 x.d) ∧ w'.cell? ⟨X, 1, none⟩ = some (.int .i64 x.x) ∧ w'.cell? ⟨X, 2, none⟩ = some (.int .i64 x.b) ∧ w'.cell? ⟨X, 3, none⟩ = some (.int .i64 x.p) ∧ w'.cell? ⟨P5, 0, none⟩ = some (.int .i64 pv.b) ∧ w'.cell? ⟨P5, 1, none⟩ = some (.int .i64 pv.p) ∧ w'.cell? ⟨P6, 0, none⟩ = some (.int .i64 pv.b) ∧ w'.cell? ⟨P6, 1, none⟩ = some (.int .i64 pv.p))
            (with_reducible (first | exact s4 | exact s3 | exact s2 | exact s1 | exact s0))
            (first
              | (go_at_call 27; refine (cLv _ (HMD.out.more (Grow.refl w9).drew)).mono ?_; rintro e w10 ⟨rfl, g10⟩; have G10 := (Grow.refl w9).drew.trans g10; have s1 := HK.out _ G10)
              | (go_at_call 34; refine (cRl _ (HMD.out.more G10)).mono ?_; rintro e w11 ⟨rfl, g11⟩; have G11 := G10.trans g11; have s2 := HK.out _ G11)
              | (go_at_call 36; refine (cRp _ (HMD.out.more G11)).mono ?_; rintro e w12 ⟨v12, rfl, o12⟩; have G12 := G11.trans o12.grow; have s3 := HK.out _ G12)
              | (go_at_call 35; refine (sameInts_any _ _ L L _ (Ints.grow HI9.out G12) (own_ints o12) (by have := HLn.out; omega)).mono ?_; rw [same_yes rfl]; rintro e w13 ⟨rfl, g13⟩; have G13 := G12.trans g13; have s4 := HK.out _ G13))
          have HO13 := Lib.hid (HO9.out.grow' G13)
          clear s0 s1 s2 s3 s4 g10 G10 g11 G11 o12 G12 g13 cRp cLv cRl heq HK HI9 HP HQ HMD HO9
          go_wp2_with fail
          refine (overInts_any _ _ _ _ w13 HO13.out.row (by have := HLn.out; omega) HO13.out.grow.size).mono ?_
          rintro e w14 ⟨rfl, g14⟩
          have gF : Grow w8 w14 := Below.grown HO13.out.grow g14 HO13.out.grow.size (fun k hk => (HO13.out.row.lt k hk).1)
          have md14 := HMD9.out.more gF
          have HS14 := Lib.hid (show ScrI w g B a h R b c (j + 1) w14 from ⟨md14.grow, md14.low, A, H, md14.st, md14.ref, md14.two⟩)
          clear g14 gF md14 HO13 HMD9 G13
          go_wp2_with fail
          go_roundw
          case rel => exact ⟨j + 1, by go_num, by omega, HS14.out⟩
          case measure => simp [Go.RowKit.intOf]; omega
      · have hlt' : ¬ (j : Int) < l.length := by omega
        obtain ⟨gw, hlow, A, H, hmst, hrst, htwo⟩ := HS2.out
        have cC := copy_map hmst
        have HB := Lib.hid (show Both w g B a h R b c wr j A H from ⟨gw, hmst, hrst, htwo⟩)
        have HLn := Lib.hid (show (pagesTo A (logN g)).length ≤ 1000 from by have := pagesTo_le A (logN g); have := (logN_bd HM.out).2.1; omega)
        clear gw hlow hmst hrst htwo HS2 HL HW
        go_wp2_with fail
        refine cC.mono ?_
        rintro e w1 ⟨B', a', h', rfl, -, m', g1⟩
        have hb1 := HB.out.more g1
        have HB1 := Lib.hid hb1
        have HC1 := Lib.hid (show Both w g B' a' h' R b c w1 j A H from ⟨hb1.grow, m', hb1.ref, hb1.two⟩)
        clear cC m' hb1 HB
        have cP1 := HC1.out.pages HM.out (by omega)
        have cRp := fun W (s : Both w g B a h R b c W j A H) => rpages_any s.ref s.two HM.out
        have cPg := fun W (s : Both w g B a h R b c W j A H) => s.pages HM.out (by omega)
        unfold RetPg at cP1 cPg
        unfold RetInts at cRp
        generalize pagesTo A (logN g) = L at *
        clear g1
        go_wp2_with fail
        refine cP1.mono ?_
        rintro e w2 ⟨v2, rfl, o2⟩
        have HI2 := Lib.hid (own_ints o2)
        have HB2 := Lib.hid (HB1.out.more o2.grow)
        clear cP1 o2 HB1 HC1
        go_wp2_with fail
        refine (cRp _ HB2.out).mono ?_
        rintro e w3 ⟨v3, rfl, o3⟩
        have HI3 := Lib.hid (own_ints o3)
        have HI2' := Lib.hid (Ints.grow HI2.out o3.grow)
        have HB3 := Lib.hid (HB2.out.more o3.grow)
        clear o3 HI2 HB2
        go_wp2_with fail
        refine (sameInts_any _ _ L L _ HI2'.out HI3.out (by have := HLn.out; omega)).mono ?_
        rw [same_yes rfl]
        rintro e w4 ⟨rfl, g4⟩
        have HB4 := Lib.hid (HB3.out.more g4)
        clear g4 HI2' HI3 HB3
        go_wp2_with fail
        refine (cPg _ HB4.out).mono ?_
        rintro e w5 ⟨v5, rfl, o5⟩
        have HI5 := Lib.hid (own_ints o5)
        have HB5 := Lib.hid (HB4.out.more o5.grow)
        clear o5 HB4 cPg
        go_wp2_with fail
        refine (cRp _ HB5.out).mono ?_
        rintro e w6 ⟨v6, rfl, o6⟩
        have HI6 := Lib.hid (own_ints o6)
        have HI5' := Lib.hid (Ints.grow HI5.out o6.grow)
        have HB6 := Lib.hid (HB5.out.more o6.grow)
        clear o6 HI5 HB5 cRp
        go_wp2_with fail
        refine (sameInts_any _ _ L L _ HI5'.out HI6.out (by have := HLn.out; omega)).mono ?_
        rw [same_yes rfl]
        rintro e w7 ⟨rfl, g7⟩
        have HB7 := Lib.hid (HB6.out.more g7)
        clear g7 HI5' HI6 HB6
        go_wp2_with fail
        refine (cA _).mono ?_
        rintro e w8 ⟨rfl, g8⟩
        go_wp2_with fail
        go_ret
        exact ⟨rfl, HB7.out.grow.trans g8⟩
  · have hm' : mayG g = false := by simpa using hm
    have cN := fun W => new_no g W hm'
    have cR := fun W => rnew_no g W hm'
    clear hm hm' HL HW
    go_enter Try.func9, Try.ntmps9
    go_upto_region 3 with (fail)
    generalize hV : w.alloc (.cells #[.int .i64 g.blocks, .int .i64 g.pages, .int .i64 g.bytes, .int .i64 g.spares, .int .i64 g.trigger] 43) = V at *
    have gV : Grow w V := by rw [← hV]; exact (Grow.refl w).alloc _
    have s0 := HK.out _ (Grow.refl V).drew
    clear hV HBX
    go_region_held3 (fun w' => w'.cell? ⟨w.heap.size, 0, none⟩ = some (.int .i64 g.blocks) ∧ w'.cell? ⟨w.heap.size, 1, none⟩ = some (.int .i64 g.pages) ∧ w'.cell? ⟨w.heap.size, 2, none⟩ = some (.int .i64 g.bytes) ∧ w'.cell? ⟨w.heap.size, 3, none⟩ = some (.int .i64 g.spares) ∧ w'.cell? ⟨w.heap.size, 4, none⟩ = some (.int .i64 g.trigger))
      (with_reducible (first | exact s2 | exact s1 | exact s0))
      (first
        | (go_at_call 20; refine (cN _).mono ?_; rintro e w1 ⟨rfl, g1⟩; have gV1 := (Grow.refl V).drew.trans g1; have s1 := HK.out _ gV1)
        | (go_at_call 28; refine (cR _).mono ?_; rintro e w2 ⟨rfl, g2⟩; have gV2 := gV1.trans g2; have s2 := HK.out _ gV2))
    clear s0 s1 s2 HK cN cR g1 gV1 g2
    go_wp2_with fail
    refine (cA _).mono ?_
    rintro e w3 ⟨rfl, g3⟩
    go_wp2_with fail
    go_ret
    exact ⟨rfl, (gV.trans gV2).trans g3⟩
end Go.Proofs.Ytcfkpaijlibjaaa
