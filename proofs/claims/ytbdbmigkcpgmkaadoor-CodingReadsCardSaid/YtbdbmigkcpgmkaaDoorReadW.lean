/- The walk of coding.Read, of any bytes. -/
import Derived.Test.YtbdbmigkcpgmkaaDoorReadI
import Derived.Test.YtbdbmigkcpgmkaaDoorApp
import Derived.Deep.RegionLaw
import Derived.Deep.LoopGhost
set_option linter.unusedVariables false
set_option linter.unusedSimpArgs false
namespace Go.Proofs.YtbdbmigkcpgmkaaDoor
open Go.RowKit Go.Lib
set_option maxRecDepth 100000 in
set_option maxHeartbeats 8000000 in
theorem read_any (v0 : Value) (l0 : List UInt8) (w : World) (h : Bytes w v0 l0) (hl : l0.length ≤ 1000000) (hT : Tabs w) :
    Calls Tryd.prog 31 #[v0] w (RetRead l0 w) := by
  have HV := Lib.hid h
  obtain ⟨a, c, rfl⟩ := h.mk
  obtain ⟨ib, hib, hbz0, hbz1, hbz2⟩ := info_parts info_book
  obtain ⟨it, hit, htz0, htz1, htz2⟩ := info_parts info_note
  obtain ⟨is, his, hsz0, hsz1, hsz2⟩ := info_parts info_text
  obtain ⟨ii, hii, hiz0, hiz1, hiz2⟩ := info_parts info_int
  have HT := Lib.hid hT
  clear h hT
  go_enter Tryd.func31, Tryd.ntmps31
  go_wp2_with fail
  refine wp_scope_two 1 2 (I1 (.slice a l0.length c) l0 w) (I2 (.slice a l0.length c) l0 w) ?h2 ?h1 ?first
  case h2 =>
    rintro m act wa ⟨D, r, S, u, rfl, HP⟩
    obtain ⟨l, bad, bv, nv, X, Y, hs, hr, hY, hX, hfB, hfN⟩ := HP
    refine Exists.intro _ (And.intro rfl ?_)
    have HR := Lib.hid hr
    have HS := Lib.hid hs
    have HFB := Lib.hid hfB
    have HFN := Lib.hid hfN
    have HYY := Lib.hid hY
    have HXX := Lib.hid hX
    clear hr hs hfB hfN hY hX
    have hcb : wa.cell? ⟨r, 1, none⟩ = some (.bool bad) := HS.out.rd.cell
    cases bad with
    | true =>
      --[A
      have HN := Lib.hid (show readR l0 = none by rw [HR.out]; rfl)
      obtain ⟨⟨e0, e1, e2, e3, e4⟩, f0, f1, f2, f3, f4⟩ := HS.out.res5
      have hlow := HS.out.low.1
      have hgw := HS.out.rd.grow
      go_wp2_with fail
      go_step3
      refine Or.inr (Or.inr ?_)
      refine Exists.intro _ (And.intro rfl ?_)
      go_wp2_with fail
      (try simp only [Exit.inBlock, Exit.then])
      refine bodyPost_ret (v := .tuple #[.agg #[.int .i64 0, .int .i64 0, .int .i64 0, .slice none 0 0, .slice none 0 0], .int .i64 5]) ?_ rfl ?_
      · rw [results_cell_tmp rfl]
        go_simp
      · exact ret_wrong HN.out (by repeat' (first | exact hgw | refine Grow.set ?_ (by simp; omega) _))
      --]A
    | false =>
      cases m with
      | zero =>
        --[B
        have HR0 := Lib.hid (show readR l0 = endR (numV l0 3) (numV (h1L l0) 3) (numV (h2L l0) 3) X l (Y.map NV.n) by rw [HR.out]; rfl)
        obtain ⟨⟨e0, e1, e2, e3, e4⟩, f0, f1, f2, f3, f4⟩ := HS.out.res5
        have hlow := HS.out.low.1
        have hgw := HS.out.rd.grow
        obtain ⟨rv, hbx, hrv⟩ := HS.out.rd.box
        obtain ⟨ra, rc, rfl⟩ := hrv.mk
        have hc0 : wa.cell? ⟨r, 0, none⟩ = some (.slice ra l.length rc) := (cell_of_row wa r 0 _ _ _ hbx).trans rfl
        clear hbx hrv
        go_wp2_with fail
        go_step3
        refine Or.inr (Or.inr ?_)
        refine Exists.intro _ (And.intro rfl ?_)
        by_cases hl0 : l.length = 0
        · have hle : l = [] := List.eq_nil_of_length_eq_zero hl0
          subst hle
          have hr5 := HS.out.own.reads
          have htame : TameS ⟨numV l0 3, numV (h1L l0) 3, numV (h2L l0) 3, X, Y.map NV.n⟩ := fit_tame HXX.out (by rw [List.length_map]; have := HYY.out; omega) HFB.out (fun n hn => by
            obtain ⟨y, hy, rfl⟩ := List.mem_map.1 hn
            exact HFN.out y hy)
          have cM := mayS_any ⟨numV l0 3, numV (h1L l0) 3, numV (h2L l0) 3, X, Y.map NV.n⟩ bv nv wa ⟨hr5.1, hr5.2⟩ htame (HT.out.below hgw)
          have HM := Lib.hid (show readR l0 = if mayS ⟨numV l0 3, numV (h1L l0) 3, numV (h2L l0) 3, X, Y.map NV.n⟩ then some ⟨numV l0 3, numV (h1L l0) 3, numV (h2L l0) 3, X, Y.map NV.n⟩ else none by rw [HR0.out]; unfold endR; simp)
          obtain ⟨b0, b1, b2, b3, b4⟩ := HS.out.five
          obtain ⟨xa, xc, hxv, -⟩ := HS.out.own.books.slice
          obtain ⟨ya, yc, hyv, -⟩ := HS.out.own.notes.slice
          subst hxv hyv
          unfold shelfV at cM
          clear hr5 htame hl0
          cases hm : mayS ⟨numV l0 3, numV (h1L l0) 3, numV (h2L l0) 3, X, Y.map NV.n⟩ with
          | true =>
            have HN := Lib.hid (show readR l0 = some ⟨numV l0 3, numV (h1L l0) 3, numV (h2L l0) 3, X, Y.map NV.n⟩ by rw [HM.out, hm]; rfl)
            rw [hm] at cM
            clear hm HM
            go_wp2_with fail
            refine cM.mono ?_
            rintro e w1 ⟨rfl, g1⟩
            have HS1 := Lib.hid (HS.out.grow g1)
            have hgw1 := HS1.out.rd.grow
            obtain ⟨⟨e0, e1, e2, e3, e4⟩, f0, f1, f2, f3, f4⟩ := HS1.out.res5
            obtain ⟨b0, b1, b2, b3, b4⟩ := HS1.out.five
            clear cM
            have HOD := Lib.hid (show OwnD w.heap.size (.slice xa X.length xc) (.slice ya Y.length yc) X Y w D w1 from ⟨hgw1, HS1.out.own, _, HS1.out.res⟩)
            go_wp2_with fail
            rw [Exit.jumps_ret]
            (try simp +zetaDelta only [])
            refine bodyPost_ret (v := .tuple #[.agg #[.int .i64 (numV l0 3 : Nat), .int .i64 (numV (h1L l0) 3 : Nat), .int .i64 (numV (h2L l0) 3 : Nat), .slice xa X.length xc, .slice ya Y.length yc], .int .i64 0]) ?_ rfl ?_
            · rw [results_cell_tmp rfl]
              go_simp
            · have hfin : ∀ W', OwnD w.heap.size (.slice xa X.length xc) (.slice ya Y.length yc) X Y w D W' → RetRead l0 w (.returned (.tuple #[.agg #[.int .i64 (numV l0 3 : Nat), .int .i64 (numV (h1L l0) 3 : Nat), .int .i64 (numV (h2L l0) 3 : Nat), .slice xa X.length xc, .slice ya Y.length yc], .int .i64 0])) W' := fun W' hW => by
                refine ⟨hW.1, ?_⟩
                rw [HN.out]
                exact ⟨_, _, Y, rfl, hW.2.1, rfl⟩
              refine hfin _ ?_
              repeat' (first | exact HOD.out | refine OwnD.set ?_ hlow _ _)
          | false =>
            have HN := Lib.hid (show readR l0 = none by rw [HM.out, hm]; rfl)
            rw [hm] at cM
            clear hm HM
            go_wp2_with fail
            refine cM.mono ?_
            rintro e w1 ⟨rfl, g1⟩
            have hgw := hgw.trans g1
            obtain ⟨⟨e0, e1, e2, e3, e4⟩, f0, f1, f2, f3, f4⟩ := (HS.out.grow g1).res5
            clear cM b0 b1 b2 b3 b4
            go_wp2_with fail
            go_step3
            go_wp2_with fail
            (try simp only [Exit.inBlock, Exit.then])
            refine bodyPost_ret (v := .tuple #[.agg #[.int .i64 0, .int .i64 0, .int .i64 0, .slice none 0 0, .slice none 0 0], .int .i64 5]) ?_ rfl ?_
            · rw [results_cell_tmp rfl]
              go_simp
            · exact ret_wrong HN.out (by repeat' (first | exact hgw | refine Grow.set ?_ (by simp; omega) _))
        · have HN := Lib.hid (show readR l0 = none by
            rw [HR0.out]; unfold endR
            cases l with
            | nil => exact absurd rfl hl0
            | cons x l => rfl)
          have hl1 : ((l.length : Int) == 0) = false := by rw [beq_eq_false_iff_ne]; omega
          clear hl0
          go_wp2_with fail
          go_step3
          go_wp2_with fail
          (try simp only [Exit.inBlock, Exit.then])
          refine bodyPost_ret (v := .tuple #[.agg #[.int .i64 0, .int .i64 0, .int .i64 0, .slice none 0 0, .slice none 0 0], .int .i64 5]) ?_ rfl ?_
          · rw [results_cell_tmp rfl]
            go_simp
          · exact ret_wrong HN.out (by repeat' (first | exact hgw | refine Grow.set ?_ (by simp; omega) _))
        --]B
      | succ m =>
        have hm0 : (((m + 1 : Nat) : Int) == 0) = false := by rw [beq_eq_false_iff_ne]; omega
        have hm255 : m ≤ 255 := by have := HYY.out; omega
        have hY255 : Y.length ≤ 255 := by have := HYY.out; omega
        obtain ⟨na, nc, hnv, -⟩ := HS.out.own.notes.slice
        subst hnv
        have HN := Lib.hid (show ∀ bad, bad = hdO l false → readR l0 = (if numO (hdL l) 1 bad then none else tagsR (numV (hdL l) 1) (numL (hdL l) 1) [] (ctags m (hdN l) (Y.map NV.n) (endR (numV l0 3) (numV (h1L l0) 3) (numV (h2L l0) 3) X))) from fun bad hb => by rw [HR.out, hb]; exact notesR_succ _ _ _ _)
        clear HR
        go_upto_region 12 with (fail)
        have hsd := HS.out.grow (Grow.refl wa).drew
        have b0 := hsd.five.2.2.2.2
        have lt0 := hsd.lt
        have c1 := hsd.num 3 (by decide)
        clear hsd hcb hm0
        go_cut [4] (fun v4 wx => v4 = .pointer (some ⟨r, 0, none⟩) ∧ ∃ nb nc, RS w D r S (numV l0 3) (numV (h1L l0) 3) (numV (h2L l0) 3) (hdL l) (hdO l false) bv (.slice (some ⟨nb, 0, none⟩) (Y.length + 1) nc) X (Y ++ [⟨hdN l, .slice none 0 0, .slice none 0 0⟩]) wx)
        case first =>
          --[C
          have tok1 : True := trivial
          have tok2 : True := trivial
          go_region_law ((first
            | (go_simp; go_at_call 46; have _t := tok1; refine c1.mono ?_; rintro e w1 ⟨rfl, hs1⟩; have b1 := hs1.five.2.2.2.2; have lt1 := hs1.lt; have c2 := hs1.num 3 (by decide); clear hs1 tok1)
            | (go_simp; go_at_call 46; have _t := tok2; refine c2.mono ?_; rintro e w2 ⟨rfl, hs2⟩; have b2 := hs2.five.2.2.2.2; have lt2 := hs2.lt; have c3 := hs2.text; clear hs2 tok2)
            | (go_simp; go_at_call 47; refine c3.mono ?_; rintro e w3 ⟨rfl, hs3⟩; have b3 := hs3.five.2.2.2.2; have lt3 := hs3.lt; have HS3 := Lib.hid hs3; clear hs3)
            | (refine step_R (by rfl) _ _ 34 (by rfl) 60 it _ 5 80 Tryd.underlying34 hit htz0 htz1 htz2 (by rfl) (by decide) (.slice na Y.length nc) Y.length (Y.flatMap noteC) (by rfl) w3 HS3.out.own.notes HS3.out.rd.grow.size [.int .i64 (numV l 3 : Nat), .int .i64 (numV (numL l 3) 3 : Nat), .string (txV (numL (numL l 3) 3)), .slice none 0 0, .slice none 0 0] rfl ?_ (by rfl) ?_ (by decide) ?_; (intro u hu; simp at hu; rcases hu with rfl | rfl | rfl | rfl | rfl <;> rfl); (have := HYY.out; omega); intro v' w4 ra; obtain ⟨va, vc, e3, -⟩ := ra.1.slice; subst e3; obtain ⟨k3, f3, hs4⟩ := HS3.out.note (x := ⟨hdN l, .slice none 0 0, .slice none 0 0⟩) ⟨rfl, rfl⟩ ⟨rfl, rfl⟩ ra; have HS4 := Lib.hid hs4; clear hs4 ra)))
          all_goals
            go_wp2_with fail
            go_meet
            obtain ⟨nb, nc', e4, -⟩ := HS4.out.own.note (i := Y.length) (y := ⟨hdN l, .slice none 0 0, .slice none 0 0⟩) (by simp)
            injection e4 with q1 q2 q3
            subst q1 q3
            exact ⟨rfl, nb, vc, HS4.out⟩
          --]C
        case rest =>
          obtain ⟨rfl, nb, nc', hs4⟩ := hcut
          have HS4 := Lib.hid hs4
          clear hs4 HS c1 b0 lt0
          have cT := HS4.out.num 1 (by decide)
          go_wp2_with fail
          refine cT.mono ?_
          rintro e w5 ⟨rfl, hs5⟩
          have HS5 := Lib.hid hs5
          clear cT hs5 HS4
          go_upto_block 0 with (fail)
          go_cut [8] (fun v8 wx => ∃ l' bad' T tv, RS w D r S (numV l0 3) (numV (h1L l0) 3) (numV (h2L l0) 3) l' bad' bv (.slice (some ⟨nb, 0, none⟩) (Y.length + 1) nc') X (Y ++ [⟨{ hdN l with tags := T }, tv, .slice none 0 0⟩]) wx ∧ readR l0 = (if bad' then none else ctags m (hdN l) (Y.map NV.n) (endR (numV l0 3) (numV (h1L l0) 3) (numV (h2L l0) 3) X) l' T) ∧ T.length ≤ 255 ∧ ∀ x ∈ T, x.size ≤ 255)
          case first =>
            --[D
            go_wp2_with fail
            go_loopw [8] (fun v8 wx => ∃ (t : Nat) (l' : List UInt8) (bad' : Bool) (T : List ByteArray) (tv : Value), v8 = .int .i64 t ∧ RS w D r S (numV l0 3) (numV (h1L l0) 3) (numV (h2L l0) 3) l' bad' bv (.slice (some ⟨nb, 0, none⟩) (Y.length + 1) nc') X (Y ++ [⟨{ hdN l with tags := T }, tv, .slice none 0 0⟩]) wx ∧ readR l0 = (if bad' then none else tagsR t l' T (ctags m (hdN l) (Y.map NV.n) (endR (numV l0 3) (numV (h1L l0) 3) (numV (h2L l0) 3) X))) ∧ T.length + t ≤ 255 ∧ ∀ x ∈ T, x.size ≤ 255) (fun v8 _ => (Go.RowKit.intOf v8).toNat)
            case atStart => exact ⟨numV (hdL l) 1, _, _, [], .slice none 0 0, rfl, HS5.out, HN.out _ rfl, by have := numV_lt (hdL l) 1; simp; omega, by simp⟩
            case round =>
              obtain ⟨t, l', bad', T, tv, rfl, hs6, hr6, hT6, hF6⟩ := hrel
              have HS6 := Lib.hid hs6
              have HR6 := Lib.hid hr6
              have HT6 := Lib.hid hT6
              have HF6 := Lib.hid hF6
              clear hs6 hr6 hT6 hF6 HS5
              have hcb : wr.cell? ⟨r, 1, none⟩ = some (.bool bad') := HS6.out.rd.cell
              cases t with
              | zero =>
                go_wp2_with fail
                go_meet
                exact ⟨l', bad', T, tv, HS6.out, by rw [HR6.out]; rfl, by have := HT6.out; omega, HF6.out⟩
              | succ t =>
                have ht1 : (0 : Int) < ((t + 1 : Nat) : Int) := by omega
                have ht255 : t ≤ 255 := by have := HT6.out; omega
                cases bad' with
                | true =>
                  go_wp2_with fail
                  go_meet
                  exact ⟨l', true, T, tv, HS6.out, by rw [HR6.out]; rfl, by have := HT6.out; omega, HF6.out⟩
                | false =>
                  obtain ⟨b0, b1, b2, b3, b4⟩ := HS6.out.five
                  have lt0 := HS6.out.lt
                  obtain ⟨ta, tc, htv, -⟩ := (HS6.out.own.tags ⟨{ hdN l with tags := T }, tv, .slice none 0 0⟩ (by simp)).slice
                  simp only at htv
                  subst htv
                  have cg := (HS6.out.lastc 3 _ rfl).1
                  have hnb := (HS6.out.lastc 3 _ rfl).2.2
                  have hsd := HS6.out.grow (Grow.refl wr).drew
                  have c7 := hsd.text
                  clear hsd
                  go_upto_region 17 with (fail)
                  go_region_law ((first
                    | (go_simp; go_at_call 47; refine c7.mono ?_; rintro e w7 ⟨rfl, hs7⟩; have HS7 := Lib.hid hs7; have cg7 := (hs7.lastc 3 _ rfl).1; have hnb7 := (hs7.lastc 3 _ rfl).2.2; clear hs7)
                    | (refine step_R (by rfl) _ _ 27 (by rfl) 9 is _ 1 16 Tryd.underlying27 his hsz0 hsz1 hsz2 (by rfl) (by decide) (.slice ta T.length tc) T.length (strC T) (by rfl) w7 (HS7.out.own.tags ⟨{ hdN l with tags := T }, .slice ta T.length tc, .slice none 0 0⟩ (by simp)) HS7.out.rd.grow.size [.string (txV l')] rfl ?_ (by rfl) ?_ (by decide) ?_; (intro u hu; simp at hu; subst hu; rfl); (have := HT6.out; omega); intro v' w8 ra; obtain ⟨va, vc, e3, -⟩ := ra.1.slice; subst e3; obtain ⟨k8, f8, hs8⟩ := HS7.out.retag (x := txV l') rfl ra; have HS8 := Lib.hid hs8; clear hs8 ra)))
                  all_goals
                    go_wp2_with fail
                    go_roundw
                    case rel => exact ⟨t, txL l', txO l' false, T ++ [txV l'], _, by go_num, HS8.out, by rw [HR6.out, if_neg (by simp)]; rfl, by rw [List.length_append]; have := HT6.out; simp; omega, fun x hx => by
                      rcases List.mem_append.1 hx with hx | hx
                      · exact HF6.out x hx
                      · rw [List.mem_singleton.1 hx]; exact txV_le _⟩
                    case measure => simp [Go.RowKit.intOf]
            --]D
          case rest =>
            obtain ⟨l', bad', T, tv, hs9, hr9, hT9, hF9⟩ := hcut
            have HS9 := Lib.hid hs9
            have HR9 := Lib.hid hr9
            have HT9 := Lib.hid hT9
            have HF9 := Lib.hid hF9
            clear hs9 hr9 hT9 hF9 HS5 HN
            have cT := HS9.out.num 1 (by decide)
            have HRB := Lib.hid (show readR l0 = (if numO l' 1 bad' then none else sheetsR (numV l' 1) (numL l' 1) [] (csheets m { hdN l with tags := T } (Y.map NV.n) (endR (numV l0 3) (numV (h1L l0) 3) (numV (h2L l0) 3) X))) from by
              rw [HR9.out]
              cases bad' with
              | true => rw [numO_true]; rfl
              | false => rfl)
            clear HR9
            go_wp2_with fail
            refine cT.mono ?_
            rintro e w10 ⟨rfl, hsA⟩
            have HSA := Lib.hid hsA
            clear cT hsA HS9
            go_upto_block 2 with (fail)
            go_cut [9] (fun v9 wx => ∃ l2 bad2 Z sv, RS w D r S (numV l0 3) (numV (h1L l0) 3) (numV (h2L l0) 3) l2 bad2 bv (.slice (some ⟨nb, 0, none⟩) (Y.length + 1) nc') X (Y ++ [⟨{ hdN l with tags := T, sheets := Z }, tv, sv⟩]) wx ∧ readR l0 = (if bad2 then none else csheets m { hdN l with tags := T } (Y.map NV.n) (endR (numV l0 3) (numV (h1L l0) 3) (numV (h2L l0) 3) X) l2 Z) ∧ Z.length ≤ 255 ∧ ∀ x ∈ Z, 0 ≤ x ∧ x < 65536)
            case first =>
              --[E
              go_wp2_with fail
              go_loopw [9] (fun v9 wx => ∃ (t : Nat) (l2 : List UInt8) (bad2 : Bool) (Z : List Int) (sv : Value), v9 = .int .i64 t ∧ RS w D r S (numV l0 3) (numV (h1L l0) 3) (numV (h2L l0) 3) l2 bad2 bv (.slice (some ⟨nb, 0, none⟩) (Y.length + 1) nc') X (Y ++ [⟨{ hdN l with tags := T, sheets := Z }, tv, sv⟩]) wx ∧ readR l0 = (if bad2 then none else sheetsR t l2 Z (csheets m { hdN l with tags := T } (Y.map NV.n) (endR (numV l0 3) (numV (h1L l0) 3) (numV (h2L l0) 3) X))) ∧ Z.length + t ≤ 255 ∧ ∀ x ∈ Z, 0 ≤ x ∧ x < 65536) (fun v9 _ => (Go.RowKit.intOf v9).toNat)
              case atStart => exact ⟨numV l' 1, _, _, [], .slice none 0 0, rfl, HSA.out, HRB.out, by have := numV_lt l' 1; simp; omega, by simp⟩
              case round =>
                obtain ⟨t, l2, bad2, Z, sv, rfl, hs6, hr6, hT6, hF6⟩ := hrel
                have HS6 := Lib.hid hs6
                have HR6 := Lib.hid hr6
                have HT6 := Lib.hid hT6
                have HF6 := Lib.hid hF6
                clear hs6 hr6 hT6 hF6 HSA HRB
                have hcb : wr.cell? ⟨r, 1, none⟩ = some (.bool bad2) := HS6.out.rd.cell
                cases t with
                | zero =>
                  go_wp2_with fail
                  go_meet
                  exact ⟨l2, bad2, Z, sv, HS6.out, by rw [HR6.out]; rfl, by have := HT6.out; omega, HF6.out⟩
                | succ t =>
                  have ht1 : (0 : Int) < ((t + 1 : Nat) : Int) := by omega
                  have ht255 : t ≤ 255 := by have := HT6.out; omega
                  cases bad2 with
                  | true =>
                    go_wp2_with fail
                    go_meet
                    exact ⟨l2, true, Z, sv, HS6.out, by rw [HR6.out]; rfl, by have := HT6.out; omega, HF6.out⟩
                  | false =>
                    obtain ⟨b0, b1, b2, b3, b4⟩ := HS6.out.five
                    have lt0 := HS6.out.lt
                    obtain ⟨ta, tc, htv, -⟩ := (HS6.out.own.sheets ⟨{ hdN l with tags := T, sheets := Z }, tv, sv⟩ (by simp)).slice
                    simp only at htv
                    subst htv
                    have cg := (HS6.out.lastc 4 _ rfl).1
                    have hnb := (HS6.out.lastc 4 _ rfl).2.2
                    have hsd := HS6.out.grow (Grow.refl wr).drew
                    have c7 := hsd.num 2 (by decide)
                    clear hsd
                    go_upto_region 22 with (fail)
                    go_region_law ((first
                      | (go_simp; go_at_call 46; refine c7.mono ?_; rintro e w7 ⟨rfl, hs7⟩; have HS7 := Lib.hid hs7; have cg7 := (hs7.lastc 4 _ rfl).1; have hnb7 := (hs7.lastc 4 _ rfl).2.2; clear hs7)
                      | (refine step_R (by rfl) _ _ 58 (by rfl) 3 ii _ 1 8 Tryd.underlying58 hii hiz0 hiz1 hiz2 (by rfl) (by decide) (.slice ta Z.length tc) Z.length (intC Z) (by rfl) w7 (HS7.out.own.sheets ⟨{ hdN l with tags := T, sheets := Z }, tv, .slice ta Z.length tc⟩ (by simp)) HS7.out.rd.grow.size [.int .i64 (numV l2 2 : Nat)] rfl ?_ (by rfl) ?_ (by decide) ?_; (intro u hu; simp at hu; subst hu; rfl); (have := HT6.out; omega); intro v' w8 ra; obtain ⟨va, vc, e3, -⟩ := ra.1.slice; subst e3; obtain ⟨k8, f8, hs8⟩ := HS7.out.resheet (x := (numV l2 2 : Nat)) rfl ra; have HS8 := Lib.hid hs8; clear hs8 ra)))
                    all_goals
                      go_wp2_with fail
                      go_roundw
                      case rel => exact ⟨t, numL l2 2, numO l2 2 false, Z ++ [((numV l2 2 : Nat) : Int)], _, by go_num, HS8.out, by rw [HR6.out, if_neg (by simp)]; rfl, by rw [List.length_append]; have := HT6.out; simp; omega, fun x hx => by
                        rcases List.mem_append.1 hx with hx | hx
                        · exact HF6.out x hx
                        · rw [List.mem_singleton.1 hx]; have := numV_lt l2 2; omega⟩
                      case measure => simp [Go.RowKit.intOf]
              --]E
            case rest =>
              obtain ⟨l2, bad2, Z, sv, hsB, hrB, hTB, hFB⟩ := hcut
              have HSB := Lib.hid hsB
              have HRC := Lib.hid hrB
              clear hsB hrB HSA HRB
              go_wp2_with fail
              go_step3
              refine Or.inr (Or.inl ⟨rfl, m, by omega, I2.of D r S (by rfl) ⟨l2, bad2, _, _, X, _, HSB.out, ?_, ?_, HXX.out, HFB.out, ?_⟩⟩)
              · rw [HRC.out, List.map_append]; rfl
              · rw [List.length_append]; have := HYY.out; simp; omega
              · intro y hy
                rcases List.mem_append.1 hy with hy | hy
                · exact HFN.out y hy
                · obtain rfl := List.mem_singleton.1 hy
                  exact ⟨txV_le _, HT9.out, hTB, HF9.out, hFB⟩
  case h1 =>
    intro h2 m act wa hi
    obtain ⟨D, r, S, u, rfl, HP⟩ := hi
    obtain ⟨l, bad, bv, X, hs, hr, hX, hfB⟩ := HP
    refine Exists.intro _ (And.intro rfl ?_)
    have HR := Lib.hid hr
    have HS := Lib.hid hs
    have HF := Lib.hid hfB
    have H2 := Lib.hid h2
    clear hr hs hfB h2
    have hcb : wa.cell? ⟨r, 1, none⟩ = some (.bool bad) := HS.out.rd.cell
    cases bad with
    | true =>
      have HN := Lib.hid (show readR l0 = none by rw [HR.out]; rfl)
      obtain ⟨⟨e0, e1, e2, e3, e4⟩, f0, f1, f2, f3, f4⟩ := HS.out.res5
      have hlow := HS.out.low.1
      have hgw := HS.out.rd.grow
      go_wp2_with fail
      go_step3
      refine Or.inr (Or.inr ?_)
      refine Exists.intro _ (And.intro rfl ?_)
      go_wp2_with fail
      (try simp only [Exit.inBlock, Exit.then])
      refine bodyPost_ret (v := .tuple #[.agg #[.int .i64 0, .int .i64 0, .int .i64 0, .slice none 0 0, .slice none 0 0], .int .i64 5]) ?_ rfl ?_
      · rw [results_cell_tmp rfl]
        go_simp
      · exact ret_wrong HN.out (by repeat' (first | exact hgw | refine Grow.set ?_ (by simp; omega) _))
    | false =>
      cases m with
      | zero =>
        have c1 := HS.out.num 1 (by decide)
        have HX := Lib.hid hX
        go_wp2_with fail
        refine c1.mono ?_
        rintro e w1 ⟨rfl, hs1⟩
        have HS1 := Lib.hid hs1
        clear hs1 c1
        go_wp2_with fail
        rename_i K hK
        go_step3
        refine hK _ _ ?_
        refine fall H2.out rfl (m := numV l 1) (I2.of D r S (by rfl) ⟨_, _, bv, _, X, [], HS1.out, ?_, ?_, ?_, HF.out, by simp⟩)
        · rw [HR.out]
          show midR _ _ _ l X = _
          unfold midR
          rfl
        · have := numV_lt l 1; simp; omega
        · have := HX.out; omega
      | succ m =>
        have hm : (0 : Int) < ((m + 1 : Nat) : Int) := by omega
        have HX := Lib.hid hX
        obtain ⟨ba, bc, hba, -⟩ := HS.out.own.books.slice
        subst hba
        go_upto_region 7 with (fail)
        have hsd := HS.out.grow (Grow.refl wa).drew
        have b0 := hsd.five.2.2.2.1
        have lt0 := hsd.lt
        have c1 := hsd.num 3 (by decide)
        clear hsd hcb
        go_region_law ((first
          | (go_simp; go_at_call 46; refine c1.mono ?_; rintro e w1 ⟨rfl, hs1⟩; have b1 := hs1.five.2.2.2.1; have lt1 := hs1.lt; have c2 := hs1.text; clear hs1)
          | (go_simp; go_at_call 47; refine c2.mono ?_; rintro e w2 ⟨rfl, hs2⟩; have b2 := hs2.five.2.2.2.1; have lt2 := hs2.lt; have HS2 := Lib.hid hs2; clear hs2)
          | (refine step_R (by rfl) _ _ 33 (by rfl) 57 ib _ 2 24 Tryd.underlying33 hib hbz0 hbz1 hbz2 (by rfl) (by decide) (.slice ba X.length bc) X.length (X.flatMap bookC) (by rfl) w2 HS2.out.own.books HS2.out.rd.grow.size (bookC ⟨numV l 3, txV (numL l 3)⟩) rfl ?_ (by rfl) ?_ (by decide) ?_; (intro u hu; simp at hu; rcases hu with rfl | rfl <;> rfl); (have := HX.out; omega); intro v' w3 ra; obtain ⟨va, vc, e3, -⟩ := ra.1.slice; subst e3; obtain ⟨k3, f3, hs3⟩ := HS2.out.book ra; have HS3 := Lib.hid hs3; clear hs3 ra)))
        all_goals
          go_wp2_with fail
          go_step3
          refine Or.inl ⟨rfl, m, by omega, I1.of D r S (by rfl) ⟨_, _, _, _, HS3.out, ?_, ?_, ?_⟩⟩
          · rw [HR.out, if_neg (by simp)]
            rfl
          · rw [List.length_append]; have := HX.out; simp; omega
          · intro b hb
            rcases List.mem_append.1 hb with hb | hb
            · exact HF.out b hb
            · obtain rfl := List.mem_singleton.1 hb
              exact txV_le _
  case first =>
    intro h1
    have H1 := Lib.hid h1
    clear h1
    go_wp2_with fail
    generalize hW : (w.alloc (.cells #[.int .i64 0, .int .i64 0, .int .i64 0, .slice none 0 0, .slice none 0 0] 36)).alloc (.cells #[.slice a l0.length c, .bool false] 75) = W
    have hR : Rd w (w.heap.size + 1) l0 false W := ⟨by rw [← hW]; exact ((Grow.refl w).alloc _).alloc _, by omega, .slice a l0.length c, by rw [← hW]; exact heap_alloc2 w _ _, HV.out⟩
    have hd : W.heap[w.heap.size]? = some (shO 0 0 0 (.slice none 0 0) (.slice none 0 0)) := by
      rw [← hW]; exact (Below.block ((Grow.refl (w.alloc _)).alloc _) _ (by simp)).trans (heap_alloc_new w _)
    have HD := Lib.hid hd
    have hz : w.heap.size + 2 = W.heap.size := by rw [← hW]; simp
    have HZ := Lib.hid hz
    clear hW hd hz
    refine (numF_any w _ _ _ 3 W hR (by omega) (by decide)).mono ?_
    rintro e w1 ⟨rfl, t1, hR1⟩
    have HT1 := Lib.hid t1
    clear hR t1
    go_wp2_with fail
    refine (numF_any w _ _ _ 3 w1 hR1 (by have := numL_le l0 3; omega) (by decide)).mono ?_
    rintro e w2 ⟨rfl, t2, hR2⟩
    have HT2 := Lib.hid t2
    clear hR1 t2
    go_wp2_with fail
    refine (numF_any w _ _ _ 3 w2 hR2 (by have := numL_le l0 3; have := numL_le (numL l0 3) 3; omega) (by decide)).mono ?_
    rintro e w3 ⟨rfl, t3, hR3⟩
    have HR3 := Lib.hid hR3
    have HT3 := Lib.hid t3
    clear hR2 hR3 t3
    go_upto_region 3 with (fail)
    generalize hV : w3.alloc (.cells #[.int .i64 (numV l0 3 : Nat), .int .i64 (numV (numL l0 3) 3 : Nat), .int .i64 (numV (numL (numL l0 3) 3) 3 : Nat), .slice none 0 0, .slice none 0 0] 36) = V
    have hsz := HT3.out.size
    have hsz2 := HT2.out.size
    have hsz1 := HT1.out.size
    have hz := HZ.out
    have hs : RS w w.heap.size (w.heap.size + 1) w3.heap.size (numV l0 3) (numV (h1L l0) 3) (numV (h2L l0) 3) (h3L l0) (h3O l0) (.slice none 0 0) (.slice none 0 0) [] [] V := by
      refine ⟨?_, .nil, ?_, ?_, ⟨by omega, by omega, by omega⟩, ?_⟩
      · rw [← hV]; exact HR3.out.grown ((Grow.refl w3).alloc _)
      · rw [← hV]
        refine (Below.block ((Grow.refl w3).alloc _) _ (by omega)).trans ?_
        rw [HT3.out.block _ (by omega) (by omega), HT2.out.block _ (by omega) (by omega), HT1.out.block _ (by omega) (by omega)]
        exact HD.out
      · rw [← hV]; exact heap_alloc_new w3 _
      · have := numL_le l0 3; have := numL_le (numL l0 3) 3; have := numL_le (numL (numL l0 3) 3) 3
        unfold h3L; omega
    have c4 := hs.num 1 (by decide)
    clear hV hsz hsz2 hsz1 hz hs
    generalize w3.heap.size = S at *
    go_wp2_with fail
    refine c4.mono ?_
    rintro e w4 ⟨rfl, hs4⟩
    have HS4 := Lib.hid hs4
    clear hs4 c4
    go_wp2_with fail
    rename_i K hK
    go_step3
    refine hK _ _ ?_
    refine fall1 H1.out rfl (m := numV (h3L l0) 1) (I1.of w.heap.size (w.heap.size + 1) S (by rfl) ⟨_, _, _, [], HS4.out, ?_, ?_, ?_⟩)
    · unfold readR
      rfl
    · have := numV_lt (h3L l0) 1; simp; omega
    · intro b hb; cases hb
end Go.Proofs.YtbdbmigkcpgmkaaDoor
