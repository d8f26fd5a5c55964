/- The walks of rank.Last, Newer, newest. -/
import Derived.Test.YtcfkpaijlibjaaaFMap
set_option linter.unusedVariables false
set_option linter.unusedSimpArgs false
namespace Go.Proofs.Ytcfkpaijlibjaaa
open Go.RowKit Go.Lib Go.Maps
theorem box6 {w : World} {b : Nat} {t : TypeId} {m : Nat × Nat} {u0 u1 u2 u3 u4 u5 : Value} (hb : w.heap[b]? = some (.cells #[u0, u1, u2, u3, u4, u5] t m)) :
    w.cell? ⟨b, 0, none⟩ = some u0 ∧ w.cell? ⟨b, 1, none⟩ = some u1 ∧ w.cell? ⟨b, 2, none⟩ = some u2 ∧ w.cell? ⟨b, 3, none⟩ = some u3 ∧ w.cell? ⟨b, 4, none⟩ = some u4 ∧ w.cell? ⟨b, 5, none⟩ = some u5 :=
  ⟨(cell_of_row w b 0 _ _ _ hb).trans rfl, (cell_of_row w b 1 _ _ _ hb).trans rfl, (cell_of_row w b 2 _ _ _ hb).trans rfl, (cell_of_row w b 3 _ _ _ hb).trans rfl, (cell_of_row w b 4 _ _ _ hb).trans rfl, (cell_of_row w b 5 _ _ _ hb).trans rfl⟩
theorem last_take {l : List Found} {j : Nat} {x : Found} (hx : l[j]? = some x) : lastF (l.take (j + 1)) = lastStep (lastF (l.take j)) x := by
  obtain ⟨hi, e⟩ := List.getElem?_eq_some_iff.1 hx
  rw [List.take_succ_eq_append_getElem hi, e, lastF_snoc]
theorem best_take {last : Int} {l : List Found} {j : Nat} {x : Found} (hx : l[j]? = some x) (p : Int) : bestF last (l.take (j + 1)) p = bestStep last p (bestF last (l.take j) p) x := by
  obtain ⟨hi, e⟩ := List.getElem?_eq_some_iff.1 hx
  rw [List.take_succ_eq_append_getElem hi, e, bestF_snoc]
set_option maxRecDepth 100000 in
set_option maxHeartbeats 1000000 in
theorem last_any (v : Value) (l : List Found) (w : World) (h : Founds w v l) (hz : l.length ≤ 1000000) :
    Calls Try.prog 15 #[v] w fun e w' => e = .returned (.int .i64 (lastF l)) ∧ Grow w w' := by
  obtain ⟨a, c, rfl⟩ := h.mk
  have HH := Lib.hid h
  clear h
  go_enter Try.func15, Try.ntmps15
  go_wp2_with fail
  go_loopw [3, 8] (fun v3 v8 wx => Grow w wx ∧ ∃ j : Nat, v8 = .int .i64 j ∧ j ≤ l.length ∧ v3 = .int .i64 (lastF (l.take j))) (fun _ v8 _ => l.length - (Go.RowKit.intOf v8).toNat)
  case atStart => exact ⟨Grow.refl _, 0, rfl, by omega, rfl⟩
  case round =>
    obtain ⟨hg, j, rfl, hj, rfl⟩ := hrel
    by_cases hlt : j < l.length
    · have hlt' : (j : Int) < l.length := by omega
      obtain ⟨x, hx, -⟩ := lt_get hlt
      obtain ⟨b, off, rfl, hb, k0, k1, k2, k3, k4, k5⟩ := (HH.out.grow hg).at hx
      have HX := Lib.hid (last_take hx)
      clear hx
      by_cases hk : x.kind = 3
      · have HK := Lib.hid (show lastF (l.take (j + 1)) = (if lastF (l.take j) < x.epoch then x.epoch else lastF (l.take j)) by rw [HX.out]; unfold lastStep; rw [if_pos hk]; split <;> omega)
        have hkk : (x.kind == 3) = true := by rw [beq_iff_eq]; exact hk
        clear HX
        go_wp2_with fail
        go_roundw
        case rel => exact ⟨hg.alloc _, j + 1, by go_num, by omega, by rw [HK.out]⟩
        case measure => simp [Go.RowKit.intOf]; omega
      · have HK := Lib.hid (show lastF (l.take (j + 1)) = lastF (l.take j) by rw [HX.out]; unfold lastStep; rw [if_neg hk])
        have hkk : (x.kind == 3) = false := by rw [beq_eq_false_iff_ne]; exact hk
        clear HX
        go_wp2_with fail
        go_roundw
        case rel => exact ⟨hg.alloc _, j + 1, by go_num, by omega, by rw [HK.out]⟩
        case measure => simp [Go.RowKit.intOf]; omega
    · have hlt' : ¬ (j : Int) < l.length := by omega
      have HK := Lib.hid (show lastF (l.take j) = lastF l by rw [List.take_of_length_le (by omega)])
      go_wp2_with fail
      go_ret
      exact ⟨ret_int HK.out, hg⟩
set_option maxRecDepth 100000 in
set_option maxHeartbeats 1000000 in
theorem newer_any (x y : Found) (w : World) :
    Calls Try.prog 40 #[tagV x, tagV y] w fun e w' => e = .returned (.bool (newerF x y)) ∧ Grow w w' := by
  have g : Grow w ((w.alloc (.cells #[.int .i64 x.kind, .int .i64 x.pg, .int .i64 x.seq, .int .i64 x.epoch] 26)).alloc (.cells #[.int .i64 y.kind, .int .i64 y.pg, .int .i64 y.seq, .int .i64 y.epoch] 26)) := ((Grow.refl w).alloc _).alloc _
  unfold tagV newerF
  by_cases h1 : y.epoch < x.epoch
  · go_enter Try.func40, Try.ntmps40
    go_wp2_with fail
    go_ret
    exact ⟨ret_bool (by simp [h1]), g⟩
  · by_cases h2 : x.epoch = y.epoch
    · have h2' : (x.epoch == y.epoch) = true := by rw [beq_iff_eq]; exact h2
      have H2 := Lib.hid h2
      clear h2
      by_cases h3 : y.seq < x.seq
      · go_enter Try.func40, Try.ntmps40
        go_wp2_with fail
        go_ret
        exact ⟨ret_bool (by simp [H2.out, h3]), g⟩
      · go_enter Try.func40, Try.ntmps40
        go_wp2_with fail
        go_ret
        exact ⟨ret_bool (by simp [h1, h3]), g⟩
    · have h2' : (x.epoch == y.epoch) = false := by rw [beq_eq_false_iff_ne]; exact h2
      go_enter Try.func40, Try.ntmps40
      go_wp2_with fail
      go_ret
      exact ⟨ret_bool (by simp [h1, h2]), g⟩
/-- Is one that counts to be put? -/
def newB (o : Option Found) (x : Found) : Bool := match o with | none => true | some y => newerF x y
/-- A map that newest hands back. -/
def RetMap (f : Int → Option Found) (n : Nat) (w : World) (e : Ending) (w' : World) : Prop := ∃ b, e = .returned (.map (some b)) ∧ FMap w' b n f ∧ Grow w w'
set_option maxRecDepth 100000 in
set_option maxHeartbeats 4000000 in
theorem newest_any (v : Value) (l : List Found) (w : World) (h : Founds w v l) (hz : l.length ≤ 1000000) (hw : ∀ x ∈ l, Wf x.pg) :
    Calls Try.prog 41 #[v] w (RetMap (bestF (lastF l) l) l.length w) := by
  have cL := last_any v l w h hz
  obtain ⟨a, c, rfl⟩ := h.mk
  have HH := Lib.hid h
  have HW := Lib.hid hw
  have hmm := @run_makeMap Try.prog
  clear h hw
  go_enter Try.func41, Try.ntmps41
  go_wp2_with fail
  refine cL.mono ?_
  rintro e w1 ⟨rfl, g1⟩
  go_wp2_with fail
  have gM : Grow w (w1.alloc (.map #[] 0)) := g1.alloc _
  have HM := Lib.hid (FMap.made w1)
  have hlow : w.heap.size ≤ w1.heap.size := g1.size
  generalize hMM : w1.alloc (.map #[] 0) = M at *
  generalize hbM : w1.heap.size = bM at *
  generalize hla : lastF l = last at *
  clear hMM hbM cL g1
  go_loopw [14] (fun v14 wx => Turned bM M wx ∧ ∃ j : Nat, v14 = .int .i64 j ∧ j ≤ l.length ∧ FMap wx bM j (bestF last (l.take j))) (fun v14 _ => l.length - (Go.RowKit.intOf v14).toNat)
  case atStart => exact ⟨Turned.refl _ _, 0, rfl, by omega, HM.out⟩
  case round =>
    obtain ⟨ht, j, rfl, hj, hf⟩ := hrel
    have HF := Lib.hid hf
    have hg : Grow w wr := Turned.grow ht gM hlow
    clear hf HM
    by_cases hlt : j < l.length
    · have hlt' : (j : Int) < l.length := by omega
      obtain ⟨x, hx, -⟩ := lt_get hlt
      obtain ⟨b, off, rfl, hb, k0, k1, k2, k3, k4, k5⟩ := (HH.out.grow hg).at hx
      have hwx := HW.out x (List.mem_of_getElem? hx)
      have HWX := Lib.hid hwx
      have HX := Lib.hid (fun p => best_take (last := last) hx p)
      clear hx hwx
      go_upto_region 6 with (fail)
      generalize hU : wr.alloc (.cells #[.int .i64 x.block, .int .i64 x.page, .int .i64 x.kind, .int .i64 x.pg, .int .i64 x.seq, .int .i64 x.epoch] 30) = U
      have gU : Grow wr U := by rw [← hU]; exact (Grow.refl wr).alloc _
      have hbu : U.heap[wr.heap.size]? = some (.cells #[.int .i64 x.block, .int .i64 x.page, .int .i64 x.kind, .int .i64 x.pg, .int .i64 x.seq, .int .i64 x.epoch] 30 (0, 0)) := by rw [← hU]; exact heap_alloc_new wr _
      have HBU := Lib.hid hbu
      have HFU := Lib.hid (HF.out.grow gU)
      clear hU k0 k1 k2 k3 k4 k5 hbu
      obtain ⟨p0, p1, p2, p3, p4, p5⟩ := box6 HBU.out
      have tU : Turned bM M U := ht.trans (.of_grow gU)
      generalize hwb : wr.heap.size = wb at *
      by_cases hc : cand last x = true
      · have hc2 := hc
        unfold cand at hc2
        simp only [Bool.and_eq_true, Bool.or_eq_true, beq_iff_eq, decide_eq_true_eq] at hc2
        obtain ⟨hk, he⟩ := hc2
        have he' : ¬ last < x.epoch := by omega
        have HC := Lib.hid hc
        have HS := Lib.hid (show ∀ p, bestF last (l.take (j + 1)) p = if p = x.pg then (match bestF last (l.take j) p with | none => some x | some y => if newerF x y then some x else some y) else bestF last (l.take j) p by
          intro p
          rw [HX.out p]
          unfold bestStep
          rw [HC.out, Bool.true_and]
          by_cases e : p = x.pg
          · rw [if_pos (by rw [beq_iff_eq]; exact e.symm), if_pos e]; try rfl
          · rw [if_neg (by rw [beq_iff_eq]; exact fun h => e h.symm), if_neg e])
        have hlk := HFU.out.look_ok HWX.out
        clear hc HX
        obtain ⟨o, ho⟩ : ∃ o, bestF last (l.take j) x.pg = o := ⟨_, rfl⟩
        rw [ho] at hlk
        have HO := Lib.hid ho
        clear ho
        have hkk : ((x.kind != 1) = false) ∨ ((x.kind != 1) = true ∧ (x.kind != 2) = false) := by rcases hk with hk | hk <;> rw [hk] <;> simp
        clear hk
        have hwbU : wb < U.heap.size := (Array.getElem?_eq_some_iff.1 HBU.out).1
        have HS2 : Hid (∀ n, newB o x = true → ∀ W, FMap W bM n (fun z => if z = x.pg then some x else bestF last (l.take j) z) → FMap W bM n (bestF last (l.take (j + 1)))) := by
          refine Lib.hid fun n hn W hf => hf.cong fun p => ?_
          rw [HS.out p]
          by_cases e : p = x.pg
          · rw [if_pos e, if_pos e, e, HO.out]
            cases o with
            | none => rfl
            | some y => simp only; rw [if_pos (show newerF x y = true from hn)]
          · rw [if_neg e, if_neg e]
        have HS3 : Hid (newB o x = false → ∀ n W, FMap W bM n (bestF last (l.take j)) → FMap W bM n (bestF last (l.take (j + 1)))) := by
          refine Lib.hid fun hn n W hf => hf.cong fun p => ?_
          rw [HS.out p]
          by_cases e : p = x.pg
          · rw [if_pos e, e, HO.out]
            cases o with
            | none => cases hn
            | some y => simp only; rw [if_neg (by rw [show newerF x y = false from hn]; simp)]
          · rw [if_neg e]
        clear HS
        cases o with
        | none =>
          simp only [Option.isSome_none, Option.getD_none] at hlk
          rw [show foundV default = .agg #[.int .i64 0, .int .i64 0, .int .i64 0, .int .i64 0, .int .i64 0, .int .i64 0] from rfl] at hlk
          obtain ⟨w9, hrun, hf9, ht9⟩ := (HFU.out.grow ((Grow.refl U).alloc (.cells #[.int .i64 0, .int .i64 0, .int .i64 0, .int .i64 0, .int .i64 0, .int .i64 0] 30))).put x HWX.out (by omega)
          have t9 : Turned bM M w9 := (tU.trans (.of_grow ((Grow.refl U).alloc _))).trans ht9
          have HF9 := Lib.hid (HS2.out (j + 1) rfl w9 hf9)
          clear hf9 ht9
          rcases hkk with hk1 | ⟨hk1, hk2⟩
          all_goals
            go_wp2_with fail
            go_roundw
            case rel => exact ⟨t9, j + 1, by go_num, by omega, HF9.out⟩
            case measure => simp [Go.RowKit.intOf]; omega
        | some y =>
          simp only [Option.isSome_some, Option.getD_some] at hlk
          rcases hkk with hk1 | ⟨hk1, hk2⟩
          all_goals
            go_upto_region 8 with (fail)
            generalize hV : U.alloc (.cells #[.int .i64 y.block, .int .i64 y.page, .int .i64 y.kind, .int .i64 y.pg, .int .i64 y.seq, .int .i64 y.epoch] 30) = V
            have gV : Grow U V := by rw [← hV]; exact (Grow.refl U).alloc _
            have hbv : V.heap[U.heap.size]? = some (.cells #[.int .i64 y.block, .int .i64 y.page, .int .i64 y.kind, .int .i64 y.pg, .int .i64 y.seq, .int .i64 y.epoch] 30 (0, 0)) := by rw [← hV]; exact heap_alloc_new U _
            clear hV p0 p1 p2 p3 p4 p5 hlk
            obtain ⟨q0, q1, q2, q3, q4, q5⟩ := box6 hbv
            obtain ⟨p0, p1, p2, p3, p4, p5⟩ := box6 (gV.blk HBU.out)
            have cN := newer_any x y V
            generalize hUs : U.heap.size = us at *
            clear hbv hUs
            cases hn : newerF x y
            · rw [hn] at cN
              have HN := Lib.hid (show newB (some y) x = false from hn)
              clear hn
              go_wp2_with fail
              refine cN.mono ?_
              rintro e V2 ⟨rfl, g2⟩
              go_wp2_with fail
              go_roundw
              case rel => exact ⟨(tU.trans (.of_grow gV)).trans (.of_grow g2), j + 1, by go_num, by omega, (HS3.out HN.out j _ ((HFU.out.grow gV).grow g2)).mono (by omega)⟩
              case measure => simp [Go.RowKit.intOf]; omega
            · rw [hn] at cN
              have HN := Lib.hid (show newB (some y) x = true from hn)
              clear hn
              go_wp2_with fail
              refine cN.mono ?_
              rintro e V2 ⟨rfl, g2⟩
              clear p0 p1 p2 p3 p4 p5 q0 q1 q2 q3 q4 q5
              obtain ⟨p0, p1, p2, p3, p4, p5⟩ := box6 (g2.blk (gV.blk HBU.out))
              obtain ⟨w9, hrun, hf9, ht9⟩ := ((HFU.out.grow gV).grow g2).put x HWX.out (by omega)
              have t9 : Turned bM M w9 := ((tU.trans (.of_grow gV)).trans (.of_grow g2)).trans ht9
              have HF9 := Lib.hid (HS2.out (j + 1) HN.out w9 hf9)
              clear hf9 ht9
              go_wp2_with fail
              go_roundw
              case rel => exact ⟨t9, j + 1, by go_num, by omega, HF9.out⟩
              case measure => simp [Go.RowKit.intOf]; omega
      · have HS : Hid (∀ n W, FMap W bM n (bestF last (l.take j)) → FMap W bM n (bestF last (l.take (j + 1)))) := by
          refine Lib.hid fun n W hf => hf.cong fun p => ?_
          rw [HX.out p]
          unfold bestStep
          rw [if_neg (by rw [Bool.and_eq_true]; exact fun h => hc h.1)]
        have hkk : (((x.kind != 1) = true ∧ (x.kind != 2) = true)) ∨ (((x.kind != 1) = false) ∧ last < x.epoch) ∨ ((x.kind != 1) = true ∧ (x.kind != 2) = false ∧ last < x.epoch) := by
          unfold cand at hc
          simp only [Bool.and_eq_true, Bool.or_eq_true, beq_iff_eq, decide_eq_true_eq] at hc
          simp only [bne_iff_ne, bne_eq_false_iff_eq, ne_eq]
          omega
        clear hc HX
        rcases hkk with ⟨hk1, hk2⟩ | ⟨hk1, hk3⟩ | ⟨hk1, hk2, hk3⟩
        all_goals
          go_wp2_with fail
          go_roundw
          case rel => exact ⟨tU, j + 1, by go_num, by omega, (HS.out j _ HFU.out).mono (by omega)⟩
          case measure => simp [Go.RowKit.intOf]; omega
    · have hlt' : ¬ (j : Int) < l.length := by omega
      have HR : Hid (FMap wr bM l.length (bestF last l)) := by
        have := HF.out
        rw [List.take_of_length_le (by omega), show j = l.length by omega] at this
        exact Lib.hid this
      go_wp2_with fail
      go_ret
      exact ⟨bM, rfl, HR.out, hg⟩
end Go.Proofs.Ytcfkpaijlibjaaa
