/- The reference's map: Pages, Put, Drop, New. -/
import Derived.Test.YtcfkpaijlibjaaaRMapB
import Derived.StillTailTactics
import Derived.Deep.RegionHeld3
set_option linter.unusedVariables false
set_option linter.unusedSimpArgs false
namespace Go.Proofs.Ytcfkpaijlibjaaa
open Go.RowKit Go.Lib Go.Maps
theorem info_int13 : (Try.prog.info? 3).map (fun i => (i.zero, i.size, i.bytes)) = some (some (.int .i64 0), 1, 8) := by kernel_rfl
def pagesTo (A : Int → Option Pl) (n : Nat) : List Int := ((List.range n).filter (fun i : Nat => (A i).isSome)).map fun i : Nat => (i : Int)
theorem pagesTo_succ (A : Int → Option Pl) (n : Nat) : pagesTo A (n + 1) = pagesTo A n ++ if (A (n : Int)).isSome = true then [(n : Int)] else [] := by
  unfold pagesTo
  rw [List.range_succ, List.filter_append, List.map_append]
  cases h : (A (n : Int)).isSome <;> simp [h]
theorem pagesTo_le (A : Int → Option Pl) (n : Nat) : (pagesTo A n).length ≤ n := by
  unfold pagesTo; have := List.length_filter_le (fun i : Nat => (A i).isSome) (List.range n); simpa using this
theorem pagesTo_mem (A : Int → Option Pl) (n : Nat) (x : Int) : x ∈ pagesTo A n ↔ 0 ≤ x ∧ x < n ∧ (A x).isSome = true := by
  unfold pagesTo
  simp only [List.mem_map, List.mem_filter, List.mem_range]
  constructor
  · rintro ⟨i, ⟨h1, h2⟩, rfl⟩; exact ⟨by omega, by omega, h2⟩
  · rintro ⟨h1, h2, h3⟩; exact ⟨x.toNat, ⟨by omega, by rw [show ((x.toNat : Nat) : Int) = x by omega]; exact h3⟩, by omega⟩
theorem pagesTo_up (A : Int → Option Pl) (n : Nat) : (pagesTo A n).Pairwise (· < ·) := by
  unfold pagesTo
  rw [List.pairwise_map]
  exact (List.pairwise_lt_range.filter _).imp (fun h => by omega)
theorem up_unique {l m : List Int} (hl : l.Pairwise (· < ·)) (hm : m.Pairwise (· < ·)) (h : ∀ x, x ∈ l ↔ x ∈ m) : l = m := by
  have nl : l.Nodup := hl.imp (fun h => by omega)
  have nm : m.Nodup := hm.imp (fun h => by omega)
  exact List.Perm.eq_of_pairwise (fun a b _ _ h1 h2 => by omega) hl hm ((List.perm_ext_iff_of_nodup nl nm).2 h)
section
variable {base : Nat} {w : World} {R b c : Nat} {g : Geo} {A : Int → Option Pl} {H : Pl → Option Int}
def RetInts (l : List Int) (w : World) (e : Ending) (w' : World) : Prop := ∃ v, e = .returned v ∧ Own 3 1 w v l.length (l.map (Value.int .i64)) w'
set_option maxRecDepth 100000 in
set_option maxHeartbeats 2000000 in
theorem rpages_any (s : RSt base w R b c g A) (t : Two g A H) (hm : mayG g = true) :
    Calls Try.prog 36 #[.pointer (some ⟨R, 0, none⟩)] w (RetInts (pagesTo A (logN g)) w) := by
  obtain ⟨hl1, hl2, -⟩ := logN_bd hm
  have hR : R < w.heap.size := (Array.getElem?_eq_some_iff.1 s.2.1).1
  have hbb : b < w.heap.size := s.lt.2
  have HS := Lib.hid s
  have HB := Lib.hid (fun i : Nat => (enc_bd t hm i).2.2)
  obtain ⟨i0, hi0, hz0, hz1, hz2⟩ := info_parts info_int13
  clear s t hm
  go_enter Try.func36, Try.ntmps36
  go_wp2_with fail
  go_loopw [3, 4] (fun v3 v4 wx => ∃ i : Nat, v4 = .int .i64 i ∧ i ≤ logN g ∧ Own 3 1 w v3 (pagesTo A i).length ((pagesTo A i).map (Value.int .i64)) wx) (fun _ v4 _ => logN g - (Go.RowKit.intOf v4).toNat)
  case atStart => exact ⟨0, rfl, by omega, Own.start (Grow.refl _)⟩
  case round =>
    obtain ⟨i, rfl, hi, ho⟩ := hrel
    have HO := Lib.hid ho
    obtain ⟨k0, k1, k2, k3, k4, k5⟩ := ref6 (HS.out.grow ho.grow).2.1
    by_cases hlt : i < logN g
    · have hlt' : (i : Int) < (logN g : Nat) := by omega
      have kc := (HS.out.grow ho.grow).cell hlt
      have hb1 := HB.out i
      have hps := pagesTo_succ A i
      have hpl := pagesTo_le A i
      clear ho
      generalize encP g (A (i : Int)) = y at *
      cases e : (A (i : Int)).isSome with
      | false =>
        have hy : ¬ 0 ≤ y := by rw [← hb1, e]; simp
        have hy2 : decide (0 ≤ y) = false := decide_eq_false hy
        have HR := Lib.hid (show pagesTo A (i + 1) = pagesTo A i by rw [hps, e]; simp)
        clear hps hb1 e hy hpl
        go_wp2_with fail
        go_roundw
        case rel => exact ⟨i + 1, by go_num, by omega, by rw [HR.out]; exact HO.out⟩
        case measure => simp [Go.RowKit.intOf]; omega
      | true =>
        have hy : 0 ≤ y := by rw [← hb1, e]
        have HR := Lib.hid (show pagesTo A (i + 1) = pagesTo A i ++ [(i : Int)] by rw [hps, e]; simp)
        have HLL := Lib.hid hpl
        clear hps hb1 e hpl
        go_wp2_with (at_builtin; refine app_one rfl _ _ 36 rfl 3 i0 _ 1 8 Try.underlying36 hi0 hz0 hz1 hz2 rfl (by decide) u3 (pagesTo A i).length ((pagesTo A i).map (Value.int .i64)) rfl w wr ?_ [.int .i64 i] rfl ?_ rfl ?_ (by decide) ?_; exact HO.out; (intro u hu; simp at hu; subst hu; rfl); (have := HLL.out; omega); intro v' w' ho' hk' _; have HO' := Lib.hid ho'; clear ho' hk')
        go_roundw
        case rel => exact ⟨i + 1, by go_num, by omega, by rw [HR.out, List.length_append, List.map_append]; exact HO'.out⟩
        case measure => simp [Go.RowKit.intOf]; omega
    · have hlt' : ¬ (i : Int) < (logN g : Nat) := by omega
      obtain rfl : i = logN g := by omega
      clear ho
      go_wp2_with fail
      go_ret
      exact ⟨_, rfl, HO.out⟩
def RetRPut (base : Nat) (w : World) (R b c : Nat) (g : Geo) (A : Int → Option Pl) (H : Pl → Option Int) (x : Int) (p : Pl) (e : Ending) (w' : World) : Prop :=
  e = .returned (.bool (putOk g H x p)) ∧ Turned b w w' ∧ RSt base w' R b c g (if putOk g H x p then putA A x p else A)
theorem rput_bad {x : Int} {p : Pl} {w' : World} (s : RSt base w R b c g A) (e : putOk g H x p = false) (g1 : Grow w w') : RetRPut base w R b c g A H x p (.returned (.bool false)) w' :=
  ⟨by rw [e], .of_grow g1, by rw [e]; exact s.grow g1⟩
theorem putA_enc {x i : Nat} (p : Pl) : encP g (putA A x p i) = if i = x then encP g (putA A x p x) else encP g (A i) := by
  by_cases h : i = x
  · subst h; simp
  · rw [if_neg h]; unfold putA dropA; rw [if_neg (by omega), if_neg (by omega)]
theorem dropA_enc {x i : Nat} : encP g (dropA A x i) = if i = x then encP g (dropA A x x) else encP g (A i) := by
  by_cases h : i = x
  · subst h; simp
  · rw [if_neg h]; unfold dropA; rw [if_neg (by omega)]
set_option maxRecDepth 100000 in
set_option maxHeartbeats 4000000 in
theorem rput_any (s : RSt base w R b c g A) (t : Two g A H) (hm : mayG g = true) (x : Int) (p : Pl) :
    Calls Try.prog 30 #[.pointer (some ⟨R, 0, none⟩), .int .i64 x, plV p] w (RetRPut base w R b c g A H x p) := by
  obtain ⟨hl1, hl2, hl3⟩ := logN_bd hm
  have cW := fun W (s' : RSt base W R b c g A) => rwho_any s' t hm p
  have cT := fun W => rthere_any g p.b p.p W
  rw [isG_num hm] at cT
  have cN := fun W => rnumber_any g p.b p.p W
  have HS := Lib.hid s
  have hR : R < w.heap.size := (Array.getElem?_eq_some_iff.1 s.2.1).1
  have HBX := Lib.hid (heap_alloc_new w (plO p.b p.p))
  have HP := Lib.hid (show putOk g H x p = (decide (0 ≤ x) && decide (x < logG g) && decide (0 ≤ numG g p.b p.p) && !takenH H x p) from rfl)
  clear s t
  by_cases hx : x < 0
  · have d1 : decide (x < 0) = true := decide_eq_true hx
    have HOK := Lib.hid (show putOk g H x p = false by rw [HP.out, decide_eq_false (show ¬ 0 ≤ x by omega)]; rfl)
    clear HP hl3 hm cN
    generalize H p = hp at *
    generalize numG g p.b p.p = nm at *
    go_enter Try.func30, Try.ntmps30
    go_wp2_with fail
    refine (cW _ (HS.out.grow ((Grow.refl w).alloc _))).mono ?_
    rintro e w1 ⟨rfl, g1⟩
    go_upto_region 2 with (fail)
    have gw := ((Grow.refl w).alloc (plO p.b p.p)).trans g1
    have HS1 := HS.out.grow gw
    obtain ⟨k0, k1, k2, k3, k4, k5⟩ := ref6 HS1.2.1
    obtain ⟨q0, q1⟩ := box2 (g1.blk HBX.out)
    have hR1 : R < w1.heap.size := (Array.getElem?_eq_some_iff.1 HS1.2.1).1
    have hx1 : w.heap.size < w1.heap.size := (Array.getElem?_eq_some_iff.1 (g1.blk HBX.out)).1
    have HG := Lib.hid gw
    have HS1' := Lib.hid HS1
    clear g1 gw HS1
    refine wp_region_gr (by kernel_rfl) (by kernel_rfl) ?_
    repeat (go_big_quiet_step (first | (go_at_call 53; exact Calls.gr (cT _))))
    refine wpQuiet_nil ?_
    rintro _ ⟨y, rfl⟩
    go_wp2_with fail
    go_ret
    exact rput_bad HS.out HOK.out (HG.out.trans y.g)
  by_cases hx2 : (logN g : Nat) ≤ x
  · have d1 : decide (x < 0) = false := decide_eq_false hx
    have d2 : decide (((logN g : Nat) : Int) ≤ x) = true := decide_eq_true hx2
    have HOK := Lib.hid (show putOk g H x p = false by rw [HP.out, decide_eq_false (show ¬ x < logG g by omega)]; simp)
    clear HP hl3 hm cN
    generalize H p = hp at *
    generalize numG g p.b p.p = nm at *
    go_enter Try.func30, Try.ntmps30
    go_wp2_with fail
    refine (cW _ (HS.out.grow ((Grow.refl w).alloc _))).mono ?_
    rintro e w1 ⟨rfl, g1⟩
    go_upto_region 2 with (fail)
    have gw := ((Grow.refl w).alloc (plO p.b p.p)).trans g1
    have HS1 := HS.out.grow gw
    obtain ⟨k0, k1, k2, k3, k4, k5⟩ := ref6 HS1.2.1
    obtain ⟨q0, q1⟩ := box2 (g1.blk HBX.out)
    have hR1 : R < w1.heap.size := (Array.getElem?_eq_some_iff.1 HS1.2.1).1
    have hx1 : w.heap.size < w1.heap.size := (Array.getElem?_eq_some_iff.1 (g1.blk HBX.out)).1
    have HG := Lib.hid gw
    have HS1' := Lib.hid HS1
    clear g1 gw HS1
    refine wp_region_gr (by kernel_rfl) (by kernel_rfl) ?_
    repeat (go_big_quiet_step (first | (go_at_call 53; exact Calls.gr (cT _))))
    refine wpQuiet_nil ?_
    rintro _ ⟨y, rfl⟩
    go_wp2_with fail
    go_ret
    exact rput_bad HS.out HOK.out (HG.out.trans y.g)
  obtain ⟨i, rfl⟩ : ∃ i : Nat, x = i := ⟨x.toNat, by omega⟩
  have hi : i < logN g := by omega
  have hlt' : (i : Int) < (logN g : Nat) := by omega
  have d1 : decide ((i : Int) < 0) = false := decide_eq_false (by omega)
  have d2 : decide (((logN g : Nat) : Int) ≤ (i : Int)) = false := decide_eq_false (by omega)
  have d3 : decide (logN g ≤ i) = false := decide_eq_false (by omega)
  have HQ := Lib.hid (show putOk g H i p = (decide (0 ≤ numG g p.b p.p) && !takenH H i p) by rw [HP.out, decide_eq_true (show 0 ≤ (i : Int) by omega), decide_eq_true (show (i : Int) < logG g by omega)]; simp)
  clear HP hl3 hx hx2
  by_cases hn : 0 ≤ numG g p.b p.p
  · have hd : decide (0 ≤ numG g p.b p.p) = true := decide_eq_true hn
    rw [hd] at cT
    have HQ2 := Lib.hid (show putOk g H i p = !takenH H i p by rw [HQ.out, hd]; simp)
    have HN := Lib.hid (show encP g (putA A i p i) = numG g p.b p.p by unfold putA; rw [if_pos rfl]; rfl)
    clear HQ hd hm
    by_cases htk : takenH H i p = true
    · have HOK := Lib.hid (show putOk g H i p = false by rw [HQ2.out, htk]; rfl)
      obtain ⟨y, hy1, hy2⟩ : ∃ y, H p = some y ∧ y ≠ i := by
        unfold takenH at htk
        cases e : H p with
        | none => rw [e] at htk; cases htk
        | some y => rw [e] at htk; exact ⟨y, rfl, by simpa using htk⟩
      have hyb : (y != (i : Int)) = true := by rw [bne_iff_ne]; exact hy2
      rw [hy1] at cW
      simp only [Option.getD_some, Option.isSome_some] at cW
      clear htk hy1 hy2 HQ2 cN
      generalize numG g p.b p.p = nm at *
      go_enter Try.func30, Try.ntmps30
      go_wp2_with fail
      refine (cW _ (HS.out.grow ((Grow.refl w).alloc _))).mono ?_
      rintro e w1 ⟨rfl, g1⟩
      go_upto_region 2 with (fail)
      have gw := ((Grow.refl w).alloc (plO p.b p.p)).trans g1
      have HS1 := HS.out.grow gw
      obtain ⟨k0, k1, k2, k3, k4, k5⟩ := ref6 HS1.2.1
      obtain ⟨q0, q1⟩ := box2 (g1.blk HBX.out)
      have hR1 : R < w1.heap.size := (Array.getElem?_eq_some_iff.1 HS1.2.1).1
      have hx1 : w.heap.size < w1.heap.size := (Array.getElem?_eq_some_iff.1 (g1.blk HBX.out)).1
      have HG := Lib.hid gw
      have HS1' := Lib.hid HS1
      clear g1 gw HS1
      refine wp_region_gr (by kernel_rfl) (by kernel_rfl) ?_
      repeat (go_big_quiet_step (first | (go_at_call 53; exact Calls.gr (cT _))))
      refine wpQuiet_nil ?_
      rintro _ ⟨y, rfl⟩
      go_wp2_with fail
      go_ret
      exact rput_bad HS.out HOK.out (HG.out.trans y.g)
    · have HOK := Lib.hid (show putOk g H i p = true by rw [HQ2.out]; simpa using htk)
      have hcase : H p = none ∨ H p = some (i : Int) := by
        unfold takenH at htk
        cases e : H p with
        | none => exact .inl rfl
        | some y => rw [e] at htk; exact .inr (by simp at htk; rw [htk])
      clear htk HQ2
      generalize numG g p.b p.p = nm at *
      have hnm : True := trivial
      rcases hcase with hy1 | hy1
      all_goals
        rw [hy1] at cW
        simp only [Option.getD_none, Option.isSome_none, Option.getD_some, Option.isSome_some] at cW
        have hii : ((i : Int) != (i : Int)) = false := by simp
        clear hy1
        go_enter Try.func30, Try.ntmps30
        go_wp2_with fail
        refine (cW _ (HS.out.grow ((Grow.refl w).alloc _))).mono ?_
        rintro e w1 ⟨rfl, g1⟩
        go_upto_region 2 with (fail)
        have gw := ((Grow.refl w).alloc (plO p.b p.p)).trans g1
        have HS1 := HS.out.grow gw
        obtain ⟨k0, k1, k2, k3, k4, k5⟩ := ref6 HS1.2.1
        obtain ⟨q0, q1⟩ := box2 (g1.blk HBX.out)
        have hR1 : R < w1.heap.size := (Array.getElem?_eq_some_iff.1 HS1.2.1).1
        have hx1 : w.heap.size < w1.heap.size := (Array.getElem?_eq_some_iff.1 (g1.blk HBX.out)).1
        have HG := Lib.hid gw
        have HS1' := Lib.hid HS1
        clear g1 gw HS1
        refine wp_region_gr (by kernel_rfl) (by kernel_rfl) ?_
        repeat (go_big_quiet_step (first | (go_at_call 53; exact Calls.gr (cT _))))
        refine wpQuiet_nil ?_
        rintro _ ⟨y, rfl⟩
        have HS2 := HS1'.out.grow y.g
        obtain ⟨k0, k1, k2, k3, k4, k5⟩ := ref6 HS2.2.1
        have q0 := (y.g.cells _ 0 hx1).trans q0
        have q1 := (y.g.cells _ 1 hx1).trans q1
        have HS2' := Lib.hid HS2
        have HG2 := Lib.hid (HG.out.trans y.g)
        have hx2 : w.heap.size < y.W.heap.size := Nat.lt_of_lt_of_le hx1 y.g.size
        generalize y.W = V at *
        clear HS2 HS1' HG hx1 hR1
        have key : ∀ W, Turned b V W → W.cell? ⟨R, 0, none⟩ = some (.int .i64 g.blocks) ∧ W.cell? ⟨R, 1, none⟩ = some (.int .i64 g.pages) ∧ W.cell? ⟨R, 2, none⟩ = some (.int .i64 g.bytes) ∧ W.cell? ⟨R, 3, none⟩ = some (.int .i64 g.spares) ∧ W.cell? ⟨R, 4, none⟩ = some (.int .i64 g.trigger) ∧ W.cell? ⟨R, 5, none⟩ = some (.slice (some ⟨b, 0, none⟩) (logN g) c) ∧ W.cell? ⟨w.heap.size, 0, none⟩ = some (.int .i64 p.b) ∧ W.cell? ⟨w.heap.size, 1, none⟩ = some (.int .i64 p.p) := fun W tW => by
          have e1 := ref6 ((tW.block R (Array.getElem?_eq_some_iff.1 HS2'.out.2.1).1 HS2'.out.ne).trans HS2'.out.2.1)
          have hbne : w.heap.size ≠ b := by have := HS.out.lt.2; omega
          exact ⟨e1.1, e1.2.1, e1.2.2.1, e1.2.2.2.1, e1.2.2.2.2.1, e1.2.2.2.2.2, (tW.cell hx2 hbne).trans q0, (tW.cell hx2 hbne).trans q1⟩
        have HK := Lib.hid key
        have s0 := key _ (Turned.of_grow (Grow.refl V).drew)
        clear key k0 k1 k2 k3 k4 k5 q0 q1
        go_upto_region 4 with (fail)
        go_region_held3 (fun w' => w'.cell? ⟨R, 0, none⟩ = some (.int .i64 g.blocks) ∧ w'.cell? ⟨R, 1, none⟩ = some (.int .i64 g.pages) ∧ w'.cell? ⟨R, 2, none⟩ = some (.int .i64 g.bytes) ∧ w'.cell? ⟨R, 3, none⟩ = some (.int .i64 g.spares) ∧ w'.cell? ⟨R, 4, none⟩ = some (.int .i64 g.trigger) ∧ w'.cell? ⟨R, 5, none⟩ = some (.slice (some ⟨b, 0, none⟩) (logN g) c) ∧ w'.cell? ⟨w.heap.size, 0, none⟩ = some (.int .i64 p.b) ∧ w'.cell? ⟨w.heap.size, 1, none⟩ = some (.int .i64 p.p))
          (with_reducible (first | exact s3 | exact s2 | exact s1 | exact s0))
          (first
            | (go_at_call 54; refine (cN _).mono ?_; rintro e w2 ⟨rfl, g2⟩; have hs2 := HS2'.out.grow ((Grow.refl V).drew.trans g2); have hst := hs2.set hi (A' := putA A i p) (fun j _ => putA_enc p); rw [HN.out] at hst; have HST := Lib.hid hst; have hf := hs2.2.2.frozenAt i; have hc := hs2.cell hi; have s1 := HK.out _ (Turned.of_grow ((Grow.refl V).drew.trans g2)); have s2 := HK.out _ ((Turned.of_grow ((Grow.refl V).drew.trans g2)).trans hst.2); clear hs2 hst))
        go_wp2_with fail
        go_ret
        exact ⟨(by rw [HOK.out]; try rfl), ((Turned.of_grow (HG2.out.trans ((Grow.refl V).drew.trans g2))).trans HST.out.2), by rw [HOK.out]; exact HST.out.1⟩
  · have HOK := Lib.hid (show putOk g H i p = false by rw [HQ.out, decide_eq_false hn]; rfl)
    have hd : decide (0 ≤ numG g p.b p.p) = false := decide_eq_false hn
    rw [hd] at cT
    clear HQ hm cN hd hn
    generalize H p = hp at *
    generalize numG g p.b p.p = nm at *
    go_enter Try.func30, Try.ntmps30
    go_wp2_with fail
    refine (cW _ (HS.out.grow ((Grow.refl w).alloc _))).mono ?_
    rintro e w1 ⟨rfl, g1⟩
    go_upto_region 2 with (fail)
    have gw := ((Grow.refl w).alloc (plO p.b p.p)).trans g1
    have HS1 := HS.out.grow gw
    obtain ⟨k0, k1, k2, k3, k4, k5⟩ := ref6 HS1.2.1
    obtain ⟨q0, q1⟩ := box2 (g1.blk HBX.out)
    have hR1 : R < w1.heap.size := (Array.getElem?_eq_some_iff.1 HS1.2.1).1
    have hx1 : w.heap.size < w1.heap.size := (Array.getElem?_eq_some_iff.1 (g1.blk HBX.out)).1
    have HG := Lib.hid gw
    have HS1' := Lib.hid HS1
    clear g1 gw HS1
    refine wp_region_gr (by kernel_rfl) (by kernel_rfl) ?_
    repeat (go_big_quiet_step (first | (go_at_call 53; exact Calls.gr (cT _))))
    refine wpQuiet_nil ?_
    rintro _ ⟨y, rfl⟩
    go_wp2_with fail
    go_ret
    exact rput_bad HS.out HOK.out (HG.out.trans y.g)
theorem dropA_same {x : Int} (e : A x = none) : dropA A x = A := by
  funext y
  unfold dropA
  by_cases h : y = x
  · rw [if_pos h, h, e]
  · rw [if_neg h]
def RetRDrop (base : Nat) (w : World) (R b c : Nat) (g : Geo) (A : Int → Option Pl) (x : Int) (e : Ending) (w' : World) : Prop :=
  e = .returned (.bool (A x).isSome) ∧ Turned b w w' ∧ RSt base w' R b c g (dropA A x)
set_option maxRecDepth 100000 in
set_option maxHeartbeats 2000000 in
theorem rdrop_any (s : RSt base w R b c g A) (t : Two g A H) (hm : mayG g = true) (x : Int) :
    Calls Try.prog 31 #[.pointer (some ⟨R, 0, none⟩), .int .i64 x] w (RetRDrop base w R b c g A x) := by
  have cP := rplace_any s t hm x
  have HS := Lib.hid s
  obtain ⟨hl1, hl2, hl3⟩ := logN_bd hm
  have hR : R < w.heap.size := (Array.getElem?_eq_some_iff.1 s.2.1).1
  have hbb : b < w.heap.size := s.lt.2
  cases e : A x with
  | none =>
    have HA := Lib.hid (dropA_same e)
    have HE := Lib.hid e
    rw [e] at cP
    simp only [Option.getD_none, Option.isSome_none] at cP
    clear s t hm e
    go_enter Try.func31, Try.ntmps31
    go_wp2_with fail
    refine cP.mono ?_
    rintro e w1 ⟨rfl, g1⟩
    go_wp2_with fail
    go_ret
    exact ⟨by rw [HE.out]; rfl, .of_grow (g1.alloc _), by rw [HA.out]; exact HS.out.grow (g1.alloc _)⟩
  | some p =>
    have hpg := t.page x p e
    obtain ⟨i, rfl⟩ : ∃ i : Nat, x = i := ⟨x.toNat, by omega⟩
    have hi : i < logN g := by omega
    have hlt' : (i : Int) < (logN g : Nat) := by omega
    have HE := Lib.hid e
    have HN := Lib.hid (show encP g (dropA A i i) = -1 by unfold dropA; rw [if_pos rfl]; rfl)
    rw [e] at cP
    simp only [Option.getD_some, Option.isSome_some] at cP
    clear s t hm e hpg
    go_enter Try.func31, Try.ntmps31
    go_wp2_with fail
    refine cP.mono ?_
    rintro e w1 ⟨rfl, g1⟩
    go_upto_region 2 with (fail)
    generalize hV : w1.alloc (.cells #[.int .i64 p.b, .int .i64 p.p] 28) = V
    have gV : Grow w V := by rw [← hV]; exact g1.alloc _
    have hs := HS.out.grow gV
    have hst := hs.set hi (A' := dropA A i) (fun j _ => dropA_enc)
    rw [HN.out] at hst
    obtain ⟨k0, k1, k2, k3, k4, k5⟩ := ref6 hs.2.1
    have hf := hs.2.2.frozenAt i
    have hc := hs.cell hi
    have HST := Lib.hid hst
    clear hs hst hV g1
    go_wp2_with fail
    go_ret
    exact ⟨by rw [HE.out]; rfl, (Turned.of_grow gV).trans HST.out.2, HST.out.1⟩
end
theorem own_slice {e : TypeId} {k base : Nat} {v : Value} {n : Nat} {xs : List Value} {w : World} (h : w.ownsRow base e k v n xs) : ∃ a m c, v = .slice a m c := by
  rcases h.2 with ⟨rfl, _⟩ | ⟨b, c, _, h, _⟩
  · exact ⟨_, _, _, rfl⟩
  · exact ⟨_, _, _, h⟩
def RetRNew (g : Geo) (w : World) (e : Ending) (w' : World) : Prop := ∃ R b c, e = .returned (.pointer (some ⟨R, 0, none⟩)) ∧ RSt w.heap.size w' R b c g noA ∧ Grow w w'
theorem grown_set (w : World) (B o : Nat) (u : Value) : w.grownBy (w.setCell ⟨B, o, none⟩ u) (some B) :=
  ⟨rfl, rfl, rfl, by simp, fun i _ hb => heap_setCell_other w ⟨B, o, none⟩ i u (fun e => hb (by rw [e]))⟩
set_option maxRecDepth 100000 in
theorem rnew_no (g : Geo) (w : World) (h : mayG g = false) : Calls Try.prog 28 #[geoV g] w fun e w' => e = .returned (.pointer none) ∧ Grow w w' := by
  have c := fun W => rmay_any g W
  rw [h] at c
  clear h
  go_enter Try.func28, Try.ntmps28
  go_wp2_with fail
  refine (c _).mono ?_
  rintro e w1 ⟨rfl, g1⟩
  go_wp2_with fail
  go_ret
  exact ⟨rfl, ((Grow.refl _).alloc _).trans g1⟩
def NewI (w : World) (g : Geo) (R i : Nat) (wx : World) : Prop :=
  w.heap.size < R ∧ wx.heap[w.heap.size]? = some (geoO g) ∧ ∃ v, wx.heap[R]? = some (refO g v) ∧ Own 3 1 w v i (List.replicate i (.int .i64 (-1))) wx
theorem refL_no (g : Geo) : (refL g noA).map (Value.int .i64) = List.replicate (logN g) (.int .i64 (-1)) := by
  unfold refL noA
  rw [List.map_map]
  apply List.ext_getElem?
  intro j
  by_cases h : j < logN g
  · rw [List.getElem?_map, List.getElem?_range h, List.getElem?_replicate, if_pos h]; rfl
  · rw [List.getElem?_eq_none (by simpa using Nat.le_of_not_lt h), List.getElem?_eq_none (by simpa using Nat.le_of_not_lt h)]
set_option maxRecDepth 100000 in
set_option maxHeartbeats 2000000 in
theorem rnew_yes (g : Geo) (w : World) (hm : mayG g = true) : Calls Try.prog 28 #[geoV g] w (RetRNew g w) := by
  have c := fun W => rmay_any g W
  have cL := fun W => rlogical_any g W
  obtain ⟨hl1, hl2, hl3⟩ := logN_bd hm
  have HX := Lib.hid (heap_alloc_new w (geoO g))
  rw [hm] at c cL
  simp only [if_true] at cL
  rw [show halfI g = ((logN g : Nat) : Int) by rw [hl3]; unfold logG; rw [hm]; rfl] at cL
  obtain ⟨i0, hi0, hz0, hz1, hz2⟩ := info_parts info_int13
  clear hm hl3
  go_enter Try.func28, Try.ntmps28
  go_wp2_with fail
  refine (c _).mono ?_
  rintro e w1 ⟨rfl, g1⟩
  obtain ⟨b0, b1, b2, b3, b4⟩ := geo5 (g1.blk HX.out)
  have hs1 : w.heap.size < w1.heap.size := (Array.getElem?_eq_some_iff.1 (g1.blk HX.out)).1
  have HI := Lib.hid (show NewI w g w1.heap.size 0 (w1.alloc (refO g (.slice none 0 0))) from ⟨hs1, ((Grow.refl w1).alloc _).blk (g1.blk HX.out), _, heap_alloc_new w1 _, Own.start ((((Grow.refl w).alloc _).trans g1).alloc _)⟩)
  go_wp2_with fail
  go_loopw [4] (fun v4 wx => ∃ i : Nat, v4 = .int .i64 i ∧ i ≤ logN g ∧ NewI w g w1.heap.size i wx) (fun v4 _ => logN g - (Go.RowKit.intOf v4).toNat)
  case atStart => exact ⟨0, rfl, by omega, HI.out⟩
  case round =>
    obtain ⟨i, rfl, hi, hR, hbx, v, hrx, ho⟩ := hrel
    clear HI b0 b1 b2 b3 b4
    obtain ⟨b0, b1, b2, b3, b4⟩ := geo5 hbx
    have HBX := Lib.hid hbx
    have HRX := Lib.hid hrx
    have HO := Lib.hid ho
    clear hbx hrx ho
    by_cases hlt : i < logN g
    · have hlt' : (i : Int) < (logN g : Nat) := by omega
      go_wp2_with fail
      refine (cL _).mono ?_
      rintro e w2 ⟨rfl, g2⟩
      obtain ⟨k0, k1, k2, k3, k4, k5⟩ := ref6 (g2.blk HRX.out)
      have HO2 := Lib.hid (HO.out.grow' g2)
      have HBX2 := Lib.hid (g2.blk HBX.out)
      have HRX2 := Lib.hid (g2.blk HRX.out)
      have hR2 : w1.heap.size < w2.heap.size := (Array.getElem?_eq_some_iff.1 (g2.blk HRX.out)).1
      clear b0 b1 b2 b3 b4
      go_wp2_with (at_builtin; refine app_one rfl _ _ 36 rfl 3 i0 _ 1 8 Try.underlying36 hi0 hz0 hz1 hz2 rfl (by decide) v i (List.replicate i (.int .i64 (-1))) rfl w w2 ?_ [.int .i64 (-1)] rfl ?_ rfl ?_ (by decide) ?_; exact HO2.out; (intro u hu; simp at hu; subst hu; rfl); omega; intro v' w3 ho' hk' _; obtain ⟨va, vn, vc, rfl⟩ := own_slice ho'.row; have hr3 := hk' _ _ _ _ (by decide) HRX2.out; have hb3 := hk' _ _ _ _ (by decide) HBX2.out; have HO' := Lib.hid ho'; have HR3 := Lib.hid hr3; have HB3 := Lib.hid hb3; have f5 := frozen_of_row w3 w1.heap.size 5 _ _ hr3; have c5 : w3.cell? ⟨w1.heap.size, 5, none⟩ = some v := (cell_of_row w3 _ 5 _ _ _ hr3).trans rfl; clear ho' hk' hr3 hb3)
      go_roundw
      case rel =>
        have hg := grown_set w3 w1.heap.size 5 (.slice va vn vc)
        refine ⟨i + 1, by go_num, by omega, hR, (hg.block _ (Array.getElem?_eq_some_iff.1 HB3.out).1 (fun e => by injection e; omega)).trans HB3.out, .slice va vn vc, ?_, ?_⟩
        · rw [heap_setCell_same w3 w1.heap.size 5 _ _ _ HR3.out]; rfl
        · refine ⟨?_, Turned.grow (Turned.of_grown hg) HO'.out.grow (by omega)⟩
          have := HO'.out.row.kept hg (.inr (Ne.symm (HO'.out.far (by decide) HR3.out)))
          rw [show List.replicate (i + 1) (Value.int .i64 (-1)) = List.replicate i (Value.int .i64 (-1)) ++ [Value.int .i64 (-1)] from List.replicate_succ']
          exact this
      case measure => simp [Go.RowKit.intOf]; omega
    · have hlt' : ¬ (i : Int) < (logN g : Nat) := by omega
      obtain rfl : i = logN g := by omega
      go_wp2_with fail
      refine (cL _).mono ?_
      rintro e w2 ⟨rfl, g2⟩
      go_wp2_with fail
      go_ret
      obtain ⟨a, cc, rfl⟩ : ∃ b c, v = .slice (some ⟨b, 0, none⟩) (logN g) c := by
        rcases HO.out.row.2 with ⟨rfl, h0⟩ | ⟨b, c, _, h, _⟩
        · have := HO.out.row.1; rw [h0] at this; simp at this; omega
        · exact ⟨b, c, h⟩
      have ho2 := HO.out.grow' g2
      have hrow := ho2.row
      rw [← refL_no] at hrow
      exact ⟨w1.heap.size, a, cc, rfl, ⟨by omega, g2.blk HRX.out, hrow⟩, ho2.grow⟩
end Go.Proofs.Ytcfkpaijlibjaaa
