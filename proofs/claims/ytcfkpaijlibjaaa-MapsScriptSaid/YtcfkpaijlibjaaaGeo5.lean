/- The reference's geometry, chapter 5. -/
import Derived.Test.YtcfkpaijlibjaaaGeom
set_option linter.unusedVariables false
set_option linter.unusedSimpArgs false
namespace Go.Proofs.Ytcfkpaijlibjaaa
open Go.RowKit Go.Lib
set_option maxRecDepth 100000 in
theorem rin_any (n lo hi : Int) (w : World) : Calls Try.prog 62 #[.int .i64 n, .int .i64 lo, .int .i64 hi] w fun e w' => e = .returned (.bool (inI n lo hi)) ∧ w = w' := by
  unfold inI
  by_cases h : lo ≤ n
  · go_enter Try.func62, Try.ntmps62
    go_wp2_with fail
    go_ret
    exact ⟨ret_bool (by simp [h]), rfl⟩
  · go_enter Try.func62, Try.ntmps62
    go_wp2_with fail
    go_ret
    exact ⟨ret_bool (by rw [decide_eq_false (show ¬ lo ≤ n by omega)]; rfl), rfl⟩
set_option maxRecDepth 100000 in
theorem rhalf_any (g : Geo) (w : World) (h1 : 8 ≤ g.blocks ∧ g.blocks ≤ 20) (h2 : 4 ≤ g.pages ∧ g.pages ≤ 8) (h3 : 0 ≤ g.spares ∧ g.spares ≤ 4) :
    Calls Try.prog 63 #[geoV g] w fun e w' => e = .returned (.int .i64 (halfI g)) ∧ Grow w w' := by
  have hb := half_bd (x := g.blocks - g.spares - 3) (p := g.pages) (by omega) (by omega) (by omega) (by omega)
  have HR := Lib.hid (show halfI g = (max ((g.blocks - g.spares - 3) * g.pages - 4) 0) / 2 by unfold halfI; rw [show max ((g.blocks - g.spares - 3) * g.pages - 4) 0 = (g.blocks - g.spares - 3) * g.pages - 4 by omega])
  have hn : 0 ≤ (g.blocks - g.spares - 3) * g.pages - 4 := by omega
  have hm : max ((g.blocks - g.spares - 3) * g.pages - 4) 0 = (g.blocks - g.spares - 3) * g.pages - 4 := by omega
  go_enter Try.func63, Try.ntmps63
  go_wp2_with fail
  go_ret
  exact ⟨by rw [HR.out]; try go_num, (Grow.refl _).alloc _⟩
set_option maxRecDepth 100000 in
theorem rmay_any (g : Geo) (w : World) : Calls Try.prog 49 #[geoV g] w fun e w' => e = .returned (.bool (mayG g)) ∧ Grow w w' := by
  have HM := Lib.hid (show mayG g = (inI g.blocks 8 20 && inI g.pages 4 8 && inI g.bytes 24 64 && inI g.spares 0 4 && inI g.trigger 2 20 && decide (4 ≤ halfI g)) from rfl)
  have k0 := fun W => rin_any g.blocks 8 20 W
  have k1 := fun W => rin_any g.pages 4 8 W
  have k2 := fun W => rin_any g.bytes 24 64 W
  have k3 := fun W => rin_any g.spares 0 4 W
  have k4 := fun W => rin_any g.trigger 2 20 W
  cases e0 : inI g.blocks 8 20
  · have HR := Lib.hid (show mayG g = false by rw [HM.out, e0]; simp)
    rw [e0] at k0
    clear HM e0
    go_enter Try.func49, Try.ntmps49
    go_wp2_with fail
    refine (k0 _).mono ?_
    rintro e w0 ⟨rfl, rfl⟩
    go_wp2_with fail
    go_ret
    exact ⟨ret_bool HR.out.symm, (Grow.refl _).alloc _⟩
  · rw [e0] at k0
    cases e1 : inI g.pages 4 8
    · have HR := Lib.hid (show mayG g = false by rw [HM.out, e0, e1]; simp)
      rw [e1] at k1
      clear HM e0 e1
      go_enter Try.func49, Try.ntmps49
      go_wp2_with fail
      refine (k0 _).mono ?_
      rintro e w0 ⟨rfl, rfl⟩
      go_wp2_with fail
      refine (k1 _).mono ?_
      rintro e w1 ⟨rfl, rfl⟩
      go_wp2_with fail
      go_ret
      exact ⟨ret_bool HR.out.symm, (Grow.refl _).alloc _⟩
    · rw [e1] at k1
      cases e2 : inI g.bytes 24 64
      · have HR := Lib.hid (show mayG g = false by rw [HM.out, e0, e1, e2]; simp)
        rw [e2] at k2
        clear HM e0 e1 e2
        go_enter Try.func49, Try.ntmps49
        go_wp2_with fail
        refine (k0 _).mono ?_
        rintro e w0 ⟨rfl, rfl⟩
        go_wp2_with fail
        refine (k1 _).mono ?_
        rintro e w1 ⟨rfl, rfl⟩
        go_wp2_with fail
        refine (k2 _).mono ?_
        rintro e w2 ⟨rfl, rfl⟩
        go_wp2_with fail
        go_ret
        exact ⟨ret_bool HR.out.symm, (Grow.refl _).alloc _⟩
      · rw [e2] at k2
        cases e3 : inI g.spares 0 4
        · have HR := Lib.hid (show mayG g = false by rw [HM.out, e0, e1, e2, e3]; simp)
          rw [e3] at k3
          clear HM e0 e1 e2 e3
          go_enter Try.func49, Try.ntmps49
          go_wp2_with fail
          refine (k0 _).mono ?_
          rintro e w0 ⟨rfl, rfl⟩
          go_wp2_with fail
          refine (k1 _).mono ?_
          rintro e w1 ⟨rfl, rfl⟩
          go_wp2_with fail
          refine (k2 _).mono ?_
          rintro e w2 ⟨rfl, rfl⟩
          go_wp2_with fail
          refine (k3 _).mono ?_
          rintro e w3 ⟨rfl, rfl⟩
          go_wp2_with fail
          go_ret
          exact ⟨ret_bool HR.out.symm, (Grow.refl _).alloc _⟩
        · rw [e3] at k3
          cases e4 : inI g.trigger 2 20
          · have HR := Lib.hid (show mayG g = false by rw [HM.out, e0, e1, e2, e3, e4]; simp)
            rw [e4] at k4
            clear HM e0 e1 e2 e3 e4
            go_enter Try.func49, Try.ntmps49
            go_wp2_with fail
            refine (k0 _).mono ?_
            rintro e w0 ⟨rfl, rfl⟩
            go_wp2_with fail
            refine (k1 _).mono ?_
            rintro e w1 ⟨rfl, rfl⟩
            go_wp2_with fail
            refine (k2 _).mono ?_
            rintro e w2 ⟨rfl, rfl⟩
            go_wp2_with fail
            refine (k3 _).mono ?_
            rintro e w3 ⟨rfl, rfl⟩
            go_wp2_with fail
            refine (k4 _).mono ?_
            rintro e w4 ⟨rfl, rfl⟩
            go_wp2_with fail
            go_ret
            exact ⟨ret_bool HR.out.symm, (Grow.refl _).alloc _⟩
          · rw [e4] at k4
            have c0 := fun W => rhalf_any g W (inI_iff.1 e0) (inI_iff.1 e1) (inI_iff.1 e3)
            have hh : halfI g ≤ 66 := by
              have := inI_iff.1 e0; have := inI_iff.1 e1; have := inI_iff.1 e3
              have := half_bd (x := g.blocks - g.spares - 3) (p := g.pages) (by omega) (by omega) (by omega) (by omega)
              unfold halfI; omega
            have HR := Lib.hid (show mayG g = decide (4 ≤ halfI g) by rw [HM.out, e0, e1, e2, e3, e4]; simp)
            generalize halfI g = hv at *
            clear HM e0 e1 e2 e3 e4
            go_enter Try.func49, Try.ntmps49
            go_wp2_with fail
            refine (k0 _).mono ?_
            rintro e w0 ⟨rfl, rfl⟩
            go_wp2_with fail
            refine (k1 _).mono ?_
            rintro e w1 ⟨rfl, rfl⟩
            go_wp2_with fail
            refine (k2 _).mono ?_
            rintro e w2 ⟨rfl, rfl⟩
            go_wp2_with fail
            refine (k3 _).mono ?_
            rintro e w3 ⟨rfl, rfl⟩
            go_wp2_with fail
            refine (k4 _).mono ?_
            rintro e w4 ⟨rfl, rfl⟩
            go_wp2_with fail
            refine (c0 _).mono ?_
            rintro e w9 ⟨rfl, g9⟩
            go_wp2_with fail
            go_ret
            exact ⟨ret_bool HR.out.symm, ((Grow.refl _).alloc _).trans g9⟩
set_option maxRecDepth 100000 in
theorem rlogical_any (g : Geo) (w : World) : Calls Try.prog 50 #[geoV g] w fun e w' => e = .returned (.int .i64 (if mayG g then halfI g else 0)) ∧ Grow w w' := by
  have c := fun W => rmay_any g W
  cases e : mayG g
  · rw [e] at c
    go_enter Try.func50, Try.ntmps50
    go_wp2_with fail
    refine (c _).mono ?_
    rintro e w1 ⟨rfl, g1⟩
    go_wp2_with fail
    go_ret
    exact ⟨rfl, ((Grow.refl _).alloc _).trans g1⟩
  · have hb := mayG_bd e
    have ch := fun W => rhalf_any g W hb.1 hb.2.1 hb.2.2.2.1
    rw [e] at c
    have hx : ∀ o : Obj, o = .cells #[.int .i64 g.blocks, .int .i64 g.pages, .int .i64 g.bytes, .int .i64 g.spares, .int .i64 g.trigger] 43 → (w.alloc o).heap[w.heap.size]? = some o := fun o _ => heap_alloc_new w o
    have HX := Lib.hid (hx _ rfl)
    clear hx hb e
    go_enter Try.func50, Try.ntmps50
    go_wp2_with fail
    refine (c _).mono ?_
    rintro e w1 ⟨rfl, g1⟩
    have HB := g1.blk HX.out
    obtain ⟨b0, b1, b2, b3, b4⟩ := geo5 HB
    clear HB
    go_wp2_with fail
    refine (ch _).mono ?_
    rintro e w2 ⟨rfl, g2⟩
    go_wp2_with fail
    go_ret
    exact ⟨rfl, (((Grow.refl _).alloc _).trans g1).trans g2⟩
set_option maxRecDepth 100000 in
theorem rthere_any (g : Geo) (b p : Int) (w : World) : Calls Try.prog 53 #[geoV g, .agg #[.int .i64 b, .int .i64 p]] w fun e w' => e = .returned (.bool (isG g b p)) ∧ Grow w w' := by
  have c := fun W => rmay_any g W
  have HM := Lib.hid (show isG g b p = (mayG g && inI b 0 (g.blocks - 1) && inI p 0 (g.pages - 1)) from rfl)
  have HB := Lib.hid (two_boxes w (geoO g) (plO b p))
  cases e : mayG g
  · rw [e] at c
    have HR := Lib.hid (show isG g b p = false by rw [HM.out, e]; rfl)
    clear e HM HB
    go_enter Try.func53, Try.ntmps53
    go_wp2_with fail
    refine (c _).mono ?_
    rintro e w1 ⟨rfl, g1⟩
    go_wp2_with fail
    go_ret
    exact ⟨ret_bool HR.out.symm, (((Grow.refl _).alloc _).alloc _).trans g1⟩
  · rw [e] at c
    have hbd := mayG_bd e
    have hb1 := hbd.1
    have hb2 := hbd.2.1
    have HR := Lib.hid (show isG g b p = (inI b 0 (g.blocks - 1) && inI p 0 (g.pages - 1)) by rw [HM.out, e]; simp)
    have k1 := fun W => rin_any b 0 (g.blocks - 1) W
    have k2 := fun W => rin_any p 0 (g.pages - 1) W
    clear e HM hbd
    cases e1 : inI b 0 (g.blocks - 1)
    · rw [e1] at k1
      have HR2 := Lib.hid (show isG g b p = false by rw [HR.out, e1]; rfl)
      clear e1 HR
      go_enter Try.func53, Try.ntmps53
      go_wp2_with fail
      refine (c _).mono ?_
      rintro e w1 ⟨rfl, g1⟩
      obtain ⟨b0, b1, b2, b3, b4⟩ := geo5 (g1.blk HB.out.1)
      obtain ⟨q0, q1⟩ := box2 (g1.blk HB.out.2)
      go_wp2_with fail
      refine (k1 _).mono ?_
      rintro e w2 ⟨rfl, rfl⟩
      go_wp2_with fail
      go_ret
      exact ⟨ret_bool HR2.out.symm, (((Grow.refl _).alloc _).alloc _).trans g1⟩
    · rw [e1] at k1
      have HR2 := Lib.hid (show isG g b p = inI p 0 (g.pages - 1) by rw [HR.out, e1]; simp)
      clear e1 HR
      generalize inI p 0 (g.pages - 1) = r at *
      go_enter Try.func53, Try.ntmps53
      go_wp2_with fail
      refine (c _).mono ?_
      rintro e w1 ⟨rfl, g1⟩
      obtain ⟨b0, b1, b2, b3, b4⟩ := geo5 (g1.blk HB.out.1)
      obtain ⟨q0, q1⟩ := box2 (g1.blk HB.out.2)
      go_wp2_with fail
      refine (k1 _).mono ?_
      rintro e w2 ⟨rfl, rfl⟩
      go_wp2_with fail
      refine (k2 _).mono ?_
      rintro e w2 ⟨rfl, rfl⟩
      go_wp2_with fail
      go_ret
      exact ⟨ret_bool HR2.out.symm, (((Grow.refl _).alloc _).alloc _).trans g1⟩
set_option maxRecDepth 100000 in
theorem rnumber_any (g : Geo) (b p : Int) (w : World) : Calls Try.prog 54 #[geoV g, .agg #[.int .i64 b, .int .i64 p]] w fun e w' => e = .returned (.int .i64 (numG g b p)) ∧ Grow w w' := by
  have c := fun W => rmay_any g W
  have ci := fun W => rthere_any g b p W
  have HB := Lib.hid (two_boxes w (geoO g) (plO b p))
  cases e : mayG g
  · rw [e] at c
    have HR := Lib.hid (show numG g b p = 0 by unfold numG; rw [e]; rfl)
    clear e HB ci
    go_enter Try.func54, Try.ntmps54
    go_wp2_with fail
    refine (c _).mono ?_
    rintro e w1 ⟨rfl, g1⟩
    go_wp2_with fail
    go_ret
    exact ⟨by rw [HR.out]; first | done | rfl, (((Grow.refl _).alloc _).alloc _).trans g1⟩
  · rw [e] at c
    have hbd := mayG_bd e
    have hb1 := hbd.1
    have hb2 := hbd.2.1
    have HR := Lib.hid (show numG g b p = if isG g b p then b * g.pages + p else -1 by unfold numG; rw [e]; rfl)
    have HI := Lib.hid (show isG g b p = (inI b 0 (g.blocks - 1) && inI p 0 (g.pages - 1)) by unfold isG; rw [e]; simp)
    clear e hbd
    cases e1 : isG g b p
    · rw [e1] at ci
      have HR2 := Lib.hid (show numG g b p = -1 by rw [HR.out, e1]; rfl)
      clear e1 HR HI
      go_enter Try.func54, Try.ntmps54
      go_wp2_with fail
      refine (c _).mono ?_
      rintro e w1 ⟨rfl, g1⟩
      obtain ⟨b0, b1, b2, b3, b4⟩ := geo5 (g1.blk HB.out.1)
      obtain ⟨q0, q1⟩ := box2 (g1.blk HB.out.2)
      go_wp2_with fail
      refine (ci _).mono ?_
      rintro e w2 ⟨rfl, g2⟩
      go_wp2_with fail
      go_ret
      exact ⟨by rw [HR2.out]; first | done | rfl, ((((Grow.refl _).alloc _).alloc _).trans g1).trans g2⟩
    · rw [e1] at ci
      have HR2 := Lib.hid (show numG g b p = b * g.pages + p by rw [HR.out, e1]; rfl)
      have hi := HI.out
      rw [e1] at hi
      have hi' := Bool.and_eq_true_iff.1 hi.symm
      have i1 := inI_iff.1 hi'.1
      have i2 := inI_iff.1 hi'.2
      have hn := num_bd (b := b) (p := g.pages) (q := 0) (by omega) (by omega) (by omega) (by omega)
      clear e1 HR HI hi hi'
      go_enter Try.func54, Try.ntmps54
      go_wp2_with fail
      refine (c _).mono ?_
      rintro e w1 ⟨rfl, g1⟩
      obtain ⟨b0, b1, b2, b3, b4⟩ := geo5 (g1.blk HB.out.1)
      obtain ⟨q0, q1⟩ := box2 (g1.blk HB.out.2)
      go_wp2_with fail
      refine (ci _).mono ?_
      rintro e w2 ⟨rfl, g2⟩
      obtain ⟨b0', b1', b2', b3', b4'⟩ := geo5 ((g1.trans g2).blk HB.out.1)
      obtain ⟨q0', q1'⟩ := box2 ((g1.trans g2).blk HB.out.2)
      go_wp2_with fail
      go_ret
      exact ⟨by rw [HR2.out]; try go_num, ((((Grow.refl _).alloc _).alloc _).trans g1).trans g2⟩
end Go.Proofs.Ytcfkpaijlibjaaa
