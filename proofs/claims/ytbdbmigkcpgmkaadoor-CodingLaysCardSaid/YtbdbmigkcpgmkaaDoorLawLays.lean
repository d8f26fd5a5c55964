/- The walk of the law CodingLays. -/
import Derived.Test.YtbdbmigkcpgmkaaDoorLawSizes
import Derived.Test.YtbdbmigkcpgmkaaDoorLayr
import Derived.Test.YtbdbmigkcpgmkaaDoorOver
set_option linter.unusedVariables false
set_option linter.unusedSimpArgs false
namespace Go.Proofs.YtbdbmigkcpgmkaaDoor
open Go.RowKit Go.Lib
set_option maxRecDepth 100000 in
theorem num_of (n : Int) (w : World) : Calls Tryd.prog 26 #[.int .i64 n] w fun e w' => e = .returned (.int .i64 n) ∧ w = w' := by
  go_enter Tryd.func26, Tryd.ntmps26
  go_wp2_with fail
  go_ret
  exact ⟨rfl, rfl⟩
set_option maxRecDepth 100000 in
theorem rsize_any (s : Shelf) (bv nv : Value) (w : World) (h : ShelfR w s bv nv) (hz : TameS s) :
    Calls Tryd.prog 28 #[shelfV s bv nv] w fun e w' => e = .returned (.int .i64 (sizeS s)) ∧ Grow w w' := by
  have g0 : Grow w (w.alloc (.cells #[.int .i64 s.nb, .int .i64 s.nn, .int .i64 s.ns, bv, nv] 36)) := (Grow.refl w).alloc _
  have c0 := rlay_any s bv nv _ (h.grow g0) hz
  obtain ⟨a1, c1, rfl⟩ := h.1.mk
  obtain ⟨a2, c2, rfl⟩ := h.2.mk
  clear h hz
  unfold shelfV at c0 ⊢
  go_enter Tryd.func28, Tryd.ntmps28
  go_wp2_with fail
  refine c0.mono ?_
  rintro e w1 hp
  rcases hp with ⟨hm, rfl, g1⟩ | ⟨hm, v, rfl, hb⟩
  · have HM := Lib.hid (show sizeS s = 0 by unfold sizeS; rw [hm]; rfl)
    clear hm
    go_wp2_with fail
    go_ret
    exact ⟨ret_i64 (by rw [HM.out]; rfl), g0.trans g1⟩
  · have HM := Lib.hid (show sizeS s = (layB s).length by unfold sizeS; rw [hm]; rfl)
    clear hm
    have hg := hb.grow
    obtain ⟨a, c, e⟩ := hb.bytes.mk
    subst e
    clear hb
    go_wp2_with fail
    go_ret
    exact ⟨ret_i64 (by rw [HM.out]), g0.trans hg⟩
/-- What a Lay answers, of a shelf that may be or not: its bytes' value, their list, the error. -/
def LayOut (s : Shelf) (w : World) (e : Ending) (w' : World) : Prop :=
  ∃ v l n, e = .returned (.tuple #[v, .int .i64 n]) ∧ Buf w v l w' ∧ l = (if mayS s = true then layB s else []) ∧ n = (if mayS s = true then 0 else 2)
theorem layOut_of {s : Shelf} {w : World} {e : Ending} {w' : World} (h : LayPost s w e w') : LayOut s w e w' := by
  rcases h with ⟨hm, rfl, g⟩ | ⟨hm, v, rfl, hb⟩
  · exact ⟨_, [], _, rfl, Own.start g, by rw [hm]; rfl, by rw [hm]; rfl⟩
  · exact ⟨_, _, _, rfl, hb, by rw [if_pos hm], by rw [if_pos hm]⟩
theorem layB_le {s : Shelf} (hm : mayS s = true) (hz : TameS s) : (layB s).length ≤ 1000000000 := by
  have h1 := flat_le bookB 1000004 s.books (fun x hm => bookB_le (hz.1.2.2.1 x hm))
  have h2 := flat_le noteB 6000000 s.notes (fun x hx => by
    obtain ⟨i, hi, e⟩ := List.getElem_of_mem hx
    have := (mayS_small hm).2.2 x hx
    exact noteB_le (hz.note (i := i) (by rw [List.getElem?_eq_getElem hi, e])) this.1 this.2)
  have n1 := (mayS_small hm).1
  have n2 := (mayS_small hm).2.1
  have h3 := Nat.mul_le_mul_right 1000004 n1
  have h4 := Nat.mul_le_mul_right 6000000 n2
  rw [layB_length]; omega
theorem if_len {s : Shelf} (hz : TameS s) : (if mayS s = true then layB s else []).length ≤ 1000000000 := by
  split
  · rename_i hm; exact layB_le hm hz
  · simp
set_option maxRecDepth 100000 in
set_option maxHeartbeats 4000000 in
theorem lays_walk (s : Shelf) (bv nv : Value) (w : World) (h : ShelfR w s bv nv) (hI : ∀ n ∈ s.notes, ∀ y ∈ n.sheets, Wf y) (hG : ∀ n ∈ s.notes, n.tags.length ≤ 9223372036854775807) (hT : Tabs w) :
    Calls Tryd.prog 7 #[shelfV s bv nv] w fun e w' => e = .returned (.bool true) ∧ Grow w w' := by
  have cA := fun W (g : Grow w W) => awake19_any W (hT.below g)
  have cG := fun W (g : Grow w W) => great_any s bv nv W (h.grow g) hG
  have cS := fun W (g : Grow w W) (hz : TameS s) => size_any s bv nv W (h.grow g) hz (hT.below g)
  have dS := fun W (g : Grow w W) (hz : TameS s) => rsize_any s bv nv W (h.grow g) hz
  have cL := fun W (g : Grow w W) (hz : TameS s) => (lay_any s bv nv W (h.grow g) hz (hT.below g)).mono fun _ _ => layOut_of
  have dL := fun W (g : Grow w W) (hz : TameS s) => (rlay_any s bv nv W (h.grow g) hz).mono fun _ _ => layOut_of
  obtain ⟨a1, c1, rfl⟩ := h.1.mk
  obtain ⟨a2, c2, rfl⟩ := h.2.mk
  have HI := Lib.hid hI
  clear h hI hG
  unfold shelfV at cG cS cL dS dL ⊢
  go_enter Tryd.func7, Tryd.ntmps7
  go_wp2_with fail
  refine (cG _ ((Grow.refl w).alloc _)).mono ?_
  rintro e w1 ⟨g1, r, rfl, hr⟩
  have gw1 := ((Grow.refl w).alloc _).trans g1
  have HX := Lib.hid (Grow.blk g1 (heap_alloc_new w _))
  clear g1 cG
  obtain ⟨p0, p1, p2, p3, p4⟩ := box5 HX.out
  cases r with
  | true =>
    go_wp2_with fail
    refine (cA w1 gw1).mono ?_
    rintro e w2 ⟨rfl, g2⟩
    go_wp2_with fail
    go_ret
    exact ⟨rfl, gw1.trans g2⟩
  | false =>
    have hlow := hr rfl
    have HZ := Lib.hid (show TameS s from ⟨hlow.tame, HI.out⟩)
    have HL := Lib.hid (if_len HZ.out)
    clear hlow hr
    go_wp2_with fail
    refine (cL w1 gw1 HZ.out).mono ?_
    rintro e w2 ⟨va, la, na, rfl, ha, hla, hna⟩
    have HLA := Lib.hid hla
    have HNA := Lib.hid hna
    have HA := Lib.hid ha
    have g2 := ha.grow
    have gw2 := gw1.trans g2
    obtain ⟨aa, ac, ea⟩ := ha.bytes.mk
    replace HX := Lib.hid (Grow.blk g2 HX.out)
    clear p0 p1 p2 p3 p4 ha hla hna
    subst ea
    obtain ⟨p0, p1, p2, p3, p4⟩ := box5 HX.out
    go_wp2_with fail
    refine (dL w2 gw2 HZ.out).mono ?_
    rintro e w3 ⟨vb, lb, n2, rfl, hb, hlb, hnb⟩
    obtain rfl : la = lb := HLA.out.trans hlb.symm
    obtain rfl : na = n2 := HNA.out.trans hnb.symm
    have HB := Lib.hid hb
    have g3 := hb.grow
    have gw3 := gw2.trans g3
    obtain ⟨ba, bc, eb⟩ := hb.bytes.mk
    replace HX := Lib.hid (Grow.blk g3 HX.out)
    have hll : la.length ≤ 1000000000 := by rw [hlb]; exact HL.out
    clear p0 p1 p2 p3 p4 hb hlb hnb
    subst eb
    obtain ⟨p0, p1, p2, p3, p4⟩ := box5 HX.out
    have hsz : w.heap.size < w3.heap.size := (Array.getElem?_eq_some_iff.1 HX.out).1
    have kB := fun y : Gr w3 => sameBytes_any _ _ la la y.W (Bytes.grow (Bytes.grow HA.out.bytes g3) y.g) (Bytes.grow HB.out.bytes y.g) hll
    have kN := fun W => num_of na W
    have kS := fun y : Gr w3 => cS y.W (gw3.trans y.g) HZ.out
    have kD := fun y : Gr w3 => dS y.W (gw3.trans y.g) HZ.out
    rw [same_yes rfl] at kB
    go_upto_region 5 with (fail)
    refine wp_region_gr (by kernel_rfl) (by kernel_rfl) ?_
    repeat (go_big_quiet_step (first | (go_at_call 25; exact Calls.gr (kB _)) | (go_at_call 26; exact Calls.gr_same (kN _)) | (go_at_call 27; exact Calls.gr (kS _)) | (go_at_call 28; exact Calls.gr (kD _))))
    try rw [beq_self_eq_true]
    repeat (go_big_quiet_step (first | (go_at_call 25; exact Calls.gr (kB _)) | (go_at_call 26; exact Calls.gr_same (kN _)) | (go_at_call 27; exact Calls.gr (kS _)) | (go_at_call 28; exact Calls.gr (kD _))))
    refine wpQuiet_nil ?_
    rintro _ ⟨y, rfl⟩
    have gy := y.g
    generalize y.W = wy at *
    have gwy := gw3.trans gy
    replace HX := Lib.hid (Grow.blk gy HX.out)
    have HAy := Lib.hid ((HA.out.grow' g3).grow' gy)
    have HBy := Lib.hid (HB.out.grow' gy)
    have cO := overBytes_any (.slice aa la.length ac) la.length w1.heap.size _ wy HAy.out.row hll HAy.out.grow.size
    clear p0 p1 p2 p3 p4 kB kN kS kD hsz y
    go_wp2_with fail
    refine cO.mono ?_
    rintro e w5 ⟨rfl, hg5⟩
    have gw5 : Grow w w5 := Below.grown gwy hg5 gwy.size (fun k hk => by have := (HAy.out.row.lt k hk).1; have := gw1.size; omega)
    have HX5 := Lib.hid ((hg5.block _ (Array.getElem?_eq_some_iff.1 HX.out).1 (HAy.out.far (by decide) HX.out)).trans HX.out)
    have HB5 : Hid (Bytes w5 (.slice ba la.length bc) la) := by
      refine Lib.hid (row_bytes (HBy.out.row.kept hg5 ?_))
      rcases hob : Value.ownBlock (.slice ba la.length bc) with _ | b
      · exact .inl rfl
      · right
        intro he
        have h1 := (HBy.out.row.lt b hob).1
        have h2 := (HA.out.row.lt b he.symm).2
        omega
    clear cO hg5
    obtain ⟨p0, p1, p2, p3, p4⟩ := box5 HX5.out
    go_wp2_with fail
    refine (cL w5 gw5 HZ.out).mono ?_
    rintro e w6 ⟨vc, lc, n3, rfl, hc, hlc, hnc⟩
    obtain rfl : la = lc := HLA.out.trans hlc.symm
    have HC := Lib.hid hc
    have g6 := hc.grow
    have gw6 := gw5.trans g6
    obtain ⟨ca, cc, ec⟩ := hc.bytes.mk
    have cB := sameBytes_any _ (.slice ba la.length bc) la la w6 hc.bytes (Bytes.grow HB5.out g6) hll
    rw [same_yes rfl] at cB
    clear p0 p1 p2 p3 p4 hc hlc hnc
    subst ec
    go_wp2_with fail
    refine cB.mono ?_
    rintro e w7 ⟨rfl, g7⟩
    clear cB
    go_wp2_with fail
    refine (cA w7 (gw6.trans g7)).mono ?_
    rintro e w8 ⟨rfl, g8⟩
    go_wp2_with fail
    go_ret
    exact ⟨rfl, (gw6.trans g7).trans g8⟩
theorem lays_law (s : Shelf) (bv nv : Value) (w : World) (h : ShelfArg w s bv nv) (hT : Tabs w) :
    Calls Tryd.prog 7 #[shelfV s bv nv] w fun e w' => e = .returned (.bool true) ∧ Below w.heap.size w w' := lays_walk s bv nv w h.rows h.ints h.tags hT
end Go.Proofs.YtbdbmigkcpgmkaaDoor
