/- The walk of jotterlaw26.SeekMore. -/
import Derived.Test.YtgpjcgcecahddaaGreatDoorJSeekJoinsf
import Derived.Test.YtgpjcgcecahddaaGreatDoorJSeekJoinse
import Derived.Test.YtgpjcgcecahddaaGreatDoorJSeekJoinsd
import Derived.Test.YtgpjcgcecahddaaGreatDoorJSeekJoinsb
set_option linter.unusedVariables false
set_option linter.unusedSimpArgs false
namespace Go.Proofs.YtgpjcgcecahddaaGreatDoor
open Go.RowKit Go.Lib
structure MoreF (A B : List Item) : Prop where
  less : B.length ≤ A.length
  sub : ∀ x ∈ B, inB A x = true
  inc : B.Pairwise fun a b => lt2 a b = true
  few : A.length ≤ 1000000
theorem more_of {s : Shelf} (p : MayP s) {q t : ByteArray} (q0 : q.size ≠ 0) (t0 : t.size ≠ 0) (q6 : q.size ≤ 60) (t6 : t.size ≤ 60) (hq : (terms q).isSome = true) (ht : (terms t).isSome = true) : More s q ((q ++ ⟨#[32]⟩) ++ t) ((t ++ ⟨#[32]⟩) ++ q) ((q ++ ⟨#[32]⟩) ++ q) :=
  more_law p (by simp) (by simp) (by simp) q0 t0 q6 t6 (fun e => by rw [e] at hq; cases hq) (fun e => by rw [e] at ht; cases ht)
theorem find_few {s : Shelf} (p : MayP s) {q : ByteArray} (hq : (terms q).isSome = true) : (findI s q).length ≤ 1000000 := by
  obtain ⟨l, hl⟩ := Option.isSome_iff_exists.1 hq
  rw [find_len p hl]
  have h1 : (hits s l).length ≤ s.notes.length := List.length_filter_le ..
  have h2 := p.nl
  omega
theorem not_empty {q : ByteArray} (h : (q.toList == []) = false) : q.size ≠ 0 := by
  rw [empty_list] at h
  intro e
  unfold full at h
  rw [e] at h
  simp at h
theorem lt2_parts {u x : Item} (h : lt2 u x = true) : ltS x.name u.name = false ∧ ((x.name.toList == u.name.toList) = true → u.id < x.id) := by
  unfold lt2 at h
  constructor
  · cases e : ltS x.name u.name
    · rfl
    · exfalso
      rcases Bool.or_eq_true_iff.1 h with h1 | h1
      · have h9 := ltS_trans e h1
        rw [ltS_irrefl] at h9; cases h9
      · rw [list_eq.1 (Bool.and_eq_true_iff.1 h1).1, ltS_irrefl] at e; cases e
  · intro e
    rcases Bool.or_eq_true_iff.1 h with h1 | h1
    · rw [list_eq.1 e, ltS_irrefl] at h1; cases h1
    · simpa using (Bool.and_eq_true_iff.1 h1).2
set_option maxRecDepth 100000 in
set_option maxHeartbeats 8000000 in
theorem more_walk (s : Shelf) (bv nv : Value) (q t : ByteArray) (w : World) (h : ShelfR w s bv nv) (hI : ∀ n ∈ s.notes, ∀ y ∈ n.sheets, Wf y) (hG : ∀ n ∈ s.notes, n.tags.length ≤ 9223372036854775807) (zq : q.size ≤ 140737488351232) (zt : t.size ≤ 140737488351232) (hT : Tabs w) (hm : MaxL w) :
    Calls Tryz.prog 7 #[shelfV s bv nv, .string q, .string t] w fun e w' => e = .returned (.bool true) ∧ Grow w w' := by
  have HTB := Lib.hid hT
  have HMX := Lib.hid hm
  obtain ⟨xa, xc, rfl⟩ := h.1.mk
  obtain ⟨ya, yc, rfl⟩ := h.2.mk
  have HRS := Lib.hid h
  have HI := Lib.hid hI
  have HGT := Lib.hid hG
  have HXX := Lib.hid (heap_alloc_new w (.cells #[.int .i64 s.nb, .int .i64 s.nn, .int .i64 s.ns, .slice xa s.books.length xc, .slice ya s.notes.length yc] 25))
  clear h hI hG hT hm
  unfold shelfV
  go_enter Tryz.func7, Tryz.ntmps7
  go_upto_region 1 with (fail)
  generalize hV : w.alloc (.cells #[.int .i64 s.nb, .int .i64 s.nn, .int .i64 s.ns, .slice xa s.books.length xc, .slice ya s.notes.length yc] 25) = U1
  have gV : Grow w U1 := by rw [← hV]; exact (Grow.refl w).alloc _
  have HB1 : Hid (U1.heap[w.heap.size]? = some (shB s (.slice xa s.books.length xc) (.slice ya s.notes.length yc))) := by rw [← hV]; exact HXX
  clear hV HXX
  have GW := Lib.hid gV
  have HRW := Lib.hid (HRS.out.grow gV)
  clear gV
  have c := great_any s _ _ _ HRW.out HGT.out
  try unfold shelfV at c
  obtain ⟨⟨p0, p1, p2, p3, p4⟩, pz⟩ := n5 HB1.out
  go_wp2_with fail
  refine c.mono ?_
  clear c p0 p1 p2 p3 p4 pz
  rintro e U2 ⟨g, r, rfl, hr⟩
  replace GW := Lib.hid (GW.out.trans g)
  replace HRW := Lib.hid (HRW.out.grow g)
  replace HB1 := Lib.hid (Grow.blk g HB1.out)
  clear g
  cases r with
  | true =>
    clear hr
    have c := awake26_any _ (HTB.out.below GW.out) (HMX.out.grow GW.out)
    go_wp2_with fail
    refine c.mono ?_
    rintro e UA ⟨rfl, gA⟩
    go_wp2_with fail
    go_ret
    exact ⟨rfl, GW.out.trans gA⟩
  | false =>
    have hlow := hr rfl
    have HZ := Lib.hid (show TameS s from ⟨hlow.tame, HI.out⟩)
    clear hr hlow
    by_cases h1 : (60 : Int) < q.size
    · have c := awake26_any _ (HTB.out.below GW.out) (HMX.out.grow GW.out)
      go_wp2_with fail
      refine c.mono ?_
      rintro e UA ⟨rfl, gA⟩
      go_wp2_with fail
      go_ret
      exact ⟨rfl, GW.out.trans gA⟩
    by_cases h2 : (60 : Int) < t.size
    · have c := awake26_any _ (HTB.out.below GW.out) (HMX.out.grow GW.out)
      go_wp2_with fail
      refine c.mono ?_
      rintro e UA ⟨rfl, gA⟩
      go_wp2_with fail
      go_ret
      exact ⟨rfl, GW.out.trans gA⟩
    cases h3 : (q.toList == [])
    rotate_left
    · have h3b : q.toList = [] := by simpa using h3
      have c := awake26_any _ (HTB.out.below GW.out) (HMX.out.grow GW.out)
      go_wp2_with fail
      refine c.mono ?_
      rintro e UA ⟨rfl, gA⟩
      go_wp2_with fail
      go_ret
      exact ⟨rfl, GW.out.trans gA⟩
    cases h4 : (t.toList == [])
    rotate_left
    · have h4b : t.toList = [] := by simpa using h4
      have c := awake26_any _ (HTB.out.below GW.out) (HMX.out.grow GW.out)
      go_wp2_with fail
      refine c.mono ?_
      rintro e UA ⟨rfl, gA⟩
      go_wp2_with fail
      go_ret
      exact ⟨rfl, GW.out.trans gA⟩
    have HQ0 := Lib.hid (not_empty h3)
    have HT0 := Lib.hid (not_empty h4)
    have c := mayS_any s _ _ _ HRW.out HZ.out (HTB.out.below GW.out)
    unfold shelfV at c
    obtain ⟨⟨p0, p1, p2, p3, p4⟩, pz⟩ := n5 HB1.out
    cases hmy : mayS s
    · rw [hmy] at c
      clear hmy
      go_wp2_with fail
      refine c.mono ?_
      clear c p0 p1 p2 p3 p4 pz
      rintro e U3 ⟨rfl, g⟩
      replace GW := Lib.hid (GW.out.trans g)
      replace HRW := Lib.hid (HRW.out.grow g)
      replace HB1 := Lib.hid (Grow.blk g HB1.out)
      clear g
      have c := awake26_any _ (HTB.out.below GW.out) (HMX.out.grow GW.out)
      go_wp2_with fail
      refine c.mono ?_
      rintro e UA ⟨rfl, gA⟩
      go_wp2_with fail
      go_ret
      exact ⟨rfl, GW.out.trans gA⟩
    rw [hmy] at c
    have HP := Lib.hid (mayS_iff.1 hmy)
    clear hmy
    go_wp2_with fail
    refine c.mono ?_
    clear c p0 p1 p2 p3 p4 pz
    rintro e U3 ⟨rfl, g⟩
    replace GW := Lib.hid (GW.out.trans g)
    replace HRW := Lib.hid (HRW.out.grow g)
    replace HB1 := Lib.hid (Grow.blk g HB1.out)
    clear g
    have c := mayQ_any q U3 (by omega)
    cases hmq : (terms q).isSome
    · rw [hmq] at c
      clear hmq
      go_wp2_with fail
      refine c.mono ?_
      clear c
      rintro e U4 ⟨rfl, g⟩
      replace GW := Lib.hid (GW.out.trans g)
      replace HRW := Lib.hid (HRW.out.grow g)
      replace HB1 := Lib.hid (Grow.blk g HB1.out)
      clear g
      have c := awake26_any _ (HTB.out.below GW.out) (HMX.out.grow GW.out)
      go_wp2_with fail
      refine c.mono ?_
      rintro e UA ⟨rfl, gA⟩
      go_wp2_with fail
      go_ret
      exact ⟨rfl, GW.out.trans gA⟩
    rw [hmq] at c
    have HMq := Lib.hid hmq
    clear hmq
    go_wp2_with fail
    refine c.mono ?_
    clear c
    rintro e U4 ⟨rfl, g⟩
    replace GW := Lib.hid (GW.out.trans g)
    replace HRW := Lib.hid (HRW.out.grow g)
    replace HB1 := Lib.hid (Grow.blk g HB1.out)
    clear g
    have c := mayQ_any t U4 (by omega)
    cases hmt : (terms t).isSome
    · rw [hmt] at c
      clear hmt
      go_wp2_with fail
      refine c.mono ?_
      clear c
      rintro e U5 ⟨rfl, g⟩
      replace GW := Lib.hid (GW.out.trans g)
      replace HRW := Lib.hid (HRW.out.grow g)
      replace HB1 := Lib.hid (Grow.blk g HB1.out)
      clear g
      have c := awake26_any _ (HTB.out.below GW.out) (HMX.out.grow GW.out)
      go_wp2_with fail
      refine c.mono ?_
      rintro e UA ⟨rfl, gA⟩
      go_wp2_with fail
      go_ret
      exact ⟨rfl, GW.out.trans gA⟩
    rw [hmt] at c
    have HMt := Lib.hid hmt
    clear hmt
    go_wp2_with fail
    refine c.mono ?_
    clear c
    rintro e U5 ⟨rfl, g⟩
    replace GW := Lib.hid (GW.out.trans g)
    replace HRW := Lib.hid (HRW.out.grow g)
    replace HB1 := Lib.hid (Grow.blk g HB1.out)
    clear g
    have HM := Lib.hid (more_of HP.out HQ0.out HT0.out (by omega) (by omega) HMq.out HMt.out)
    obtain ⟨A, hA⟩ : ∃ A, findI s q = A := ⟨_, rfl⟩
    obtain ⟨B, hB⟩ : ∃ B, findI s ((q ++ ⟨#[32]⟩) ++ t) = B := ⟨_, rfl⟩
    have HF := Lib.hid (show MoreF A B from by rw [← hA, ← hB]; exact ⟨HM.out.less, HM.out.sub, HM.out.inc, find_few HP.out HMq.out⟩)
    have HSA := Lib.hid hA
    have HSB := Lib.hid hB
    clear hA hB h3 h4
    have c := seekFind_any s _ _ q U5 HRW.out HZ.out (HTB.out.below GW.out) (HMX.out.grow GW.out) (by omega)
    rw [HM.out.e1, HSA.out] at c
    unfold shelfV at c
    obtain ⟨⟨p0, p1, p2, p3, p4⟩, pz⟩ := n5 HB1.out
    go_wp2_with fail
    refine c.mono ?_
    clear c p0 p1 p2 p3 p4 pz
    rintro e U6 ⟨va, rfl, g, hr⟩
    replace GW := Lib.hid (GW.out.trans g)
    replace HRW := Lib.hid (HRW.out.grow g)
    replace HB1 := Lib.hid (Grow.blk g HB1.out)
    obtain ⟨aa, ac, ev, -⟩ := hr.slice
    subst ev
    have HA := Lib.hid (row_items hr)
    clear hr g
    have c := seekFind_any s _ _ ((q ++ ⟨#[32]⟩) ++ t) U6 HRW.out HZ.out (HTB.out.below GW.out) (HMX.out.grow GW.out) (by rw [ByteArray.size_append, ByteArray.size_append, show (⟨#[32]⟩ : ByteArray).size = 1 from rfl]; omega)
    rw [HM.out.e2, HSB.out] at c
    unfold shelfV at c
    obtain ⟨⟨p0, p1, p2, p3, p4⟩, pz⟩ := n5 HB1.out
    go_wp2_with fail
    refine c.mono ?_
    clear c p0 p1 p2 p3 p4 pz
    rintro e U7 ⟨vb, rfl, g, hr⟩
    replace GW := Lib.hid (GW.out.trans g)
    replace HRW := Lib.hid (HRW.out.grow g)
    replace HB1 := Lib.hid (Grow.blk g HB1.out)
    replace HA := Lib.hid (Items.grow HA.out g)
    obtain ⟨ba, bc, ev, -⟩ := hr.slice
    subst ev
    have HB := Lib.hid (row_items hr)
    clear hr g
    have c := seekFind_any s _ _ ((t ++ ⟨#[32]⟩) ++ q) U7 HRW.out HZ.out (HTB.out.below GW.out) (HMX.out.grow GW.out) (by rw [ByteArray.size_append, ByteArray.size_append, show (⟨#[32]⟩ : ByteArray).size = 1 from rfl]; omega)
    rw [HM.out.e3, ← HM.out.swap, HSB.out] at c
    unfold shelfV at c
    obtain ⟨⟨p0, p1, p2, p3, p4⟩, pz⟩ := n5 HB1.out
    go_wp2_with fail
    refine c.mono ?_
    clear c p0 p1 p2 p3 p4 pz
    rintro e U8 ⟨vc, rfl, g, hr⟩
    replace GW := Lib.hid (GW.out.trans g)
    replace HRW := Lib.hid (HRW.out.grow g)
    replace HB1 := Lib.hid (Grow.blk g HB1.out)
    replace HA := Lib.hid (Items.grow HA.out g)
    replace HB := Lib.hid (Items.grow HB.out g)
    obtain ⟨ca, cc, ev, -⟩ := hr.slice
    subst ev
    have HC := Lib.hid (row_items hr)
    clear hr g
    have c := seekFind_any s _ _ ((q ++ ⟨#[32]⟩) ++ q) U8 HRW.out HZ.out (HTB.out.below GW.out) (HMX.out.grow GW.out) (by rw [ByteArray.size_append, ByteArray.size_append, show (⟨#[32]⟩ : ByteArray).size = 1 from rfl]; omega)
    rw [HM.out.e4, HM.out.twice, HSA.out] at c
    unfold shelfV at c
    obtain ⟨⟨p0, p1, p2, p3, p4⟩, pz⟩ := n5 HB1.out
    go_wp2_with fail
    refine c.mono ?_
    clear c p0 p1 p2 p3 p4 pz
    rintro e U9 ⟨vd, rfl, g, hr⟩
    replace GW := Lib.hid (GW.out.trans g)
    replace HRW := Lib.hid (HRW.out.grow g)
    replace HB1 := Lib.hid (Grow.blk g HB1.out)
    replace HA := Lib.hid (Items.grow HA.out g)
    replace HB := Lib.hid (Items.grow HB.out g)
    replace HC := Lib.hid (Items.grow HC.out g)
    obtain ⟨da, dc, ev, -⟩ := hr.slice
    subst ev
    have HD := Lib.hid (row_items hr)
    clear hr g
    have hBA : ¬ (A.length : Int) < B.length := by have := HF.out.less; omega
    have hAl : A.length ≤ 1000000 := HF.out.few
    have c := sameItems_any _ _ B B U9 HB.out HC.out (by omega)
    rw [same_yes rfl] at c
    go_wp2_with fail
    refine c.mono ?_
    clear c
    rintro e U10 ⟨rfl, g⟩
    replace GW := Lib.hid (GW.out.trans g)
    replace HRW := Lib.hid (HRW.out.grow g)
    replace HB1 := Lib.hid (Grow.blk g HB1.out)
    replace HA := Lib.hid (Items.grow HA.out g)
    replace HB := Lib.hid (Items.grow HB.out g)
    replace HC := Lib.hid (Items.grow HC.out g)
    replace HD := Lib.hid (Items.grow HD.out g)
    clear g
    have c := sameItems_any _ _ A A U10 HD.out HA.out (by omega)
    rw [same_yes rfl] at c
    go_wp2_with fail
    refine c.mono ?_
    clear c
    rintro e U11 ⟨rfl, g⟩
    replace GW := Lib.hid (GW.out.trans g)
    replace HRW := Lib.hid (HRW.out.grow g)
    replace HB1 := Lib.hid (Grow.blk g HB1.out)
    replace HA := Lib.hid (Items.grow HA.out g)
    replace HB := Lib.hid (Items.grow HB.out g)
    replace HC := Lib.hid (Items.grow HC.out g)
    replace HD := Lib.hid (Items.grow HD.out g)
    clear g
    clear HC HD HSA HSB HM
    go_wp2_with fail
    go_loopw [15] (fun v15 wx => ∃ i : Nat, v15 = .int .i64 i ∧ i ≤ B.length ∧ Grow U11 wx) (fun v15 _ => B.length - (Go.RowKit.intOf v15).toNat)
    case atStart => exact ⟨0, rfl, by omega, Grow.refl _⟩
    case round =>
      obtain ⟨i, rfl, hi, hg⟩ := hrel
      have HG := Lib.hid hg
      clear hg
      by_cases hlt : i < B.length
      · have hlt' : (i : Int) < B.length := by omega
        obtain ⟨x, hx, -⟩ := lt_get hlt
        obtain ⟨bb, off, rfl, hb, q0, q1⟩ := (Items.grow HB.out HG.out).at hx
        have HX := Lib.hid hx
        have kA := fun y : Gr wr => inI_any _ A x y.W (Items.grow (Items.grow HA.out HG.out) y.g) (by omega)
        rw [HF.out.sub x (List.mem_of_getElem? hx)] at kA
        clear hx
        rcases Nat.eq_zero_or_pos i with h0 | h0
        · have hd : decide (0 < i) = false := decide_eq_false (by omega)
          have hd' : decide ((0 : Int) < i) = false := decide_eq_false (by omega)
          clear h0
          go_upto_region 12 with (fail)
          refine wp_region_gr (by kernel_rfl) (by kernel_rfl) ?_
          repeat (go_big_quiet_step (first | (go_at_call 30; exact Calls.gr (kA _))))
          refine wpQuiet_nil ?_
          rintro _ ⟨yy, rfl⟩
          have HG6 := Lib.hid (HG.out.trans yy.g)
          generalize yy.W = w6 at *
          clear kA yy q0 q1 hb
          go_wp2_with fail
          go_roundw
          case rel => exact ⟨i + 1, by go_num, by omega, HG6.out⟩
          case measure => simp [Go.RowKit.intOf]; omega
        · obtain ⟨u, hu, -⟩ := lt_get (l := B) (i := i - 1) (by omega)
          obtain ⟨b', off', eZ, -, k0, k1⟩ := (Items.grow HB.out HG.out).at hu
          injection eZ with eZ
          injection eZ with e1 e2
          subst e1 e2
          have hl2 : lt2 u x = true := by
            have h9 := List.pairwise_iff_getElem.1 HF.out.inc (i - 1) i (by omega) hlt (by omega)
            rw [(List.getElem?_eq_some_iff.1 hu).2, (List.getElem?_eq_some_iff.1 HX.out).2] at h9
            exact h9
          have hf1 : Op.bytesLess x.name.toList u.name.toList = false := (lt2_parts hl2).1
          have hf2 := (lt2_parts hl2).2
          have hd : decide (0 < i) = true := decide_eq_true (by omega)
          have hd' : decide ((0 : Int) < i) = true := decide_eq_true (by omega)
          have hi0 : IntKind.i64.wrap ((i : Int) - 1) = (i : Int) - 1 := IntWalk.i64_in _ (by omega)
          have hi1 : (0 : Int) ≤ (i : Int) - 1 := by omega
          have hi2 : (i : Int) - 1 < B.length := by omega
          have hi3 : ((i : Int) - 1).toNat = i - 1 := by omega
          clear hu hl2
          cases hnm : (x.name.toList == u.name.toList)
          · clear hf2
            go_upto_region 12 with (fail)
            refine wp_region_gr (by kernel_rfl) (by kernel_rfl) ?_
            repeat (first | go_big_quiet_step (first | (go_at_call 30; exact Calls.gr (kA _))) | rw [hf1] | rw [hnm])
            refine wpQuiet_nil ?_
            rintro _ ⟨yy, rfl⟩
            have HG6 := Lib.hid (HG.out.trans yy.g)
            generalize yy.W = w6 at *
            clear kA yy q0 q1 hb k0 k1
            go_wp2_with fail
            go_roundw
            case rel => exact ⟨i + 1, by go_num, by omega, HG6.out⟩
            case measure => simp [Go.RowKit.intOf]; omega
          · have hd8 : decide (x.id ≤ u.id) = false := decide_eq_false (by have := hf2 hnm; omega)
            clear hf2
            go_upto_region 12 with (fail)
            refine wp_region_gr (by kernel_rfl) (by kernel_rfl) ?_
            repeat (first | go_big_quiet_step (first | (go_at_call 30; exact Calls.gr (kA _))) | rw [hf1] | rw [hnm] | rw [hd8])
            refine wpQuiet_nil ?_
            rintro _ ⟨yy, rfl⟩
            have HG6 := Lib.hid (HG.out.trans yy.g)
            generalize yy.W = w6 at *
            clear kA yy q0 q1 hb k0 k1
            go_wp2_with fail
            go_roundw
            case rel => exact ⟨i + 1, by go_num, by omega, HG6.out⟩
            case measure => simp [Go.RowKit.intOf]; omega
      · have hlt' : ¬ (i : Int) < B.length := by omega
        replace GW := Lib.hid (GW.out.trans HG.out)
        have c := awake26_any _ (HTB.out.below GW.out) (HMX.out.grow GW.out)
        go_wp2_with fail
        refine c.mono ?_
        rintro e UA ⟨rfl, gA⟩
        go_wp2_with fail
        go_ret
        exact ⟨rfl, GW.out.trans gA⟩
theorem more_rowlaw (s : Shelf) (bv nv : Value) (q t : ByteArray) (w : World) (h : ShelfArg w s bv nv) (zq : q.size ≤ 140737488351232) (zt : t.size ≤ 140737488351232) (hT : Tabs w) (hm : MaxL w) :
    Calls Tryz.prog 7 #[shelfV s bv nv, .string q, .string t] w fun e w' => e = .returned (.bool true) ∧ Grow w w' := more_walk s bv nv q t w h.rows h.ints h.tags zq zt hT hm
end Go.Proofs.YtgpjcgcecahddaaGreatDoor
