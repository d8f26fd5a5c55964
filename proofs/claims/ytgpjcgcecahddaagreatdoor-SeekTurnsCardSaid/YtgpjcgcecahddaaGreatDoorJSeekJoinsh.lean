/- The walk of jotterlaw26.one. The walk of jotterlaw26.SeekTurns. -/
import Derived.Test.YtgpjcgcecahddaaGreatDoorJSeekJoinse
import Derived.Test.YtgpjcgcecahddaaGreatDoorJSeekJoinsg
set_option linter.unusedVariables false
set_option linter.unusedSimpArgs false
namespace Go.Proofs.YtgpjcgcecahddaaGreatDoor
open Go.RowKit Go.Lib
def oneB (q : ByteArray) : Bool := decide (32 ∈ q.data.toList)
set_option maxRecDepth 100000 in
set_option maxHeartbeats 1000000 in
theorem oneQ_any (q : ByteArray) (w : World) (hq : q.size ≤ 1000000) : Calls Tryz.prog 29 #[.string q] w fun e w' => e = .returned (.bool (oneB q)) ∧ Grow w w' := by
  go_enter Tryz.func29, Tryz.ntmps29
  go_wp2_with fail
  go_loopw [3] (fun v3 wx => ∃ i : Nat, v3 = .int .i64 i ∧ i ≤ q.size ∧ 32 ∉ q.data.toList.take i ∧ Grow w wx) (fun v3 _ => q.size - (Go.RowKit.intOf v3).toNat)
  case atStart => exact ⟨0, rfl, by omega, by simp, Grow.refl _⟩
  case round =>
    obtain ⟨i, rfl, hi, hno, hg⟩ := hrel
    have HN := Lib.hid hno
    have HG := Lib.hid hg
    clear hno hg
    by_cases hlt : i < q.size
    · have hlt' : (i : Int) < q.size := by omega
      have hd := dropQ q hlt
      by_cases c32 : q[i] = 32
      · have b1 : (((q[i].toNat : Nat) : Int) == 32) = true := by rw [c32]; rfl
        have HP := Lib.hid (show oneB q = true from decide_eq_true (by
          have h9 : 32 ∈ q.data.toList.drop i := by rw [hd, c32]; simp
          exact List.mem_of_mem_drop h9))
        clear hd c32
        go_wp2_with fail
        go_ret
        exact ⟨ret_bool HP.out.symm, HG.out⟩
      · have b1 : (((q[i].toNat : Nat) : Int) == 32) = false := byte_ne c32
        have H33 := Lib.hid (show 32 ∉ q.data.toList.take (i + 1) by
          have h9 := take_on (q := q) (f := 0) (i := i) (by simpa using HN.out) (by omega) hlt c32
          simpa using h9)
        clear hd c32
        go_wp2_with fail
        go_roundw
        case rel => exact ⟨i + 1, by go_num, by omega, H33.out, HG.out⟩
        case measure => simp [Go.RowKit.intOf]; omega
    · have hlt' : ¬ (i : Int) < q.size := by omega
      have HP := Lib.hid (show oneB q = false from decide_eq_false (by
        have h9 := HN.out
        rw [List.take_of_length_le (by have : q.data.toList.length = q.size := rfl; omega)] at h9
        exact h9))
      go_wp2_with fail
      go_ret
      exact ⟨ret_bool HP.out.symm, HG.out⟩
theorem oneB_no {q : ByteArray} (h : oneB q = false) : 32 ∉ q.data.toList := of_decide_eq_false h
end Go.Proofs.YtgpjcgcecahddaaGreatDoor
set_option linter.unusedVariables false
set_option linter.unusedSimpArgs false
namespace Go.Proofs.YtgpjcgcecahddaaGreatDoor
open Go.RowKit Go.Lib
structure TurnF (A B C D E : List Item) (n : Nat) : Prop where
  len : A.length + B.length = n
  all : E.length = n
  one : ∀ x ∈ E, inB A x = !(inB B x) ∧ inB D x = (inB A x && inB C x)
  few : C.length ≤ 1000000 ∧ D.length ≤ 1000000
theorem turns_of {s : Shelf} (p : MayP s) {t u : ByteArray} (t0 : t.size ≠ 0) (u0 : u.size ≠ 0) (t6 : t.size ≤ 60) (u6 : u.size ≤ 60) (ht : (terms t).isSome = true) (hu : (terms u).isSome = true) (h33 : ∀ c, t.data.toList.head? = some c → c ≠ 33) (bt : oneB t = false) (bu : oneB u = false) : Turns s t (⟨#[33]⟩ ++ t) u ((t ++ ⟨#[32]⟩) ++ u) ⟨#[]⟩ :=
  turns_law p rfl (by simp) (by simp) t0 u0 t6 u6 (fun e => by rw [e] at ht; cases ht) (fun e => by rw [e] at hu; cases hu) h33 (oneB_no bt) (oneB_no bu)
theorem find_le {s : Shelf} (p : MayP s) {q : ByteArray} : (findI s q).length ≤ 1000000 := by
  cases h : terms q with
  | none =>
    unfold findI
    rw [if_pos (mayS_iff.2 p), h]; simp
  | some l => exact find_few p (by rw [h]; rfl)
theorem head_ne {t : ByteArray} (h : 0 < t.size) (h3 : t[0] ≠ 33) : ∀ c, t.data.toList.head? = some c → c ≠ 33 := fun c hc e => by
  have h9 := dropQ t h
  rw [List.drop_zero] at h9
  rw [h9] at hc
  injection hc with hc
  exact h3 (hc.trans e)
set_option maxRecDepth 100000 in
set_option maxHeartbeats 8000000 in
theorem turns_walk (s : Shelf) (bv nv : Value) (t u : ByteArray) (w : World) (h : ShelfR w s bv nv) (hI : ∀ n ∈ s.notes, ∀ y ∈ n.sheets, Wf y) (hG : ∀ n ∈ s.notes, n.tags.length ≤ 9223372036854775807) (zt : t.size ≤ 140737488351232) (zu : u.size ≤ 140737488351232) (hT : Tabs w) (hm : MaxL w) :
    Calls Tryz.prog 4 #[shelfV s bv nv, .string t, .string u] w fun e w' => e = .returned (.bool true) ∧ Grow w w' := by
  have HTB := Lib.hid hT
  have HMX := Lib.hid hm
  obtain ⟨xa, xc, rfl⟩ := h.1.mk
  obtain ⟨ya, yc, rfl⟩ := h.2.mk
  have HRS := Lib.hid h
  have HI := Lib.hid hI
  have HGT := Lib.hid hG
  have HXX := Lib.hid (heap_alloc_new w (.cells #[.int .i64 s.nb, .int .i64 s.nn, .int .i64 s.ns, .slice xa s.books.length xc, .slice ya s.notes.length yc] 25))
  clear h hI hG hT hm
  unfold shelfV
  go_enter Tryz.func4, Tryz.ntmps4
  go_upto_region 1 with (fail)
  generalize hV : w.alloc (.cells #[.int .i64 s.nb, .int .i64 s.nn, .int .i64 s.ns, .slice xa s.books.length xc, .slice ya s.notes.length yc] 25) = U1
  have gV : Grow w U1 := by rw [← hV]; exact (Grow.refl w).alloc _
  have HB1 : Hid (U1.heap[w.heap.size]? = some (shB s (.slice xa s.books.length xc) (.slice ya s.notes.length yc))) := by rw [← hV]; exact HXX
  clear hV HXX
  have GW := Lib.hid gV
  have HRW := Lib.hid (HRS.out.grow gV)
  clear gV
  have c := great_any s _ _ _ HRW.out HGT.out
  try unfold shelfV at c
  obtain ⟨⟨p0, p1, p2, p3, p4⟩, pz⟩ := n5 HB1.out
  go_wp2_with fail
  refine c.mono ?_
  clear c p0 p1 p2 p3 p4 pz
  rintro e U2 ⟨g, r, rfl, hr⟩
  replace GW := Lib.hid (GW.out.trans g)
  replace HRW := Lib.hid (HRW.out.grow g)
  replace HB1 := Lib.hid (Grow.blk g HB1.out)
  clear g
  cases r with
  | true =>
    clear hr
    have c := awake26_any _ (HTB.out.below GW.out) (HMX.out.grow GW.out)
    go_wp2_with fail
    refine c.mono ?_
    rintro e UA ⟨rfl, gA⟩
    go_wp2_with fail
    go_ret
    exact ⟨rfl, GW.out.trans gA⟩
  | false =>
    have hlow := hr rfl
    have HZ := Lib.hid (show TameS s from ⟨hlow.tame, HI.out⟩)
    clear hr hlow
    have c := mayS_any s _ _ _ HRW.out HZ.out (HTB.out.below GW.out)
    unfold shelfV at c
    obtain ⟨⟨p0, p1, p2, p3, p4⟩, pz⟩ := n5 HB1.out
    cases hmy : mayS s
    · rw [hmy] at c
      clear hmy
      go_wp2_with fail
      refine c.mono ?_
      clear c p0 p1 p2 p3 p4 pz
      rintro e U3 ⟨rfl, g⟩
      replace GW := Lib.hid (GW.out.trans g)
      replace HRW := Lib.hid (HRW.out.grow g)
      replace HB1 := Lib.hid (Grow.blk g HB1.out)
      clear g
      have c := awake26_any _ (HTB.out.below GW.out) (HMX.out.grow GW.out)
      go_wp2_with fail
      refine c.mono ?_
      rintro e UA ⟨rfl, gA⟩
      go_wp2_with fail
      go_ret
      exact ⟨rfl, GW.out.trans gA⟩
    rw [hmy] at c
    have HP := Lib.hid (mayS_iff.1 hmy)
    clear hmy
    go_wp2_with fail
    refine c.mono ?_
    clear c p0 p1 p2 p3 p4 pz
    rintro e U3 ⟨rfl, g⟩
    replace GW := Lib.hid (GW.out.trans g)
    replace HRW := Lib.hid (HRW.out.grow g)
    replace HB1 := Lib.hid (Grow.blk g HB1.out)
    clear g
    by_cases h2 : (60 : Int) < t.size
    · have c := awake26_any _ (HTB.out.below GW.out) (HMX.out.grow GW.out)
      go_wp2_with fail
      refine c.mono ?_
      rintro e UA ⟨rfl, gA⟩
      go_wp2_with fail
      go_ret
      exact ⟨rfl, GW.out.trans gA⟩
    by_cases h2 : (60 : Int) < u.size
    · have c := awake26_any _ (HTB.out.below GW.out) (HMX.out.grow GW.out)
      go_wp2_with fail
      refine c.mono ?_
      rintro e UA ⟨rfl, gA⟩
      go_wp2_with fail
      go_ret
      exact ⟨rfl, GW.out.trans gA⟩
    cases h3 : (t.toList == [])
    rotate_left
    · have h3b : t.toList = [] := by simpa using h3
      have c := awake26_any _ (HTB.out.below GW.out) (HMX.out.grow GW.out)
      go_wp2_with fail
      refine c.mono ?_
      rintro e UA ⟨rfl, gA⟩
      go_wp2_with fail
      go_ret
      exact ⟨rfl, GW.out.trans gA⟩
    cases h4 : (u.toList == [])
    rotate_left
    · have h4b : u.toList = [] := by simpa using h4
      have c := awake26_any _ (HTB.out.below GW.out) (HMX.out.grow GW.out)
      go_wp2_with fail
      refine c.mono ?_
      rintro e UA ⟨rfl, gA⟩
      go_wp2_with fail
      go_ret
      exact ⟨rfl, GW.out.trans gA⟩
    have HT0 := Lib.hid (not_empty h3)
    have HU0 := Lib.hid (not_empty h4)
    have c := mayQ_any t U3 (by omega)
    cases hmt : (terms t).isSome
    · rw [hmt] at c
      clear hmt
      go_wp2_with fail
      refine c.mono ?_
      clear c
      rintro e U4 ⟨rfl, g⟩
      replace GW := Lib.hid (GW.out.trans g)
      replace HRW := Lib.hid (HRW.out.grow g)
      replace HB1 := Lib.hid (Grow.blk g HB1.out)
      clear g
      have c := awake26_any _ (HTB.out.below GW.out) (HMX.out.grow GW.out)
      go_wp2_with fail
      refine c.mono ?_
      rintro e UA ⟨rfl, gA⟩
      go_wp2_with fail
      go_ret
      exact ⟨rfl, GW.out.trans gA⟩
    rw [hmt] at c
    have HMt := Lib.hid hmt
    clear hmt
    go_wp2_with fail
    refine c.mono ?_
    clear c
    rintro e U4 ⟨rfl, g⟩
    replace GW := Lib.hid (GW.out.trans g)
    replace HRW := Lib.hid (HRW.out.grow g)
    replace HB1 := Lib.hid (Grow.blk g HB1.out)
    clear g
    have c := mayQ_any u U4 (by omega)
    cases hmu : (terms u).isSome
    · rw [hmu] at c
      clear hmu
      go_wp2_with fail
      refine c.mono ?_
      clear c
      rintro e U5 ⟨rfl, g⟩
      replace GW := Lib.hid (GW.out.trans g)
      replace HRW := Lib.hid (HRW.out.grow g)
      replace HB1 := Lib.hid (Grow.blk g HB1.out)
      clear g
      have c := awake26_any _ (HTB.out.below GW.out) (HMX.out.grow GW.out)
      go_wp2_with fail
      refine c.mono ?_
      rintro e UA ⟨rfl, gA⟩
      go_wp2_with fail
      go_ret
      exact ⟨rfl, GW.out.trans gA⟩
    rw [hmu] at c
    have HMu := Lib.hid hmu
    clear hmu
    go_wp2_with fail
    refine c.mono ?_
    clear c
    rintro e U5 ⟨rfl, g⟩
    replace GW := Lib.hid (GW.out.trans g)
    replace HRW := Lib.hid (HRW.out.grow g)
    replace HB1 := Lib.hid (Grow.blk g HB1.out)
    clear g
    have h00 : 0 < t.size := by have := HT0.out; omega
    have h00' : (0 : Int) < t.size := by omega
    by_cases c33 : t[0] = 33
    · have b1 : (((t[0].toNat : Nat) : Int) == 33) = true := by rw [c33]; rfl
      clear c33
      have c := awake26_any _ (HTB.out.below GW.out) (HMX.out.grow GW.out)
      go_wp2_with fail
      refine c.mono ?_
      rintro e UA ⟨rfl, gA⟩
      go_wp2_with fail
      go_ret
      exact ⟨rfl, GW.out.trans gA⟩
    have H33 := Lib.hid (head_ne h00 c33)
    have b1 : (((t[0].toNat : Nat) : Int) == 33) = false := byte_ne c33
    clear c33
    have c := oneQ_any t U5 (by omega)
    cases hmp : oneB t
    rotate_left
    · rw [hmp] at c
      clear hmp
      go_wp2_with fail
      refine c.mono ?_
      clear c
      rintro e U6 ⟨rfl, g⟩
      replace GW := Lib.hid (GW.out.trans g)
      replace HRW := Lib.hid (HRW.out.grow g)
      replace HB1 := Lib.hid (Grow.blk g HB1.out)
      clear g
      have c := awake26_any _ (HTB.out.below GW.out) (HMX.out.grow GW.out)
      go_wp2_with fail
      refine c.mono ?_
      rintro e UA ⟨rfl, gA⟩
      go_wp2_with fail
      go_ret
      exact ⟨rfl, GW.out.trans gA⟩
    rw [hmp] at c
    have HMp := Lib.hid hmp
    clear hmp
    go_wp2_with fail
    refine c.mono ?_
    clear c
    rintro e U6 ⟨rfl, g⟩
    replace GW := Lib.hid (GW.out.trans g)
    replace HRW := Lib.hid (HRW.out.grow g)
    replace HB1 := Lib.hid (Grow.blk g HB1.out)
    clear g
    have c := oneQ_any u U6 (by omega)
    cases hmq : oneB u
    rotate_left
    · rw [hmq] at c
      clear hmq
      go_wp2_with fail
      refine c.mono ?_
      clear c
      rintro e U7 ⟨rfl, g⟩
      replace GW := Lib.hid (GW.out.trans g)
      replace HRW := Lib.hid (HRW.out.grow g)
      replace HB1 := Lib.hid (Grow.blk g HB1.out)
      clear g
      have c := awake26_any _ (HTB.out.below GW.out) (HMX.out.grow GW.out)
      go_wp2_with fail
      refine c.mono ?_
      rintro e UA ⟨rfl, gA⟩
      go_wp2_with fail
      go_ret
      exact ⟨rfl, GW.out.trans gA⟩
    rw [hmq] at c
    have HMq := Lib.hid hmq
    clear hmq
    go_wp2_with fail
    refine c.mono ?_
    clear c
    rintro e U7 ⟨rfl, g⟩
    replace GW := Lib.hid (GW.out.trans g)
    replace HRW := Lib.hid (HRW.out.grow g)
    replace HB1 := Lib.hid (Grow.blk g HB1.out)
    clear g
    have HM := Lib.hid (turns_of HP.out HT0.out HU0.out (by omega) (by omega) HMt.out HMu.out H33.out HMp.out HMq.out)
    obtain ⟨A, hA⟩ : ∃ A, findI s t = A := ⟨_, rfl⟩
    obtain ⟨B, hB⟩ : ∃ B, findI s (⟨#[33]⟩ ++ t) = B := ⟨_, rfl⟩
    obtain ⟨C, hC⟩ : ∃ C, findI s u = C := ⟨_, rfl⟩
    obtain ⟨D, hD⟩ : ∃ D, findI s ((t ++ ⟨#[32]⟩) ++ u) = D := ⟨_, rfl⟩
    obtain ⟨E, hE⟩ : ∃ E, findI s ⟨#[]⟩ = E := ⟨_, rfl⟩
    have HF := Lib.hid (show TurnF A B C D E s.notes.length from by rw [← hA, ← hB, ← hC, ← hD, ← hE]; exact ⟨HM.out.len, HM.out.all, HM.out.one, find_le HP.out, find_le HP.out⟩)
    have HSA := Lib.hid hA
    have HSB := Lib.hid hB
    have HSC := Lib.hid hC
    have HSD := Lib.hid hD
    have HSE := Lib.hid hE
    have hnl := HZ.out.1.2.1
    clear hA hB hC hD hE h3 h4
    have c := seekFind_any s _ _ t U7 HRW.out HZ.out (HTB.out.below GW.out) (HMX.out.grow GW.out) (by omega)
    rw [HM.out.e1, HSA.out] at c
    unfold shelfV at c
    obtain ⟨⟨p0, p1, p2, p3, p4⟩, pz⟩ := n5 HB1.out
    go_wp2_with fail
    refine c.mono ?_
    clear c p0 p1 p2 p3 p4 pz
    rintro e U8 ⟨va, rfl, g, hr⟩
    replace GW := Lib.hid (GW.out.trans g)
    replace HRW := Lib.hid (HRW.out.grow g)
    replace HB1 := Lib.hid (Grow.blk g HB1.out)
    obtain ⟨aa, ac, ev, -⟩ := hr.slice
    subst ev
    have HA := Lib.hid (row_items hr)
    clear hr g
    have c := seekFind_any s _ _ (⟨#[33]⟩ ++ t) U8 HRW.out HZ.out (HTB.out.below GW.out) (HMX.out.grow GW.out) (by rw [ByteArray.size_append, show (⟨#[33]⟩ : ByteArray).size = 1 from rfl]; omega)
    rw [HM.out.e2, HSB.out] at c
    unfold shelfV at c
    obtain ⟨⟨p0, p1, p2, p3, p4⟩, pz⟩ := n5 HB1.out
    go_wp2_with fail
    refine c.mono ?_
    clear c p0 p1 p2 p3 p4 pz
    rintro e U9 ⟨vb, rfl, g, hr⟩
    replace GW := Lib.hid (GW.out.trans g)
    replace HRW := Lib.hid (HRW.out.grow g)
    replace HB1 := Lib.hid (Grow.blk g HB1.out)
    replace HA := Lib.hid (Items.grow HA.out g)
    obtain ⟨ba, bc, ev, -⟩ := hr.slice
    subst ev
    have HB := Lib.hid (row_items hr)
    clear hr g
    have c := seekFind_any s _ _ u U9 HRW.out HZ.out (HTB.out.below GW.out) (HMX.out.grow GW.out) (by omega)
    rw [HM.out.e3, HSC.out] at c
    unfold shelfV at c
    obtain ⟨⟨p0, p1, p2, p3, p4⟩, pz⟩ := n5 HB1.out
    go_wp2_with fail
    refine c.mono ?_
    clear c p0 p1 p2 p3 p4 pz
    rintro e U10 ⟨vc, rfl, g, hr⟩
    replace GW := Lib.hid (GW.out.trans g)
    replace HRW := Lib.hid (HRW.out.grow g)
    replace HB1 := Lib.hid (Grow.blk g HB1.out)
    replace HA := Lib.hid (Items.grow HA.out g)
    replace HB := Lib.hid (Items.grow HB.out g)
    obtain ⟨ca, cc, ev, -⟩ := hr.slice
    subst ev
    have HC := Lib.hid (row_items hr)
    clear hr g
    have c := seekFind_any s _ _ ((t ++ ⟨#[32]⟩) ++ u) U10 HRW.out HZ.out (HTB.out.below GW.out) (HMX.out.grow GW.out) (by rw [ByteArray.size_append, ByteArray.size_append, show (⟨#[32]⟩ : ByteArray).size = 1 from rfl]; omega)
    rw [HM.out.e4, HSD.out] at c
    unfold shelfV at c
    obtain ⟨⟨p0, p1, p2, p3, p4⟩, pz⟩ := n5 HB1.out
    go_wp2_with fail
    refine c.mono ?_
    clear c p0 p1 p2 p3 p4 pz
    rintro e U11 ⟨vd, rfl, g, hr⟩
    replace GW := Lib.hid (GW.out.trans g)
    replace HRW := Lib.hid (HRW.out.grow g)
    replace HB1 := Lib.hid (Grow.blk g HB1.out)
    replace HA := Lib.hid (Items.grow HA.out g)
    replace HB := Lib.hid (Items.grow HB.out g)
    replace HC := Lib.hid (Items.grow HC.out g)
    obtain ⟨da, dc, ev, -⟩ := hr.slice
    subst ev
    have HD := Lib.hid (row_items hr)
    clear hr g
    have c := seekFind_any s _ _ ⟨#[]⟩ U11 HRW.out HZ.out (HTB.out.below GW.out) (HMX.out.grow GW.out) (by decide)
    rw [HM.out.e5, HSE.out] at c
    unfold shelfV at c
    obtain ⟨⟨p0, p1, p2, p3, p4⟩, pz⟩ := n5 HB1.out
    go_wp2_with fail
    refine c.mono ?_
    clear c p0 p1 p2 p3 p4 pz
    rintro e U12 ⟨ve, rfl, g, hr⟩
    replace GW := Lib.hid (GW.out.trans g)
    replace HRW := Lib.hid (HRW.out.grow g)
    replace HB1 := Lib.hid (Grow.blk g HB1.out)
    replace HA := Lib.hid (Items.grow HA.out g)
    replace HB := Lib.hid (Items.grow HB.out g)
    replace HC := Lib.hid (Items.grow HC.out g)
    replace HD := Lib.hid (Items.grow HD.out g)
    obtain ⟨ea, ec, ev, -⟩ := hr.slice
    subst ev
    have HE := Lib.hid (row_items hr)
    clear hr g
    have hn0 : IntKind.i64.wrap ((A.length : Int) + B.length) = (A.length : Int) + B.length := IntWalk.i64_in _ (by have := HF.out.len; omega)
    have hn1 : (((A.length : Int) + B.length) != s.notes.length) = false := by have := HF.out.len; simp; omega
    have hn2 : ((E.length : Int) != s.notes.length) = false := by have := HF.out.all; simp; omega
    have hE6 : E.length ≤ 1000000 := by have := HF.out.all; omega
    have hA6 : A.length ≤ 1000000 := by have := HF.out.len; omega
    have hB6 : B.length ≤ 1000000 := by have := HF.out.len; omega
    obtain ⟨⟨p0, p1, p2, p3, p4⟩, pz⟩ := n5 HB1.out
    clear HSA HSB HSC HSD HSE HM
    go_wp2_with fail
    clear hn0 hn1 hn2 p0 p1 p2 p3 p4 pz
    go_loopw [17] (fun v17 wx => ∃ i : Nat, v17 = .int .i64 i ∧ i ≤ E.length ∧ Grow U12 wx) (fun v17 _ => E.length - (Go.RowKit.intOf v17).toNat)
    case atStart => exact ⟨0, rfl, by omega, Grow.refl _⟩
    case round =>
      obtain ⟨i, rfl, hi, hg⟩ := hrel
      have HG := Lib.hid hg
      clear hg
      by_cases hlt : i < E.length
      · have hlt' : (i : Int) < E.length := by omega
        obtain ⟨x, hx, -⟩ := lt_get hlt
        obtain ⟨bb, off, rfl, hb, q0, q1⟩ := (Items.grow HE.out HG.out).at hx
        have hone := HF.out.one x (List.mem_of_getElem? hx)
        have kA := fun y : Gr wr => inI_any _ A x y.W (Items.grow (Items.grow HA.out HG.out) y.g) (by omega)
        have kB := fun y : Gr wr => inI_any _ B x y.W (Items.grow (Items.grow HB.out HG.out) y.g) (by omega)
        have kC := fun y : Gr wr => inI_any _ C x y.W (Items.grow (Items.grow HC.out HG.out) y.g) (by have := HF.out.few; omega)
        have kD := fun y : Gr wr => inI_any _ D x y.W (Items.grow (Items.grow HD.out HG.out) y.g) (by have := HF.out.few; omega)
        obtain ⟨a, ha⟩ : ∃ a, inB A x = a := ⟨_, rfl⟩
        obtain ⟨b, hb'⟩ : ∃ b, inB B x = b := ⟨_, rfl⟩
        obtain ⟨c, hc⟩ : ∃ c, inB C x = c := ⟨_, rfl⟩
        obtain ⟨d, hd⟩ : ∃ d, inB D x = d := ⟨_, rfl⟩
        rw [ha] at hone kA
        rw [hb'] at hone kB
        rw [hc] at hone kC
        rw [hd] at hone kD
        clear hx ha hb' hc hd
        cases a <;> cases b <;> cases c <;> cases d <;> first | (exfalso; revert hone; decide) | skip
        all_goals
          clear hone
          go_upto_region 13 with (fail)
          refine wp_region_gr (by kernel_rfl) (by kernel_rfl) ?_
          repeat (go_big_quiet_step (first | (go_at_call 30; first | with_reducible exact Calls.gr (kA _) | with_reducible exact Calls.gr (kB _) | with_reducible exact Calls.gr (kC _) | with_reducible exact Calls.gr (kD _))))
          refine wpQuiet_nil ?_
          rintro _ ⟨yy, rfl⟩
          have HG6 := Lib.hid (HG.out.trans yy.g)
          generalize yy.W = w6 at *
          clear kA kB kC kD yy q0 q1 hb
          go_wp2_with fail
          go_roundw
          case rel => exact ⟨i + 1, by go_num, by omega, HG6.out⟩
          case measure => simp [Go.RowKit.intOf]; omega
      · have hlt' : ¬ (i : Int) < E.length := by omega
        replace GW := Lib.hid (GW.out.trans HG.out)
        have c := awake26_any _ (HTB.out.below GW.out) (HMX.out.grow GW.out)
        go_wp2_with fail
        refine c.mono ?_
        rintro e UA ⟨rfl, gA⟩
        go_wp2_with fail
        go_ret
        exact ⟨rfl, GW.out.trans gA⟩
theorem turns_rowlaw (s : Shelf) (bv nv : Value) (t u : ByteArray) (w : World) (h : ShelfArg w s bv nv) (zt : t.size ≤ 140737488351232) (zu : u.size ≤ 140737488351232) (hT : Tabs w) (hm : MaxL w) :
    Calls Tryz.prog 4 #[shelfV s bv nv, .string t, .string u] w fun e w' => e = .returned (.bool true) ∧ Grow w w' := turns_walk s bv nv t u w h.rows h.ints h.tags zt zu hT hm
end Go.Proofs.YtgpjcgcecahddaaGreatDoor
