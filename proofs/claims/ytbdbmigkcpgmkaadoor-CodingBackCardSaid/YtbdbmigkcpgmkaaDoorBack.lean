/- The walk of the law CodingBack. -/
import Derived.Test.YtbdbmigkcpgmkaaDoorLayo
import Derived.Test.YtbdbmigkcpgmkaaDoorReadL
import Derived.Test.YtbdbmigkcpgmkaaDoorReadW
import Derived.Test.YtbdbmigkcpgmkaaDoorLow
set_option linter.unusedVariables false
set_option linter.unusedSimpArgs false
namespace Go.Proofs.YtbdbmigkcpgmkaaDoor
open Go.RowKit Go.Lib
theorem textB_low {t : ByteArray} (h : t.size ≤ 60) : (textB t).length ≤ 61 := by rw [textB_length]; omega
theorem noteB_low {x : Note} (h : x.name.size ≤ 60 ∧ x.tags.length ≤ 8 ∧ x.sheets.length ≤ 12 ∧ ∀ t ∈ x.tags, t.size ≤ 60) : (noteB x).length ≤ 600 := by
  unfold noteB
  simp only [List.length_append, putB_length]
  have h1 := textB_low h.1
  have h2 := flat_le textB 61 x.tags (fun t hm => textB_low (h.2.2.2 t hm))
  have h3 := flat_le (fun y : Int => putB y 2) 2 x.sheets (fun y hm => by rw [putB_length]; omega)
  omega
theorem layB_low {s : Shelf} (h : Low s) : (layB s).length ≤ 20000 := by
  obtain ⟨h1, h2, h3, h4⟩ := h
  have a1 := flat_le bookB 64 s.books (fun x hm => by unfold bookB; rw [List.length_append, putB_length]; have := textB_low (h3 x hm); omega)
  have a2 := flat_le noteB 600 s.notes (fun x hm => noteB_low (h4 x hm))
  unfold layB headB
  simp only [List.length_append, putB_length]
  omega
theorem layB_pos (s : Shelf) : 0 < (layB s).length := by
  unfold layB headB
  simp only [List.length_append, putB_length]
  omega
/-- What a Read answers. -/
def ReadOut (l : List UInt8) (w : World) (e : Ending) (w' : World) : Prop :=
  Grow w w' ∧ ((∃ s bv nv, readR l = some s ∧ e = .returned (.tuple #[shelfV s bv nv, .int .i64 0]) ∧ ShelfR w' s bv nv ∧ TameS s) ∨ (readR l = none ∧ e = .returned (.tuple #[shelfV ⟨0, 0, 0, [], []⟩ (.slice none 0 0) (.slice none 0 0), .int .i64 5])))
theorem tame_len : ∀ (l : List Book), True := fun _ => trivial
theorem text_part {s : ByteArray} {l : List UInt8} {p q : List UInt8} (e : l = p ++ (textB s ++ q)) : s.size ≤ l.length := by
  rw [e]; simp only [List.length_append, textB_length]; omega
theorem flat_mem {α : Type} {f : α → List UInt8} {l : List α} {x : α} (h : x ∈ l) : (f x).length ≤ (l.flatMap f).length := by
  induction l with
  | nil => cases h
  | cons y l ih =>
    rw [List.flatMap_cons, List.length_append]
    rcases List.mem_cons.1 h with rfl | h
    · omega
    · have := ih h; omega
theorem flat_many {α : Type} {f : α → List UInt8} (h : ∀ x, 1 ≤ (f x).length) (l : List α) : l.length ≤ (l.flatMap f).length := by
  induction l with
  | nil => simp
  | cons y l ih => rw [List.flatMap_cons, List.length_append, List.length_cons]; have := h y; omega
/-- What is read is no greater than its bytes. -/
theorem read_tame {l : List UInt8} {s : Shelf} (h : readR l = some s) (hl : l.length ≤ 1000000) : TameS s := by
  obtain ⟨hm, rfl⟩ := read_sound h
  have hf := fine_of hm
  have h1 : (s.books.flatMap bookB).length ≤ 1000000 := by
    have : (s.books.flatMap bookB).length ≤ (layB s).length := by unfold layB headB; simp only [List.length_append]; omega
    omega
  obtain ⟨-, -, -, f4, f5, f6, f7⟩ := hf
  refine ⟨⟨by omega, by omega, fun b hb => by have := (f6 b hb).2; omega, fun n hn => ?_⟩, fun n hn y hy => ?_⟩
  · obtain ⟨-, -, a, b, c, d, -⟩ := f7 n hn
    exact ⟨by omega, by omega, by omega, fun t ht => by have := c t ht; omega⟩
  · have := (f7 n hn).2.2.2.2.2.2 y hy
    unfold Wf; omega
theorem readOut_any (v0 : Value) (l0 : List UInt8) (w : World) (h : Bytes w v0 l0) (hl : l0.length ≤ 1000000) (hT : Tabs w) :
    Calls Tryd.prog 31 #[v0] w (ReadOut l0 w) := by
  refine (read_any v0 l0 w h hl hT).mono ?_
  rintro e w' ⟨g, hr⟩
  refine ⟨g, ?_⟩
  cases e1 : readR l0 with
  | none => rw [e1] at hr; exact .inr ⟨rfl, hr⟩
  | some s =>
    rw [e1] at hr
    obtain ⟨bv, nv, Y, h1, h2, h3⟩ := hr
    have := h2.reads
    rw [h3] at this
    exact .inl ⟨s, bv, nv, rfl, h1, ⟨this.1, this.2⟩, read_tame e1 hl⟩
theorem ownL_buf {W0 w : World} {v : Value} {l : List UInt8} (h : OwnL ByteR 5 1 W0 v l w) : Buf W0 v l w := by
  obtain ⟨xs, h1, h2⟩ := h
  have e : xs = l.map byteV := by
    apply List.ext_getElem?
    intro i
    have hlen := h1.row.1
    cases hx : l[i]? with
    | none =>
      have hi := List.getElem?_eq_none_iff.1 hx
      rw [List.getElem?_eq_none (by omega), List.getElem?_map, hx]; rfl
    | some x =>
      have h3 := h2 i x hx
      unfold ByteR at h3
      rw [Nat.mul_one, List.take_one, List.head?_drop] at h3
      rw [List.getElem?_map, hx]
      cases e : xs[i]? with
      | none => rw [e] at h3; cases h3
      | some u => rw [e] at h3; simpa [byteV] using h3
  subst e
  exact h1
theorem same_refl {α : Type} (x : α) : same x x = true := same_yes rfl
set_option maxRecDepth 100000 in
set_option maxHeartbeats 8000000 in
theorem back_walk (s : Shelf) (bv nv vb : Value) (l : List UInt8) (cut : Int) (w : World) (h : ShelfR w s bv nv) (hI : ∀ n ∈ s.notes, ∀ y ∈ n.sheets, Wf y) (hG : ∀ n ∈ s.notes, n.tags.length ≤ 9223372036854775807) (hb : Bytes w vb l) (hc : Wf cut) (hT : Tabs w) :
    Calls Tryd.prog 9 #[shelfV s bv nv, vb, .int .i64 cut] w fun e w' => e = .returned (.bool true) ∧ Grow w w' := by
  have cA := fun W (g : Grow w W) => awake19_any W (hT.below g)
  have cG := fun W (g : Grow w W) => great_any s bv nv W (h.grow g) hG
  have cS := fun W (g : Grow w W) (hz : TameS s) => size_any s bv nv W (h.grow g) hz (hT.below g)
  have cM := fun W (g : Grow w W) (hz : TameS s) => mayS_any s bv nv W (h.grow g) hz (hT.below g)
  have cL := fun W (g : Grow w W) (hz : TameS s) => (lay_any s bv nv W (h.grow g) hz (hT.below g)).mono fun _ _ => layOut_of
  have cR := fun v l' W (g : Grow w W) (hv : Bytes W v l') (hl : l'.length ≤ 1000000) => readOut_any v l' W hv hl (hT.below g)
  have cY := fun x bx nx W (g : Grow w W) (hx : ShelfR W x bx nx) (hz : Tame x) => sameShelf_any x s bx nx bv nv W hx (h.grow g) hz
  have cX := fun x bx nx W (hx : ShelfR W x bx nx) (hz : TameS x) (g : Grow w W) => (lay_any x bx nx W hx hz (hT.below g)).mono fun _ _ => layOut_of
  have cZ := fun W => sameShelf_any ⟨0, 0, 0, [], []⟩ ⟨0, 0, 0, [], []⟩ (.slice none 0 0) (.slice none 0 0) (.slice none 0 0) (.slice none 0 0) W ⟨Reads.nil, Reads.nil⟩ ⟨Reads.nil, Reads.nil⟩ ⟨by simp, by simp, by simp, by simp⟩
  rw [same_refl] at cZ
  obtain ⟨a1, c1, rfl⟩ := h.1.mk
  obtain ⟨a2, c2, rfl⟩ := h.2.mk
  obtain ⟨ba, bc, rfl⟩ := hb.mk
  have HI := Lib.hid hI
  have HB := Lib.hid hb
  have HC := Lib.hid hc
  obtain ⟨i8, hi8, hz0, hz1, hz2⟩ := info_parts info_u8
  clear h hI hG hb hT hc
  unfold shelfV at cG cS cL cM cY cZ ⊢
  go_enter Tryd.func9, Tryd.ntmps9
  go_wp2_with fail
  refine (cG _ ((Grow.refl w).alloc _)).mono ?_
  rintro e w1 ⟨g1, r, rfl, hr⟩
  have gw1 := ((Grow.refl w).alloc _).trans g1
  have HX := Lib.hid (Grow.blk g1 (heap_alloc_new w _))
  clear g1 cG
  obtain ⟨p0, p1, p2, p3, p4⟩ := box5 HX.out
  cases r with
  | true =>
    go_wp2_with fail
    refine (cA w1 gw1).mono ?_
    rintro e w2 ⟨rfl, g2⟩
    go_wp2_with fail
    go_ret
    exact ⟨rfl, gw1.trans g2⟩
  | false =>
    by_cases hlong : 1500 < l.length
    · have hlong' : (1500 : Int) < l.length := by omega
      go_wp2_with fail
      refine (cA w1 gw1).mono ?_
      rintro e w2 ⟨rfl, g2⟩
      go_wp2_with fail
      go_ret
      exact ⟨rfl, gw1.trans g2⟩
    have hshort : (l.length : Int) ≤ 1500 := by omega
    have hlow := hr rfl
    have HZ := Lib.hid (show TameS s from ⟨hlow.tame, HI.out⟩)
    have hlb := layB_low hlow
    have HLB := Lib.hid hlb
    clear hr hlong hlb
    have HLOW := Lib.hid hlow
    clear hlow
    go_wp2_with fail
    refine (cL w1 gw1 HZ.out).mono ?_
    rintro e w2 ⟨va, la, na, rfl, ha, hla, hna⟩
    have g2 := ha.grow
    have gw2 := gw1.trans g2
    have HA := Lib.hid ha.bytes
    obtain ⟨aa, ac, ea⟩ := ha.bytes.mk
    have HX2 := Lib.hid (Grow.blk g2 HX.out)
    have HLA := Lib.hid hla
    have HNA := Lib.hid hna
    clear p0 p1 p2 p3 p4 ha g2 cL hla hna
    subst ea
    obtain ⟨p0, p1, p2, p3, p4⟩ := box5 HX2.out
    have hwx : w.heap.size < w2.heap.size := (Array.getElem?_eq_some_iff.1 HX2.out).1
    go_upto_if 33 with (fail)
    go_cut [1] (fun v1 wx => v1 = .slice ba l.length bc ∧ Grow w wx)
    case first =>
      have gx := fun W (g : Grow w2 W) => gw2.trans g
      cases hm : mayS s with
      | true =>
        obtain rfl : na = 0 := by rw [HNA.out, if_pos hm]
        obtain rfl : la = layB s := by rw [HLA.out, if_pos hm]
        have HM := Lib.hid hm
        have hpos := layB_pos s
        have HSZ := Lib.hid (show sizeS s = (layB s).length by unfold sizeS; rw [if_pos hm])
        have cS1 := cS w2 gw2 HZ.out
        rw [HSZ.out] at cS1
        have hne : ((layB s).length : Int) ≠ 0 := by omega
        have he0 : (((layB s).length : Int) == 0) = false := by rw [beq_eq_false_iff_ne]; exact hne
        have hee : (((layB s).length : Int) != ((layB s).length : Int)) = false := by simp
        have HRB := Lib.hid (read_back hm)
        have HRS := Lib.hid (fun k (hk : k < (layB s).length) => read_short hm hk)
        have HRL := Lib.hid (fun x => read_long hm x)
        have hlen := HLB.out
        clear hm hne cM cS
        generalize layB s = x at *
        go_wp2_with fail
        refine cS1.mono ?_
        rintro e w3 ⟨rfl, g3⟩
        have gw3 := gw2.trans g3
        have hx3 := Bytes.grow HA.out g3
        have HX3 := Lib.hid (Grow.blk g3 HX2.out)
        have cR1 := cR _ x w3 gw3 hx3 (by omega)
        clear cS1 p0 p1 p2 p3 p4 he0 hee
        obtain ⟨p0, p1, p2, p3, p4⟩ := box5 HX3.out
        go_wp2_with fail
        refine cR1.mono ?_
        rintro e w4 ⟨g4, hout⟩
        obtain ⟨t, tb, tn, ht, rfl, hts, htz⟩ : ∃ s' bv' nv', readR x = some s' ∧ e = .returned (.tuple #[shelfV s' bv' nv', .int .i64 0]) ∧ ShelfR w4 s' bv' nv' ∧ TameS s' := by
          rcases hout with h | ⟨h, -⟩
          · exact h
          · rw [HRB.out] at h; cases h
        have hst : s = t := by rw [HRB.out] at ht; exact Option.some.inj ht
        subst hst
        have gw4 := gw3.trans g4
        obtain ⟨x1, y1, rfl⟩ := hts.1.mk
        obtain ⟨x2, y2, rfl⟩ := hts.2.mk
        have HTS := Lib.hid hts
        have HTZ := Lib.hid htz
        have HX4 := Lib.hid (Grow.blk g4 HX3.out)
        have HX4b := Lib.hid (Bytes.grow hx3 g4)
        have hlb := lowI_bd cut x.length (by omega)
        obtain ⟨q, hq⟩ : ∃ q : Nat, lowI cut x.length = q := ⟨(lowI cut x.length).toNat, by omega⟩
        have cW := fun W => low_any cut x.length W (by omega) (by omega)
        rw [hq] at cW hlb
        have hql : q < x.length := by omega
        have hcap := hx3.len.2
        clear hout ht hts htz cR1 hq hlb g4 hx3 p0 p1 p2 p3 p4
        unfold shelfV
        go_upto_region 8 with (fail)
        generalize hV : w4.alloc (.cells #[.int .i64 s.nb, .int .i64 s.nn, .int .i64 s.ns, .slice x1 s.books.length y1, .slice x2 s.notes.length y2] 36) = V
        have gV : Grow w4 V := by rw [← hV]; exact (Grow.refl w4).alloc _
        have HBT : Hid (V.heap[w4.heap.size]? = some (shO s.nb s.nn s.ns (.slice x1 s.books.length y1) (.slice x2 s.notes.length y2))) := by rw [← hV]; exact Lib.hid (heap_alloc_new w4 _)
        have hxV := Bytes.grow HX4b.out gV
        have HXV := Lib.hid hxV
        have gwV := gw4.trans gV
        have HXb := Lib.hid (Grow.blk gV HX4.out)
        have HTV := Lib.hid (HTS.out.grow gV)
        have htk : Bytes V (.slice aa q ac) (x.take q) := hxV.sl_take (by omega)
        have cR2 := cR _ (x.take q) V gwV htk (by rw [List.length_take]; omega)
        have hl0 : (0 : Int) ≤ (q : Int) := by omega
        have hl1 : (q : Int) ≤ ac := by omega
        have hl2 : (q : Int) ≤ x.length := by omega
        have hl3 : ((q : Int)).toNat = q := by omega
        clear hV hxV htk
        go_wp2_with fail
        refine (cW _).mono ?_
        rintro e w5 ⟨rfl, rfl⟩
        go_wp2_with fail
        refine cR2.mono ?_
        rintro e w6 ⟨g6, hout6⟩
        obtain rfl : e = .returned (.tuple #[shelfV ⟨0, 0, 0, [], []⟩ (.slice none 0 0) (.slice none 0 0), .int .i64 5]) := by
          rcases hout6 with ⟨_, _, _, h, _⟩ | ⟨-, h⟩
          · rw [HRS.out q hql] at h; cases h
          · exact h
        have gw6 := gwV.trans g6
        have gV6 := g6
        unfold shelfV
        clear cR2 hout6 g6
        go_upto_region 9 with (fail)
        generalize hU : w6.alloc (.cells #[.int .i64 0, .int .i64 0, .int .i64 0, .slice none 0 0, .slice none 0 0] 36) = U
        have gU : Grow w6 U := by rw [← hU]; exact (Grow.refl w6).alloc _
        have gVU := gV6.trans gU
        have gwU := gw6.trans gU
        have HXU := Lib.hid (Bytes.grow HXV.out gVU)
        clear hU
        have tok1 : True := trivial
        go_wp2_with (first
          | (at_builtin; have _t := tok1; refine app_reads (R := ByteR) (k := 1) (l := x) (W0 := U) rfl _ _ 38 rfl 5 i8 _ 1 Tryd.underlying38 hi8 hz0 hz1 hz2 rfl (by decide) (.slice none 0 0) (.slice aa x.length ac) 0 [] rfl ?_ rfl ?_ (one_byte _) ?_ (by decide) ?_; exact Own.start (Grow.refl U); exact HXU.out; omega; intro v7 w7 hout; have HC := Lib.hid (ownL_buf hout.clone.1); clear hout tok1)
          | (at_builtin; refine app_byte rfl _ _ rfl v7 x rfl U w7 HC.out _ ?_ rfl ?_ ?_; (constructor <;> omega); omega; intro v8 w8 hb8 hk8; have HD := Lib.hid hb8; clear hb8 hk8))
        have hgD := HD.out.grow
        have cR3 := cR _ _ w8 (gwU.trans hgD) HD.out.bytes (by rw [List.length_append]; simp; omega)
        refine cR3.mono ?_
        rintro e w9 ⟨g9, hout9⟩
        obtain rfl : e = .returned (.tuple #[shelfV ⟨0, 0, 0, [], []⟩ (.slice none 0 0) (.slice none 0 0), .int .i64 5]) := by
          rcases hout9 with ⟨_, _, _, h, _⟩ | ⟨-, h⟩
          · rw [HRL.out] at h; cases h
          · exact h
        have gVf := (gVU.trans hgD).trans g9
        have gwf := (gwU.trans hgD).trans g9
        have HXf := Lib.hid (Grow.blk gVf HXb.out)
        have HBf := Lib.hid (Grow.blk gVf HBT.out)
        unfold shelfV
        have cYf := fun (o : Obj) => cY s (.slice x1 s.books.length y1) (.slice x2 s.notes.length y2) (w9.alloc o) (gwf.alloc o) (HTV.out.grow (gVf.alloc o)) HTZ.out.1
        rw [same_refl] at cYf
        obtain ⟨p0, p1, p2, p3, p4⟩ := box5 HXf.out
        obtain ⟨q0, q1, q2, q3, q4⟩ := box5 HBf.out
        have hwn : w.heap.size < w9.heap.size := (Array.getElem?_eq_some_iff.1 HXf.out).1
        have hwm : w4.heap.size < w9.heap.size := (Array.getElem?_eq_some_iff.1 HBf.out).1
        clear cR3 hout9 g9 hgD gwU gVU gw6 gV6 gwV gV hcap hl0 hl1 hl2 hl3 HTV
        go_wp2_with fail
        refine (cYf _).mono ?_
        rintro e w10 ⟨rfl, g10⟩
        go_wp2_with fail
        go_meet
        exact ⟨rfl, (gwf.alloc _).trans g10⟩
      | false =>
        obtain rfl : na = 2 := by rw [HNA.out, hm]; rfl
        obtain rfl : la = [] := by rw [HLA.out, hm]; rfl
        have cM1 := cM w2 gw2 HZ.out
        rw [hm] at cM1
        have HSZ := Lib.hid (show sizeS s = 0 by unfold sizeS; rw [hm]; rfl)
        clear hm cM
        go_wp2_with fail
        refine cM1.mono ?_
        rintro e w3 ⟨rfl, g3⟩
        have gw3 := gw2.trans g3
        have cS1 := cS w3 gw3 HZ.out
        rw [HSZ.out] at cS1
        obtain ⟨q0, q1, q2, q3, q4⟩ := box5 (Grow.blk g3 HX2.out)
        clear cM1 p0 p1 p2 p3 p4
        go_wp2_with fail
        refine cS1.mono ?_
        rintro e w4 ⟨rfl, g4⟩
        go_wp2_with fail
        go_meet
        exact ⟨rfl, gw3.trans g4⟩
    case rest =>
      obtain ⟨rfl, gc⟩ := hcut
      have cR1 := cR _ l wc gc (Bytes.grow HB.out gc) (by omega)
      clear cS cM cY cR p0 p1 p2 p3 p4
      go_wp2_with fail
      refine cR1.mono ?_
      rintro e w3 ⟨g3, hout⟩
      have gw3 := gc.trans g3
      clear cR1
      rcases hout with ⟨t, tb, tn, ht, rfl, hts, htz⟩ | ⟨ht, rfl⟩
      · obtain ⟨hm, hlay⟩ := read_sound ht
        have cX1 := cX t tb tn (w3.alloc (shO t.nb t.nn t.ns tb tn)) (hts.grow ((Grow.refl w3).alloc _)) htz (gw3.alloc _)
        obtain ⟨x1, y1, rfl⟩ := hts.1.mk
        obtain ⟨x2, y2, rfl⟩ := hts.2.mk
        have HLY := Lib.hid hlay
        have HM := Lib.hid hm
        unfold shelfV at cX1 ⊢
        clear ht hts htz hm hlay cX
        go_wp2_with fail
        refine cX1.mono ?_
        rintro e w4 ⟨vy, ly, ny, rfl, hy, hly, hny⟩
        obtain rfl : ny = 0 := by rw [hny, if_pos HM.out]
        obtain rfl : ly = l := by rw [hly, if_pos HM.out, HLY.out]
        have hyb := hy.bytes
        obtain ⟨ya, yc, ey⟩ := hyb.mk
        subst ey
        have gw4 := (gw3.alloc (shO t.nb t.nn t.ns (.slice x1 t.books.length y1) (.slice x2 t.notes.length y2))).trans hy.grow
        have cB := sameBytes_any _ _ ly ly w4 hyb (Bytes.grow HB.out gw4) (by omega)
        rw [same_refl] at cB
        clear cX1 hly hny hy hyb
        go_wp2_with fail
        refine cB.mono ?_
        rintro e w5 ⟨rfl, g5⟩
        go_wp2_with fail
        refine (cA w5 (gw4.trans g5)).mono ?_
        rintro e w6 ⟨rfl, g6⟩
        go_wp2_with fail
        go_ret
        exact ⟨rfl, (gw4.trans g5).trans g6⟩
      · clear ht cX
        unfold shelfV
        go_wp2_with fail
        refine (cZ _).mono ?_
        rintro e w4 ⟨rfl, g4⟩
        have gw4 := (gw3.alloc (shO 0 0 0 (.slice none 0 0) (.slice none 0 0))).trans g4
        go_wp2_with fail
        refine (cA w4 gw4).mono ?_
        rintro e w6 ⟨rfl, g6⟩
        go_wp2_with fail
        go_ret
        exact ⟨rfl, gw4.trans g6⟩
theorem back_law (s : Shelf) (bv nv vb : Value) (l : List UInt8) (cut : Int) (w : World) (h : ShelfArg w s bv nv) (hb : Bytes w vb l) (_ : ∀ x ∈ l, True) (hc : Wf cut) (hT : Tabs w) :
    Calls Tryd.prog 9 #[shelfV s bv nv, vb, .int .i64 cut] w fun e w' => e = .returned (.bool true) ∧ Grow w w' :=
  back_walk s bv nv vb l cut w h.rows h.ints h.tags hb hc hT
end Go.Proofs.YtbdbmigkcpgmkaaDoor
