/- The walks of coding.Lay and coding.Size. -/
import Derived.Test.YtbdbmigkcpgmkaaDoorMay
import Derived.Test.YtbdbmigkcpgmkaaDoorPut
import Derived.Deep.RegionHeld3
set_option linter.unusedVariables false
set_option linter.unusedSimpArgs false
namespace Go.Proofs.YtbdbmigkcpgmkaaDoor
open Go.RowKit Go.Lib
theorem Kept.cell {e : TypeId} {w w' : World} (h : Kept e w w') {b : Nat} {cs : Array Value} {t : TypeId} {m : Nat × Nat} (ht : t ≠ e) (hb : w.heap[b]? = some (.cells cs t m)) (o : Nat) (u : Value) (hu : cs[o]? = some u) : w'.cell? ⟨b, o, none⟩ = some u := by
  rw [cell_of_row w' b o cs t m (h b cs t m ht hb)]; simpa using hu
theorem Kept.box3 {e : TypeId} {w w' : World} (h : Kept e w w') {b : Nat} {t : TypeId} {m : Nat × Nat} (ht : t ≠ e) {u0 u1 u2 u3 u4 : Value} (hb : w.heap[b]? = some (.cells #[u0, u1, u2, u3, u4] t m)) :
    w'.cell? ⟨b, 0, none⟩ = some u0 ∧ w'.cell? ⟨b, 1, none⟩ = some u1 ∧ w'.cell? ⟨b, 2, none⟩ = some u2 := ⟨h.cell ht hb 0 _ rfl, h.cell ht hb 1 _ rfl, h.cell ht hb 2 _ rfl⟩
theorem Kept.box34 {e : TypeId} {w w' : World} (h : Kept e w w') {b : Nat} {t : TypeId} {m : Nat × Nat} (ht : t ≠ e) {u0 u1 u2 u3 u4 : Value} (hb : w.heap[b]? = some (.cells #[u0, u1, u2, u3, u4] t m)) :
    w'.cell? ⟨b, 3, none⟩ = some u3 ∧ w'.cell? ⟨b, 4, none⟩ = some u4 := ⟨h.cell ht hb 3 _ rfl, h.cell ht hb 4 _ rfl⟩
theorem Kept.box2 {e : TypeId} {w w' : World} (h : Kept e w w') {b : Nat} {t : TypeId} {m : Nat × Nat} (ht : t ≠ e) {u0 u1 : Value} (hb : w.heap[b]? = some (.cells #[u0, u1] t m)) :
    w'.cell? ⟨b, 0, none⟩ = some u0 ∧ w'.cell? ⟨b, 1, none⟩ = some u1 := ⟨h.cell ht hb 0 _ rfl, h.cell ht hb 1 _ rfl⟩
def textB (s : ByteArray) : List UInt8 := putB s.size 1 ++ s.data.toList
def bookB (x : Book) : List UInt8 := putB x.id 3 ++ textB x.name
def noteB (x : Note) : List UInt8 := putB x.id 3 ++ putB x.book 3 ++ textB x.name ++ putB x.tags.length 1 ++ x.tags.flatMap textB ++ putB x.sheets.length 1 ++ x.sheets.flatMap fun y => putB y 2
def headB (s : Shelf) : List UInt8 := putB s.nb 3 ++ putB s.nn 3 ++ putB s.ns 3 ++ putB s.books.length 1
def layB (s : Shelf) : List UInt8 := headB s ++ s.books.flatMap bookB ++ putB s.notes.length 1 ++ s.notes.flatMap noteB
theorem flat_le {α β : Type} (f : α → List β) (c : Nat) : ∀ (l : List α), (∀ x ∈ l, (f x).length ≤ c) → (l.flatMap f).length ≤ l.length * c
  | [], _ => by simp
  | x :: l, h => by
    have h1 := h x (by simp)
    have h2 := flat_le f c l (fun y hy => h y (by simp [hy]))
    rw [List.flatMap_cons, List.length_append, List.length_cons, Nat.add_mul, Nat.one_mul]; omega
def Small (s : Shelf) : Prop := s.books.length ≤ 6 ∧ s.notes.length ≤ 12 ∧ ∀ n ∈ s.notes, n.tags.length ≤ 4 ∧ n.sheets.length ≤ 8
theorem mayS_small {s : Shelf} (h : mayS s = true) : Small s := by
  unfold mayS mayHead at h
  simp only [Bool.and_eq_true, decide_eq_true_eq] at h
  obtain ⟨⟨⟨⟨⟨-, n7⟩, n8⟩, -⟩, hn⟩, -⟩ := h
  refine ⟨n7, n8, fun n hm => ?_⟩
  obtain ⟨i, hi, e⟩ := List.getElem_of_mem hm
  have ho := allTo_iff.1 hn i hi
  have hx : noteAt s i = n := getD_of (by rw [List.getElem?_eq_getElem hi, e])
  unfold noteOk noteHead at ho
  rw [hx] at ho
  unfold tagsB at ho
  simp only [Bool.and_eq_true, decide_eq_true_eq] at ho
  exact ⟨ho.1.1.2.2, ho.1.2⟩
theorem textB_le {s : ByteArray} (h : s.size ≤ 1000000) : (textB s).length ≤ 1000001 := by
  unfold textB; rw [List.length_append, putB_length]
  have : s.data.toList.length = s.size := rfl
  omega
theorem bookB_le {x : Book} (h : x.name.size ≤ 1000000) : (bookB x).length ≤ 1000004 := by
  unfold bookB; rw [List.length_append, putB_length]; have := textB_le h; omega
theorem noteB_le {x : Note} (h : TameN x) (ht : x.tags.length ≤ 4) (hs : x.sheets.length ≤ 8) : (noteB x).length ≤ 6000000 := by
  unfold noteB
  simp only [List.length_append, putB_length]
  have h1 := textB_le h.1
  have h2 := flat_le textB 1000001 x.tags (fun t hm => textB_le (h.2.2.2.1 t hm))
  have h3 := flat_le (fun y : Int => putB y 2) 2 x.sheets (fun y hm => by rw [putB_length]; omega)
  have h4 := Nat.mul_le_mul_right 1000001 ht
  omega
def LayPost (s : Shelf) (w : World) (e : Ending) (w' : World) : Prop :=
  (mayS s = false ∧ e = .returned (.tuple #[.slice none 0 0, .int .i64 2]) ∧ Grow w w') ∨ (mayS s = true ∧ ∃ v, e = .returned (.tuple #[v, .int .i64 0]) ∧ Buf w v (layB s) w')
set_option maxRecDepth 100000 in
set_option maxHeartbeats 4000000 in
theorem lay_any (s : Shelf) (bv nv : Value) (w : World) (h : ShelfR w s bv nv) (hz : TameS s) (hT : Tabs w) :
    Calls Tryd.prog 23 #[shelfV s bv nv] w (LayPost s w) := by
  have c0 := mayS_any s bv nv (w.alloc (.cells #[.int .i64 s.nb, .int .i64 s.nn, .int .i64 s.ns, bv, nv] 36)) (h.grow ((Grow.refl w).alloc _)) hz (hT.below ((Grow.refl w).alloc _))
  obtain ⟨a1, c1, rfl⟩ := h.1.mk
  obtain ⟨a2, c2, rfl⟩ := h.2.mk
  have HH := Lib.hid h
  have HZ := Lib.hid hz
  clear h hz hT
  unfold shelfV at c0 ⊢
  go_enter Tryd.func23, Tryd.ntmps23
  go_wp2_with fail
  refine c0.mono ?_
  rintro e V ⟨rfl, gM⟩
  have gV : Grow w V := ((Grow.refl w).alloc _).trans gM
  have hbox : V.heap[w.heap.size]? = some (.cells #[.int .i64 s.nb, .int .i64 s.nn, .int .i64 s.ns, .slice a1 s.books.length c1, .slice a2 s.notes.length c2] 36 (0, 0)) :=
    (Below.block gM w.heap.size (by simp)).trans (heap_alloc_new w _)
  clear gM
  cases hm : mayS s
  · have HM := Lib.hid hm
    clear hm
    go_wp2_with fail
    go_ret2
    exact .inl ⟨HM.out, rfl, gV⟩
  · have HM := Lib.hid hm
    have HS := Lib.hid (mayS_small hm)
    clear hm
    have n1 : s.books.length ≤ 6 := HS.out.1
    have n2 : s.notes.length ≤ 12 := HS.out.2.1
    have HX := Lib.hid hbox
    have p1 := put_any (.slice none 0 0) [] s.nb 3 w V.drew (Own.start (e := 5) (k := 1) (gV.drew)) (by decide) (by decide)
    clear hbox
    go_upto_region 3 with (fail)
    have tok1 : True := trivial
    have tok2 : True := trivial
    have s0 := (Kept.refl 5 V.drew).box3 (by decide) HX.out
    go_region_held3 (fun w' => w'.cell? ⟨w.heap.size, 0, none⟩ = some (.int .i64 s.nb) ∧ w'.cell? ⟨w.heap.size, 1, none⟩ = some (.int .i64 s.nn) ∧ w'.cell? ⟨w.heap.size, 2, none⟩ = some (.int .i64 s.ns))
      (with_reducible (first | exact s3 | exact s2 | exact s1 | exact s0))
      (first
        | (go_at_call 41; have _t := tok1; refine p1.mono ?_; rintro e w1 ⟨v1, rfl, hb1, hk1⟩; have s1 := hk1.box3 (by decide) HX.out; have p2 := put_any v1 _ s.nn 3 w w1 hb1 (by decide) (by simp [putB_length]); clear tok1)
        | (go_at_call 41; have _t := tok2; refine p2.mono ?_; rintro e w2 ⟨v2, rfl, hb2, hk2⟩; have s2 := (hk1.trans hk2).box3 (by decide) HX.out; have p3 := put_any v2 _ s.ns 3 w w2 hb2 (by decide) (by simp [putB_length]); clear tok2)
        | (go_at_call 41; refine p3.mono ?_; rintro e w3 ⟨v3, rfl, hb3, hk3⟩; have s3 := ((hk1.trans hk2).trans hk3).box3 (by decide) HX.out))
    have K3 : Kept 5 V w3 := (hk1.trans hk2).trans hk3
    have HB := Lib.hid hb3
    have hg3 := hb3.grow
    obtain ⟨r3, r4⟩ := K3.box34 (by decide) HX.out
    clear s0 s1 s2 s3 p1 p2 p3 hb1 hb2 hb3 hk1 hk2 hk3 gV
    have c4 := put_any v3 _ s.books.length 1 w w3 HB.out (by decide) (by simp [putB_length])
    go_wp2_with fail
    refine c4.mono ?_
    rintro e w4 ⟨v4, rfl, hb4, hk4⟩
    have K4 : Kept 5 V w4 := K3.trans hk4
    have HB4 := Lib.hid hb4
    obtain ⟨r3', r4'⟩ := K4.box34 (by decide) HX.out
    clear r3 r4 HB hk4 K3 c4 hg3 hb4
    go_wp2_with fail
    go_loopw [4, 33] (fun u4 x33 wx => ∃ j : Nat, x33 = .int .i64 j ∧ j ≤ s.books.length ∧ Buf w u4 (headB s ++ (s.books.take j).flatMap bookB) wx ∧ Kept 5 V wx) (fun _ x33 _ => s.books.length - (intOf x33).toNat)
    case atStart => exact ⟨0, rfl, by omega, by have := HB4.out; rw [List.take_zero, List.flatMap_nil, List.append_nil]; exact this, K4⟩
    case round =>
      obtain ⟨j, rfl, hj, hb, hk⟩ := hrel
      have HB := Lib.hid hb
      have hg := hb.grow
      have HK := Lib.hid hk
      clear HB4 K4 r3' r4'
      have hlen : (headB s ++ (s.books.take j).flatMap bookB).length ≤ 10000000 := by
        have := flat_le bookB 1000004 (s.books.take j) (fun x hm => bookB_le (HZ.out.1.2.2.1 x (List.mem_of_mem_take hm)))
        have h2 : (headB s).length = 10 := by unfold headB; simp [putB_length]
        rw [List.length_append, h2]
        have h3 : (s.books.take j).length ≤ 6 := by rw [List.length_take]; omega
        have h4 := Nat.mul_le_mul_right 1000004 h3
        omega
      have HL := Lib.hid hlen
      clear hb hlen
      obtain ⟨r3, r4⟩ := hk.box34 (by decide) HX.out
      clear hk
      by_cases hlt : j < s.books.length
      · have hlt' : (j : Int) < s.books.length := by omega
        obtain ⟨x, hx, -⟩ := lt_get hlt
        obtain ⟨bb, off, rfl, hbb, p0, p1⟩ := (HH.out.1.grow hg).at hx
        have hns := HZ.out.1.book hx
        have HXX := Lib.hid (show (s.books.take (j + 1)).flatMap bookB = (s.books.take j).flatMap bookB ++ bookB x by
          obtain ⟨hi, e⟩ := List.getElem?_eq_some_iff.1 hx
          rw [List.take_succ_eq_append_getElem hi, e, List.flatMap_append]; simp)
        clear hx
        go_upto_region 8 with (fail)
        generalize hU : wr.alloc (.cells #[.int .i64 x.id, .string x.name] 57) = U
        have gU : Grow wr U := by rw [← hU]; exact (Grow.refl wr).alloc _
        have hbox : U.heap[wr.heap.size]? = some (.cells #[.int .i64 x.id, .string x.name] 57 (0, 0)) := by rw [← hU]; exact heap_alloc_new wr _
        clear hU
        have HU := Lib.hid hbox
        have tok1 : True := trivial
        have s0 := (Kept.refl 5 U.drew).box2 (by decide) HU.out
        have p1 := put_any u4 _ x.id 3 w U.drew (HB.out.grow' gU.drew) (by decide) (by have := HL.out; omega)
        clear hbox r3 r4 hg
        go_region_held3 (fun w' => w'.cell? ⟨wr.heap.size, 0, none⟩ = some (.int .i64 x.id) ∧ w'.cell? ⟨wr.heap.size, 1, none⟩ = some (.string x.name))
          (with_reducible (first | exact s2 | exact s1 | exact s0))
          (first
            | (go_at_call 41; have _t := tok1; refine p1.mono ?_; rintro e w1 ⟨v1, rfl, hb1, hk1⟩; have s1 := hk1.box2 (by decide) HU.out; have p2 := text_any v1 _ x.name w w1 hb1 hns (by rw [List.length_append, putB_length]; have := HL.out; omega); clear tok1)
            | (go_at_call 42; refine p2.mono ?_; rintro e w2 ⟨v2, rfl, hb2, hk2⟩; have s2 := (hk1.trans hk2).box2 (by decide) HU.out))
        have HB2 := Lib.hid hb2
        have kU : Kept 5 V w2 := ((HK.out.trans (Kept.of_grow gU)).trans hk1).trans hk2
        clear s0 s1 s2 p1 p2 hb1 hb2 hk1 hk2
        go_wp2_with fail
        go_roundw
        case rel => exact ⟨j + 1, by go_num, by omega, by rw [HXX.out]; have := HB2.out; unfold bookB textB; rw [List.append_assoc] at this; rw [← List.append_assoc (headB s)]; exact this, kU⟩
        case measure => simp [intOf]; omega
      · have hlt' : ¬ (j : Int) < s.books.length := by omega
        have HB5 : Hid (Buf w u4 (headB s ++ s.books.flatMap bookB) wr) := by
          have := HB.out
          rw [List.take_of_length_le (by omega)] at this
          exact Lib.hid this
        have HL5 : Hid ((headB s ++ s.books.flatMap bookB).length ≤ 10000000) := by
          have := HL.out
          rw [List.take_of_length_le (by omega)] at this
          exact Lib.hid this
        clear HB HL
        have c5 := put_any u4 _ s.notes.length 1 w wr HB5.out (by decide) (by have := HL5.out; omega)
        go_wp2_with fail
        refine c5.mono ?_
        rintro e w5 ⟨v5, rfl, hb5, hk5⟩
        have K5 : Kept 5 V w5 := HK.out.trans hk5
        have HB6 := Lib.hid hb5
        clear r3 r4 hk5 HK c5 hg hb5 HB5
        obtain ⟨r3, r4⟩ := K5.box34 (by decide) HX.out
        generalize hP : headB s ++ s.books.flatMap bookB ++ putB s.notes.length 1 = Pre at *
        have HLL := Lib.hid (show Pre.length ≤ 10000001 by rw [← hP, List.length_append, putB_length]; have := HL5.out; omega)
        have HPP := Lib.hid hP
        clear hP HL5 hj hlt hlt'
        go_wp2_with fail
        go_loopw [4, 53] (fun u4 x53 wx => ∃ j : Nat, x53 = .int .i64 j ∧ j ≤ s.notes.length ∧ Buf w u4 (Pre ++ (s.notes.take j).flatMap noteB) wx ∧ Kept 5 V wx) (fun _ x53 _ => s.notes.length - (intOf x53).toNat)
        case atStart => exact ⟨0, rfl, by omega, by have := HB6.out; rw [List.take_zero, List.flatMap_nil, List.append_nil]; exact this, K5⟩
        case round =>
          obtain ⟨j, rfl, hj, hb, hk⟩ := hrel
          have HB := Lib.hid hb
          have hg := hb.grow
          have HK := Lib.hid hk
          clear HB6 K5 r3 r4
          have hlen : (Pre ++ (s.notes.take j).flatMap noteB).length ≤ 100000000 := by
            have := flat_le noteB 6000000 (s.notes.take j) (fun x hm => by
              have hm' := List.mem_of_mem_take hm
              obtain ⟨i, hi, e⟩ := List.getElem_of_mem hm'
              have := HS.out.2.2 x hm'
              exact noteB_le (HZ.out.note (i := i) (by rw [List.getElem?_eq_getElem hi, e])) this.1 this.2)
            have h2 := HLL.out
            rw [List.length_append]
            have h3 : (s.notes.take j).length ≤ 12 := by rw [List.length_take]; omega
            have h4 := Nat.mul_le_mul_right 6000000 h3
            omega
          have HL := Lib.hid hlen
          clear hb hlen
          obtain ⟨r3, r4⟩ := hk.box34 (by decide) HX.out
          clear hk
          by_cases hlt : j < s.notes.length
          · have hlt' : (j : Int) < s.notes.length := by omega
            obtain ⟨x, hx, -⟩ := lt_get hlt
            obtain ⟨bb, off, tv, sv, rfl, hbb, p0, p1, p2, p3, p4, htx, hsx⟩ := HH.out.2.at hx
            replace p0 := (hg.cells _ _ hbb).trans p0
            replace p1 := (hg.cells _ _ hbb).trans p1
            replace p2 := (hg.cells _ _ hbb).trans p2
            replace p3 := (hg.cells _ _ hbb).trans p3
            replace p4 := (hg.cells _ _ hbb).trans p4
            obtain ⟨ta, tc, rfl⟩ := htx.mk
            obtain ⟨sa, sc, rfl⟩ := hsx.mk
            have HTX := Lib.hid htx
            have HSX := Lib.hid hsx
            obtain ⟨hns, -, -, hts, -⟩ := HZ.out.note hx
            have HTS := Lib.hid hts
            have hsm := HS.out.2.2 x (List.mem_of_getElem? hx)
            have m1 : x.tags.length ≤ 4 := hsm.1
            have m2 : x.sheets.length ≤ 8 := hsm.2
            have HXX := Lib.hid (show (s.notes.take (j + 1)).flatMap noteB = (s.notes.take j).flatMap noteB ++ noteB x by
              obtain ⟨hi, e⟩ := List.getElem?_eq_some_iff.1 hx
              rw [List.take_succ_eq_append_getElem hi, e, List.flatMap_append]; simp)
            clear hx htx hsx hts hsm
            go_upto_region 14 with (fail)
            generalize hU : wr.alloc (.cells #[.int .i64 x.id, .int .i64 x.book, .string x.name, .slice ta x.tags.length tc, .slice sa x.sheets.length sc] 60) = U
            have gU : Grow wr U := by rw [← hU]; exact (Grow.refl wr).alloc _
            have hbox : U.heap[wr.heap.size]? = some (.cells #[.int .i64 x.id, .int .i64 x.book, .string x.name, .slice ta x.tags.length tc, .slice sa x.sheets.length sc] 60 (0, 0)) := by rw [← hU]; exact heap_alloc_new wr _
            clear hU
            have HU := Lib.hid hbox
            have tok1 : True := trivial
            have tok2 : True := trivial
            have s0 := (Kept.refl 5 U.drew).box3 (by decide) HU.out
            clear hbox r3 r4 hg p0 p1 p2 p3 p4
            have p1 := put_any u4 _ x.id 3 w U.drew (HB.out.grow' gU.drew) (by decide) (by have := HL.out; omega)
            go_region_held3 (fun w' => w'.cell? ⟨wr.heap.size, 0, none⟩ = some (.int .i64 x.id) ∧ w'.cell? ⟨wr.heap.size, 1, none⟩ = some (.int .i64 x.book) ∧ w'.cell? ⟨wr.heap.size, 2, none⟩ = some (.string x.name))
              (with_reducible (first | exact s3 | exact s2 | exact s1 | exact s0))
              (first
                | (go_at_call 41; have _t := tok1; refine p1.mono ?_; rintro e w1 ⟨v1, rfl, hb1, hk1⟩; have s1 := hk1.box3 (by decide) HU.out; have p2 := put_any v1 _ x.book 3 w w1 hb1 (by decide) (by rw [List.length_append, putB_length]; have := HL.out; omega); clear tok1)
                | (go_at_call 41; have _t := tok2; refine p2.mono ?_; rintro e w2 ⟨v2, rfl, hb2, hk2⟩; have s2 := (hk1.trans hk2).box3 (by decide) HU.out; have p3 := text_any v2 _ x.name w w2 hb2 hns (by rw [List.length_append, List.length_append, putB_length, putB_length]; have := HL.out; omega); clear tok2)
                | (go_at_call 42; refine p3.mono ?_; rintro e w3 ⟨v3, rfl, hb3, hk3⟩; have s3 := ((hk1.trans hk2).trans hk3).box3 (by decide) HU.out))
            have kU : Kept 5 U w3 := (hk1.trans hk2).trans hk3
            have kV : Kept 5 V w3 := (HK.out.trans (Kept.of_grow gU)).trans kU
            have hb3' : Buf w v3 (Pre ++ (s.notes.take j).flatMap noteB ++ (putB x.id 3 ++ putB x.book 3 ++ textB x.name)) w3 := by
              have := hb3; simp only [List.append_assoc, textB] at this ⊢; exact this
            have HB3 := Lib.hid hb3'
            have HL3 := Lib.hid (show (Pre ++ (s.notes.take j).flatMap noteB ++ (putB x.id 3 ++ putB x.book 3 ++ textB x.name)).length ≤ 110000000 by
              have := HL.out; have := textB_le hns; simp only [List.length_append, putB_length] at *; omega)
            clear s0 s1 s2 s3 p1 p2 p3 hb1 hb2 hb3 hk1 hk2 hk3 hb3' HB HK
            obtain ⟨r3, r4⟩ := kU.box34 (by decide) HU.out
            have c6 := put_any v3 _ x.tags.length 1 w w3 HB3.out (by decide) (by have := HL3.out; omega)
            go_wp2_with fail
            refine c6.mono ?_
            rintro e w6 ⟨v6, rfl, hb6, hk6⟩
            replace kU := kU.trans hk6
            replace kV := kV.trans hk6
            have HB6 := Lib.hid hb6
            have HL6 := Lib.hid (show (Pre ++ (s.notes.take j).flatMap noteB ++ (putB x.id 3 ++ putB x.book 3 ++ textB x.name) ++ putB x.tags.length 1).length ≤ 110000001 by
              have := HL3.out; rw [List.length_append, putB_length]; omega)
            clear r3 r4 c6 hb6 hk6 HB3 HL3
            obtain ⟨r3, r4⟩ := kU.box34 (by decide) HU.out
            generalize hQ : Pre ++ (s.notes.take j).flatMap noteB ++ (putB x.id 3 ++ putB x.book 3 ++ textB x.name) ++ putB x.tags.length 1 = Pr2 at *
            have HQ := Lib.hid hQ
            clear hQ
            generalize hwb : wr.heap.size = wb at *
            clear hwb
            go_wp2_with fail
            go_loopw [4, 75] (fun u4 x75 wx => ∃ k : Nat, x75 = .int .i64 k ∧ k ≤ x.tags.length ∧ Buf w u4 (Pr2 ++ (x.tags.take k).flatMap textB) wx ∧ Kept 5 U wx ∧ Kept 5 V wx) (fun _ x75 _ => x.tags.length - (intOf x75).toNat)
            case atStart => exact ⟨0, rfl, by omega, by have := HB6.out; rw [List.take_zero, List.flatMap_nil, List.append_nil]; exact this, kU, kV⟩
            case round =>
              obtain ⟨k, rfl, hk, hb, hkU, hkV⟩ := hrel
              have HB := Lib.hid hb
              have hg := hb.grow
              clear HB6 kU kV r3 r4
              have HL := Lib.hid (show (Pr2 ++ (x.tags.take k).flatMap textB).length ≤ 120000001 by
                have := flat_le textB 1000001 (x.tags.take k) (fun t hm => textB_le (HTS.out t (List.mem_of_mem_take hm)))
                have h2 := HL6.out
                rw [List.length_append]
                have h3 : (x.tags.take k).length ≤ 4 := by rw [List.length_take]; omega
                have h4 := Nat.mul_le_mul_right 1000001 h3
                omega)
              clear hb
              by_cases hlt2 : k < x.tags.length
              · have hlt2' : (k : Int) < x.tags.length := by omega
                obtain ⟨t, ht, -⟩ := lt_get hlt2
                obtain ⟨tb, tf, rfl, htb, pc⟩ := HTX.out.at ht
                replace pc := (hg.cells _ _ htb).trans pc
                have hts := HTS.out t (List.mem_of_getElem? ht)
                have HXT := Lib.hid (show (x.tags.take (k + 1)).flatMap textB = (x.tags.take k).flatMap textB ++ textB t by
                  obtain ⟨hi, e⟩ := List.getElem?_eq_some_iff.1 ht
                  rw [List.take_succ_eq_append_getElem hi, e, List.flatMap_append]; simp)
                have c7 := text_any u4 _ t w wr HB.out hts (by have := HL.out; omega)
                clear ht hg
                go_wp2_with fail
                refine c7.mono ?_
                rintro e w7 ⟨v7, rfl, hb7, hk7⟩
                have HB7 := Lib.hid hb7
                clear hb7 c7
                go_wp2_with fail
                go_roundw
                case rel => exact ⟨k + 1, by go_num, by omega, by rw [HXT.out, ← List.append_assoc]; exact HB7.out, hkU.trans hk7, hkV.trans hk7⟩
                case measure => simp [intOf]; omega
              · have hlt2' : ¬ (k : Int) < x.tags.length := by omega
                have HB7 : Hid (Buf w u4 (Pr2 ++ x.tags.flatMap textB) wr) := by
                  have := HB.out
                  rw [List.take_of_length_le (by omega)] at this
                  exact Lib.hid this
                have HL7 : Hid ((Pr2 ++ x.tags.flatMap textB).length ≤ 120000001) := by
                  have := HL.out
                  rw [List.take_of_length_le (by omega)] at this
                  exact Lib.hid this
                clear HB HL hg HL6
                obtain ⟨r3, r4⟩ := hkU.box34 (by decide) HU.out
                have c8 := put_any u4 _ x.sheets.length 1 w wr HB7.out (by decide) (by have := HL7.out; omega)
                go_wp2_with fail
                refine c8.mono ?_
                rintro e w8 ⟨v8, rfl, hb8, hk8⟩
                have hkU8 := hkU.trans hk8
                have hkV8 := hkV.trans hk8
                have HB8 := Lib.hid hb8
                clear r3 r4 c8 hb8 hk8 HB7 hkU hkV hlt2 hlt2' hk
                obtain ⟨r3, r4⟩ := hkU8.box34 (by decide) HU.out
                go_wp2_with fail
                go_loopw [4, 91] (fun u4 x91 wx => ∃ k : Nat, x91 = .int .i64 k ∧ k ≤ x.sheets.length ∧ Buf w u4 (Pr2 ++ x.tags.flatMap textB ++ putB x.sheets.length 1 ++ (x.sheets.take k).flatMap fun y => putB y 2) wx ∧ Kept 5 V wx) (fun _ x91 _ => x.sheets.length - (intOf x91).toNat)
                case atStart => exact ⟨0, rfl, by omega, by have := HB8.out; rw [List.take_zero, List.flatMap_nil, List.append_nil]; exact this, hkV8⟩
                case round =>
                  obtain ⟨k, rfl, hk, hb, hkV⟩ := hrel
                  have HB := Lib.hid hb
                  have hg := hb.grow
                  clear HB8 hkU8 hkV8 r3 r4
                  have HL := Lib.hid (show (Pr2 ++ x.tags.flatMap textB ++ putB x.sheets.length 1 ++ (x.sheets.take k).flatMap fun y => putB y 2).length ≤ 130000001 by
                    have := flat_le (fun y : Int => putB y 2) 2 (x.sheets.take k) (fun y hm => by rw [putB_length]; omega)
                    have h2 := HL7.out
                    simp only [List.length_append, putB_length] at h2 ⊢
                    have h3 : (x.sheets.take k).length ≤ 8 := by rw [List.length_take]; omega
                    omega)
                  clear hb
                  by_cases hlt2 : k < x.sheets.length
                  · have hlt2' : (k : Int) < x.sheets.length := by omega
                    obtain ⟨y, hy, -⟩ := lt_get hlt2
                    obtain ⟨tb, tf, rfl, htb, pc⟩ := HSX.out.at hy
                    replace pc := (hg.cells _ _ htb).trans pc
                    have HXT := Lib.hid (show ((x.sheets.take (k + 1)).flatMap fun y => putB y 2) = ((x.sheets.take k).flatMap fun y => putB y 2) ++ putB y 2 by
                      obtain ⟨hi, e⟩ := List.getElem?_eq_some_iff.1 hy
                      rw [List.take_succ_eq_append_getElem hi, e, List.flatMap_append]; simp)
                    have c9 := put_any u4 _ y 2 w wr HB.out (by decide) (by have := HL.out; omega)
                    clear hy hg
                    go_wp2_with fail
                    refine c9.mono ?_
                    rintro e w9 ⟨v9, rfl, hb9, hk9⟩
                    have HB9 := Lib.hid hb9
                    clear hb9 c9
                    go_wp2_with fail
                    go_roundw
                    case rel => exact ⟨k + 1, by go_num, by omega, by rw [HXT.out, ← List.append_assoc]; exact HB9.out, hkV.trans hk9⟩
                    case measure => simp [intOf]; omega
                  · have hlt2' : ¬ (k : Int) < x.sheets.length := by omega
                    have HB9 : Hid (Buf w u4 (Pre ++ ((s.notes.take (j + 1)).flatMap noteB)) wr) := by
                      have := HB.out
                      rw [List.take_of_length_le (by omega), ← HQ.out] at this
                      rw [HXX.out]
                      refine Lib.hid ?_
                      rw [show noteB x = putB x.id 3 ++ putB x.book 3 ++ textB x.name ++ putB x.tags.length 1 ++ x.tags.flatMap textB ++ putB x.sheets.length 1 ++ x.sheets.flatMap (fun y => putB y 2) from rfl]
                      simp only [List.append_assoc] at this ⊢
                      exact this
                    clear HB HL hg
                    go_wp2_with fail
                    go_roundw
                    case rel => exact ⟨j + 1, by go_num, by omega, HB9.out, hkV⟩
                    case measure => simp [intOf]; omega
          · have hlt' : ¬ (j : Int) < s.notes.length := by omega
            have HB7 : Hid (Buf w u4 (layB s) wr) := by
              have := HB.out
              rw [List.take_of_length_le (by omega), ← HPP.out] at this
              exact Lib.hid this
            clear HB HL hg
            go_wp2_with fail
            go_ret2
            exact .inr ⟨HM.out, _, rfl, HB7.out⟩
end Go.Proofs.YtbdbmigkcpgmkaaDoor
