/- The walk of the document's Read, of any bytes. -/
import Derived.Test.YtbdbmigkcpgmkaaDoorRq
import Derived.Test.YtbdbmigkcpgmkaaDoorLayo
import Derived.Test.YtbdbmigkcpgmkaaDoorRfj
import Derived.Test.YtbdbmigkcpgmkaaDoorApp
import Derived.Deep.RegionLaw
import Derived.Deep.LoopGhost
set_option linter.unusedVariables false
set_option linter.unusedSimpArgs false
namespace Go.Proofs.YtbdbmigkcpgmkaaDoor
open Go.RowKit Go.Lib
theorem setCell_size (w : World) (a : Addr) (u : Value) : (w.setCell a u).heap.size = w.heap.size := by simp
set_option maxRecDepth 100000 in
set_option maxHeartbeats 8000000 in
theorem rread_any (v0 : Value) (l0 : List UInt8) (w : World) (h : Bytes w v0 l0) (hl : l0.length ≤ 1000000) :
    Calls Tryd.prog 32 #[v0] w (RetRead l0 w) := by
  have HV := Lib.hid h
  obtain ⟨a, c, rfl⟩ := h.mk
  obtain ⟨ib, hib, hbz0, hbz1, hbz2⟩ := info_parts info_book
  obtain ⟨it, hit, htz0, htz1, htz2⟩ := info_parts info_note
  obtain ⟨is, his, hsz0, hsz1, hsz2⟩ := info_parts info_text
  obtain ⟨ii, hii, hiz0, hiz1, hiz2⟩ := info_parts info_int
  clear h
  go_enter Tryd.func32, Tryd.ntmps32
  go_wp2_with fail
  generalize hW : (w.alloc (.cells #[.int .i64 0, .int .i64 0, .int .i64 0, .slice none 0 0, .slice none 0 0] 36)).alloc (.cells #[.slice a l0.length c, .int .i64 0, .bool false] 81) = W
  have hR : Rq w (w.heap.size + 1) l0 l0 false W := ⟨by rw [← hW]; exact ((Grow.refl w).alloc _).alloc _, by omega, .slice a l0.length c, 0, by rw [← hW]; exact heap_alloc2 w _ _, HV.out, by omega, rfl⟩
  have hd : W.heap[w.heap.size]? = some (shO 0 0 0 (.slice none 0 0) (.slice none 0 0)) := by
    rw [← hW]; exact (Below.block ((Grow.refl (w.alloc _)).alloc _) _ (by simp)).trans (heap_alloc_new w _)
  have HD := Lib.hid hd
  have hz : w.heap.size + 2 = W.heap.size := by rw [← hW]; simp
  have HZ := Lib.hid hz
  clear hW hd hz
  refine (numQ_any w _ _ _ _ 3 W hR hl (by decide)).mono ?_
  obtain ⟨L1, hL1⟩ : ∃ x, x = nlQ l0 3 false := ⟨_, rfl⟩
  obtain ⟨b1, hb1⟩ : ∃ x, x = numO l0 3 false := ⟨_, rfl⟩
  obtain ⟨n1, hn1⟩ : ∃ x, x = nvQ l0 3 false := ⟨_, rfl⟩
  rw [← hL1, ← hb1, ← hn1]
  have EL1 := Lib.hid hL1
  have EB1 := Lib.hid hb1
  have EN1 := Lib.hid hn1
  clear hL1 hb1 hn1
  rintro e w1 ⟨rfl, t1, hR1⟩
  have HT1 := Lib.hid t1
  clear hR t1
  go_wp2_with fail
  generalize hV : w1.alloc (.cells #[.int .i64 (n1 : Nat), .int .i64 0, .int .i64 0, .slice none 0 0, .slice none 0 0] 36) = V
  have hs : RQ w l0 w.heap.size (w.heap.size + 1) w1.heap.size (n1 : Nat) 0 0 L1 b1 (.slice none 0 0) (.slice none 0 0) [] [] V := by
    have hz := HZ.out
    have hz1 := HT1.out.size
    refine ⟨?_, .nil, ?_, ?_, ⟨by omega, by omega, by omega⟩, hl⟩
    · rw [← hV]; exact hR1.grown ((Grow.refl w1).alloc _)
    · rw [← hV]
      refine (Below.block ((Grow.refl w1).alloc _) _ (by omega)).trans ?_
      rw [HT1.out.block _ (by omega) (by omega)]
      exact HD.out
    · rw [← hV]; exact heap_alloc_new w1 _
  have HS := Lib.hid hs
  clear hV hR1 hs HT1 HD HZ
  generalize w1.heap.size = S at *
  obtain ⟨L2, hL2⟩ : ∃ x, x = nlQ L1 3 b1 := ⟨_, rfl⟩
  obtain ⟨b2, hb2⟩ : ∃ x, x = numO L1 3 b1 := ⟨_, rfl⟩
  obtain ⟨n2, hn2⟩ : ∃ x, x = nvQ L1 3 b1 := ⟨_, rfl⟩
  have c2 := HS.out.num 3 (by decide)
  rw [← hL2, ← hb2, ← hn2] at c2
  have EL2 := Lib.hid hL2
  have EB2 := Lib.hid hb2
  have EN2 := Lib.hid hn2
  clear hL2 hb2 hn2
  refine c2.mono ?_
  rintro e w2 ⟨rfl, hs2⟩
  have HS2 := Lib.hid hs2
  obtain ⟨x0, x1, x2, x3, x4⟩ := hs2.five
  have f1 := hs2.free 1
  clear hs2 c2 HS
  go_wp2_with fail
  have hs3 := RQ.put (nb' := (n1 : Nat)) (nn' := (n2 : Nat)) (ns' := 0) (o := 1) (u := .int .i64 (n2 : Nat)) HS2.out.rd HS2.out.own HS2.out.res HS2.out.box HS2.out.low HS2.out.len rfl
  generalize w2.setCell ⟨S, 1, none⟩ (.int .i64 (n2 : Nat)) = W2 at *
  obtain ⟨L3, hL3⟩ : ∃ x, x = nlQ L2 3 b2 := ⟨_, rfl⟩
  obtain ⟨b3, hb3⟩ : ∃ x, x = numO L2 3 b2 := ⟨_, rfl⟩
  obtain ⟨n3, hn3⟩ : ∃ x, x = nvQ L2 3 b2 := ⟨_, rfl⟩
  have c3 := hs3.num 3 (by decide)
  rw [← hL3, ← hb3, ← hn3] at c3
  have EL3 := Lib.hid hL3
  have EB3 := Lib.hid hb3
  have EN3 := Lib.hid hn3
  clear hL3 hb3 hn3 hs3 HS2 x0 x1 x2 x3 x4 f1
  refine c3.mono ?_
  rintro e w3 ⟨rfl, hs3⟩
  have HS3 := Lib.hid hs3
  obtain ⟨x0, x1, x2, x3, x4⟩ := hs3.five
  have f1 := hs3.free 2
  clear hs3 c3
  go_wp2_with fail
  have hs4 := RQ.put (nb' := (n1 : Nat)) (nn' := (n2 : Nat)) (ns' := (n3 : Nat)) (o := 2) (u := .int .i64 (n3 : Nat)) HS3.out.rd HS3.out.own HS3.out.res HS3.out.box HS3.out.low HS3.out.len rfl
  generalize w3.setCell ⟨S, 2, none⟩ (.int .i64 (n3 : Nat)) = W3 at *
  have c4 := hs4.num 1 (by decide)
  have hm := nvQ_lt L3 1 b3
  obtain ⟨m, hmv⟩ : ∃ x, x = nvQ L3 1 b3 := ⟨_, rfl⟩
  have HQ := Lib.hid (head_Q l0 EL1.out EB1.out EL2.out EB2.out EL3.out EB3.out)
  rw [← EN1.out, ← EN2.out, ← EN3.out] at HQ
  rw [← hmv] at c4 hm HQ
  clear EL1 EB1 EL2 EB2 EN1 EN2 EN3 EL3 EB3 HS3 x0 x1 x2 x3 x4 f1 hmv hs4
  refine c4.mono ?_
  rintro e w4 ⟨rfl, hs4⟩
  have HS4 := Lib.hid hs4
  clear hs4 c4
  generalize nlQ L3 1 b3 = L4 at *
  generalize numO L3 1 b3 = b4 at *
  go_upto_block 0 with (fail)
  go_cut [7] (fun v7 wx => ∃ l bad bv X, RQ w l0 w.heap.size (w.heap.size + 1) S (n1 : Nat) (n2 : Nat) (n3 : Nat) l bad bv (.slice none 0 0) X [] wx ∧ readQ l0 = (if bad then none else midQ (n1 : Nat) (n2 : Nat) (n3 : Nat) l X) ∧ X.length ≤ 255 ∧ FitB X)
  case first =>
    go_wp2_with fail
    go_loopw [7] (fun v7 wx => ∃ (j : Nat) (l : List UInt8) (bad : Bool) (bv : Value) (X : List Book), v7 = .int .i64 j ∧ RQ w l0 w.heap.size (w.heap.size + 1) S (n1 : Nat) (n2 : Nat) (n3 : Nat) l bad bv (.slice none 0 0) X [] wx ∧ readQ l0 = (if bad then none else booksR (m - j) l X (midQ (n1 : Nat) (n2 : Nat) (n3 : Nat))) ∧ X.length + (m - j) ≤ 255 ∧ j ≤ m ∧ FitB X) (fun v7 _ => m - (intOf v7).toNat)
    case atStart => exact ⟨0, _, _, _, [], rfl, HS4.out, HQ.out, by simp; omega, by omega, by intro b hb; cases hb⟩
    case round =>
      obtain ⟨j, l, bad, bv, X, rfl, hs5, hr5, hX5, hj5, hF5⟩ := hrel
      have HS5 := Lib.hid hs5
      have HR5 := Lib.hid hr5
      have HX5 := Lib.hid hX5
      have HF5 := Lib.hid hF5
      have hcb : wr.cell? ⟨w.heap.size + 1, 2, none⟩ = some (.bool bad) := hs5.rd.cell
      clear hs5 hr5 hX5 hF5 HS4 HQ
      by_cases hjm : j < m
      · have hjm' : (j : Int) < m := by omega
        cases bad with
        | true =>
          go_wp2_with fail
          go_meet
          exact ⟨l, true, bv, X, HS5.out, by rw [HR5.out]; rfl, by have := HX5.out; omega, HF5.out⟩
        | false =>
          obtain ⟨L1, hL1⟩ : ∃ x, x = nlQ l 3 false := ⟨_, rfl⟩
          obtain ⟨b1, hb1⟩ : ∃ x, x = numO l 3 false := ⟨_, rfl⟩
          obtain ⟨i1, hi1⟩ : ∃ x, x = nvQ l 3 false := ⟨_, rfl⟩
          have c1 := HS5.out.num 3 (by decide)
          have HB := Lib.hid (books_Q (m - j - 1) l X (midQ (n1 : Nat) (n2 : Nat) (n3 : Nat)) hL1 hb1)
          rw [← hL1, ← hb1, ← hi1] at c1
          rw [← hi1] at HB
          clear hL1 hb1 hi1
          obtain ⟨ba, bc, hba, -⟩ := HS5.out.own.books.slice
          subst hba
          go_wp2_with fail
          refine c1.mono ?_
          rintro e w1 ⟨rfl, hs6⟩
          have HS6 := Lib.hid hs6
          clear hs6 c1 HS5
          go_wp2_with fail
          obtain ⟨rcs, hrb⟩ := HS6.out.rd.blk
          have hrlt := (Array.getElem?_eq_some_iff.1 hrb).1
          have hSlt := HS6.out.lt
          have gal : Grow w1 (w1.alloc (.cells #[.int .i64 (i1 : Nat), .string ⟨#[]⟩] 57)) := (Grow.refl w1).alloc _
          have tq := textQ_any w (w.heap.size + 1) l0 L1 b1 _ (HS6.out.rd.grown gal) hl
          obtain ⟨nm, hnm⟩ : ∃ x, x = tvQ L1 b1 := ⟨_, rfl⟩
          have hnl : nm.size ≤ 255 := by rw [hnm]; exact tvQ_le L1 b1
          rw [← hnm] at HB tq
          clear hnm hrb
          refine tq.mono ?_
          rintro e w2 ⟨rfl, t2, hr2⟩
          have hN : w2.heap[w1.heap.size]? = some (.cells #[.int .i64 (i1 : Nat), .string ⟨#[]⟩] 57 (0, 0)) :=
            (t2.block w1.heap.size (by simp) (by omega)).trans (heap_alloc_new w1 _)
          have y0 : w2.cell? ⟨w1.heap.size, 0, none⟩ = some (.int .i64 (i1 : Nat)) := (cell_of_row w2 _ 0 _ _ _ hN).trans rfl
          have y1 : w2.cell? ⟨w1.heap.size, 1, none⟩ = some (.string ⟨#[]⟩) := (cell_of_row w2 _ 1 _ _ _ hN).trans rfl
          have fy1 : w2.frozen? ⟨w1.heap.size, 1, none⟩ = false := frozen_of_row w2 _ 1 _ _ hN
          have tt : Turned (w.heap.size + 1) w1 w2 := (Turned.of_grow gal).trans t2
          have hsz2 : w1.heap.size < w2.heap.size := (Array.getElem?_eq_some_iff.1 hN).1
          have z3 := ((HS6.out.turn tt hr2).five).2.2.2.1
          have hr3 : Rq w (w.heap.size + 1) l0 (tlQ L1 b1) (txO L1 b1) (w2.setCell ⟨w1.heap.size, 1, none⟩ (.string nm)) :=
            hr2.keep (by decide) (kept_of_turned hN (Turned.set w2 w1.heap.size 1 (.string nm))) ((Turned.set w2 w1.heap.size 1 (.string nm)).grow hr2.grow (by have := HS6.out.rd.grow.size; omega))
          have HS7 := Lib.hid (HS6.out.turn (tt.two (Turned.set w2 w1.heap.size 1 (.string nm)) (Nat.le_refl _)) hr3)
          have hX255 : X.length ≤ 255 := by have := HX5.out; omega
          clear tq hr2 t2 hr3 hN tt HS6
          generalize tlQ L1 b1 = L2 at *
          generalize txO L1 b1 = b2 at *
          go_wp2_with (at_builtin; refine app_R (by rfl) _ _ 33 (by rfl) 57 ib _ 2 24 Tryd.underlying33 hib hbz0 hbz1 hbz2 (by rfl) (by decide) (.slice ba X.length bc) X.length (X.flatMap bookC) (by rfl) _ HS7.out.own.books HS7.out.rd.grow.size (bookC ⟨(i1 : Nat), nm⟩) rfl ?_ (by rw [setCell_size]; rfl) ?_ (by decide) ?_; (intro u hu; simp at hu; rcases hu with rfl | rfl <;> rfl); omega; intro v' w4 ra; obtain ⟨va, vc, e3, -⟩ := ra.1.slice; subst e3; obtain ⟨k3, f3, hs8⟩ := HS7.out.book ra; have HS8 := Lib.hid hs8; clear hs8 ra)
          go_wp2_with fail
          go_roundw
          case rel =>
            refine ⟨j + 1, L2, b2, _, _, by go_num, HS8.out, ?_, ?_, by omega, ?_⟩
            · rw [HR5.out, if_neg (by simp), show m - j = m - j - 1 + 1 by omega, HB.out, show m - (j + 1) = m - j - 1 by omega]
            · rw [List.length_append]; have := HX5.out; simp; omega
            · intro b hb
              rcases List.mem_append.1 hb with hb | hb
              · exact HF5.out b hb
              · obtain rfl := List.mem_singleton.1 hb
                exact hnl
          case measure => show m - ((j : Int) + 1).toNat < m - ((j : Int)).toNat; omega
      · have hjm' : ¬ (j : Int) < m := by omega
        go_wp2_with fail
        go_meet
        exact ⟨l, bad, bv, X, HS5.out, by rw [HR5.out, show m - j = 0 by omega]; rfl, by have := HX5.out; omega, HF5.out⟩
  case rest =>
    obtain ⟨l1, c1, bv, X, hs5, hr5, hX5, hF5⟩ := hcut
    have HX5 := Lib.hid hX5
    have HF5 := Lib.hid hF5
    have HQ5 := Lib.hid (mid_Q hr5)
    have cN := hs5.num 1 (by decide)
    have hm := nvQ_lt l1 1 c1
    clear hX5 hF5 hr5 hs5 HS4 HQ
    obtain ⟨q, hq⟩ : ∃ x, x = nvQ l1 1 c1 := ⟨_, rfl⟩
    rw [← hq] at cN hm HQ5
    clear hq
    go_wp2_with fail
    refine cN.mono ?_
    rintro e w5 ⟨rfl, hs5⟩
    have HS5 := Lib.hid hs5
    clear hs5 cN
    generalize nlQ l1 1 c1 = l2 at *
    generalize numO l1 1 c1 = c2 at *
    go_upto_block 2 with (fail)
    go_cut [9] (fun v9 wx => ∃ l bad nv Y, RQ w l0 w.heap.size (w.heap.size + 1) S (n1 : Nat) (n2 : Nat) (n3 : Nat) l bad bv nv X Y wx ∧ readQ l0 = (if bad then none else endQ (n1 : Nat) (n2 : Nat) (n3 : Nat) X l (Y.map NV.n)) ∧ Y.length ≤ 255 ∧ ∀ y ∈ Y, FitN y.n)
    case first =>
      go_wp2_with fail
      go_loopw [9] (fun v9 wx => ∃ (j : Nat) (l : List UInt8) (bad : Bool) (nv : Value) (Y : List NV), v9 = .int .i64 j ∧ RQ w l0 w.heap.size (w.heap.size + 1) S (n1 : Nat) (n2 : Nat) (n3 : Nat) l bad bv nv X Y wx ∧ readQ l0 = (if bad then none else notesR (q - j) l (Y.map NV.n) (endQ (n1 : Nat) (n2 : Nat) (n3 : Nat) X)) ∧ Y.length + (q - j) ≤ 255 ∧ j ≤ q ∧ ∀ y ∈ Y, FitN y.n) (fun v9 _ => q - (intOf v9).toNat)
      case atStart => exact ⟨0, _, _, _, [], rfl, HS5.out, HQ5.out, by simp; omega, by omega, by intro b hb; cases hb⟩
      case round =>
        obtain ⟨j, l, bad, nv, Y, rfl, hs6, hr6, hX6, hj6, hF6⟩ := hrel
        have HS6 := Lib.hid hs6
        have HR6 := Lib.hid hr6
        have HX6 := Lib.hid hX6
        have HF6 := Lib.hid hF6
        have hcb : wr.cell? ⟨w.heap.size + 1, 2, none⟩ = some (.bool bad) := hs6.rd.cell
        clear hs6 hr6 hX6 hF6 HS5 HQ5
        by_cases hjm : j < q
        · have hjm' : (j : Int) < q := by omega
          cases bad with
          | true =>
            go_wp2_with fail
            go_meet
            exact ⟨l, true, nv, Y, HS6.out, by rw [HR6.out]; rfl, by have := HX6.out; omega, HF6.out⟩
          | false =>
            obtain ⟨L1, hL1⟩ : ∃ x, x = nlQ l 3 false := ⟨_, rfl⟩
            obtain ⟨b1, hb1⟩ : ∃ x, x = numO l 3 false := ⟨_, rfl⟩
            obtain ⟨i1, hi1⟩ : ∃ x, x = nvQ l 3 false := ⟨_, rfl⟩
            obtain ⟨L2, hL2⟩ : ∃ x, x = nlQ L1 3 b1 := ⟨_, rfl⟩
            obtain ⟨b2, hb2⟩ : ∃ x, x = numO L1 3 b1 := ⟨_, rfl⟩
            obtain ⟨i2, hi2⟩ : ∃ x, x = nvQ L1 3 b1 := ⟨_, rfl⟩
            obtain ⟨L3, hL3⟩ : ∃ x, x = tlQ L2 b2 := ⟨_, rfl⟩
            obtain ⟨b3, hb3⟩ : ∃ x, x = txO L2 b2 := ⟨_, rfl⟩
            obtain ⟨nm, hnm⟩ : ∃ x, x = tvQ L2 b2 := ⟨_, rfl⟩
            obtain ⟨L4, hL4⟩ : ∃ x, x = nlQ L3 1 b3 := ⟨_, rfl⟩
            obtain ⟨b4, hb4⟩ : ∃ x, x = numO L3 1 b3 := ⟨_, rfl⟩
            obtain ⟨i4, hi4⟩ : ∃ x, x = nvQ L3 1 b3 := ⟨_, rfl⟩
            have hnl : nm.size ≤ 255 := by rw [hnm]; exact tvQ_le L2 b2
            have hi4l : i4 < 256 ^ 1 := by rw [hi4]; exact nvQ_lt L3 1 b3
            have HB := Lib.hid (note_Q (q - j - 1) l (Y.map NV.n) (endQ (n1 : Nat) (n2 : Nat) (n3 : Nat) X) hL1 hb1 hL2 hb2 hL3 hb3)
            rw [← hi1, ← hi2, ← hnm, ← hb4, ← hL4, ← hi4] at HB
            have E1 := Lib.hid (And.intro hL1 (And.intro hb1 hi1))
            have E2 := Lib.hid (And.intro hL2 (And.intro hb2 hi2))
            have E3 := Lib.hid (And.intro hL3 (And.intro hb3 hnm))
            have E4 := Lib.hid (And.intro hL4 (And.intro hb4 hi4))
            clear hL1 hb1 hi1 hL2 hb2 hi2 hL3 hb3 hnm hL4 hb4 hi4
            have k1 := HS6.out.num 3 (by decide)
            rw [← E1.out.1, ← E1.out.2.1, ← E1.out.2.2] at k1
            go_wp2_with fail
            refine k1.mono ?_
            rintro e w1 ⟨rfl, hs7⟩
            have HS7 := Lib.hid hs7
            have hw1 := hs7.rd.grow.size
            have k2 := (hs7.pend (i1 : Nat)).num 3 (by decide)
            rw [← E2.out.1, ← E2.out.2.1, ← E2.out.2.2] at k2
            clear hs7 k1 HS6
            go_wp2_with fail
            refine k2.mono ?_
            rintro e w2 ⟨rfl, p2⟩
            have P2 := Lib.hid p2
            obtain ⟨y1, fy1, hN2⟩ := p2.cells 1 _ rfl
            have p3 := p2.setBook hw1 (i2 : Nat)
            have k3 := p3.text
            rw [← E3.out.1, ← E3.out.2.1, ← E3.out.2.2] at k3
            clear k2 p2 p3
            go_wp2_with fail
            refine k3.mono ?_
            rintro e w3 ⟨rfl, p4⟩
            obtain ⟨y2, fy2, hN3⟩ := p4.cells 2 _ rfl
            have p5 := p4.setName hw1 nm
            have k4 := p5.num 1 (by decide)
            rw [← E4.out.1, ← E4.out.2.1, ← E4.out.2.2] at k4
            clear k3 p4 p5 P2 y1 fy1 hN2
            go_wp2_with fail
            refine k4.mono ?_
            rintro e w4 ⟨rfl, p6⟩
            have P6 := Lib.hid p6
            clear k4 p6 y2 fy2 hN3 E1 E2 E3 E4
            have HN := Lib.hid (HR6.out.trans ((if_neg (by simp)).trans ((show notesR (q - j) l (Y.map NV.n) (endQ (n1 : Nat) (n2 : Nat) (n3 : Nat) X) = notesR (q - j - 1 + 1) l (Y.map NV.n) (endQ (n1 : Nat) (n2 : Nat) (n3 : Nat) X) from by rw [show q - j - 1 + 1 = q - j by omega]).trans HB.out)))
            clear HB HR6
            obtain ⟨k, hk⟩ : ∃ x, x = q - j - 1 := ⟨_, rfl⟩
            rw [← hk] at HN
            have HK := Lib.hid hk
            clear hk
            generalize hN0 : (⟨(i1 : Nat), (i2 : Nat), nm, [], []⟩ : Note) = N0 at *
            have EN0 := Lib.hid hN0
            have hn0t : N0.tags = [] := by rw [← hN0]
            have hn0s : N0.sheets = [] := by rw [← hN0]
            have hn0n : N0.name.size ≤ 255 := by rw [← hN0]; exact hnl
            have HN0 := Lib.hid (And.intro hn0t (And.intro hn0s hn0n))
            clear hN0 hn0t hn0s hn0n
            go_upto_block 4 with (fail)
            go_cut [12] (fun v12 wx => ∃ l' bad' T tv, Pend w w1 l0 (w.heap.size + 1) w1.heap.size l' bad' ⟨{ N0 with tags := T }, tv, .slice none 0 0⟩ wx ∧ readQ l0 = (if bad' then none else ctags k N0 (Y.map NV.n) (endQ (n1 : Nat) (n2 : Nat) (n3 : Nat) X) l' T) ∧ T.length ≤ 255 ∧ ∀ x ∈ T, x.size ≤ 255)
            case first =>
              go_wp2_with fail
              go_loopw [12] (fun v12 wx => ∃ (t : Nat) (l' : List UInt8) (bad' : Bool) (T : List ByteArray) (tv : Value), v12 = .int .i64 t ∧ Pend w w1 l0 (w.heap.size + 1) w1.heap.size l' bad' ⟨{ N0 with tags := T }, tv, .slice none 0 0⟩ wx ∧ readQ l0 = (if bad' then none else tagsR (i4 - t) l' T (ctags k N0 (Y.map NV.n) (endQ (n1 : Nat) (n2 : Nat) (n3 : Nat) X))) ∧ T.length + (i4 - t) ≤ 255 ∧ t ≤ i4 ∧ ∀ x ∈ T, x.size ≤ 255) (fun v12 _ => i4 - (intOf v12).toNat)
              case atStart => exact ⟨0, _, _, [], _, rfl, by (have := P6.out; rw [← HN0.out.1]; exact this), HN.out, by simp; omega, by omega, by intro b hb; cases hb⟩
              case round =>
                obtain ⟨t, l', bad', T, tv, rfl, hs6, hr6, hT6, ht6, hF6⟩ := hrel
                have HS8 := Lib.hid hs6
                have HR8 := Lib.hid hr6
                have HT8 := Lib.hid hT6
                have HF8 := Lib.hid hF6
                have hcb : wr.cell? ⟨w.heap.size + 1, 2, none⟩ = some (.bool bad') := hs6.rd.cell
                clear hs6 hr6 hT6 hF6 P6 HN
                by_cases htm : t < i4
                · have htm' : (t : Int) < i4 := by omega
                  cases bad' with
                  | true =>
                    go_wp2_with fail
                    go_meet
                    exact ⟨l', true, T, tv, HS8.out, by rw [HR8.out]; rfl, by have := HT8.out; omega, HF8.out⟩
                  | false =>
                    obtain ⟨ta, tc, htv, -⟩ := (HS8.out.own.tags ⟨{ N0 with tags := T }, tv, .slice none 0 0⟩ (by simp)).slice
                    simp only at htv
                    subst htv
                    have pd := (⟨HS8.out.rd.grown (Grow.refl wr).drew, HS8.out.tr.trans (Turned.of_grow (Grow.refl wr).drew), HS8.out.own.grow (Grow.refl wr).drew, HS8.out.len, HS8.out.low⟩ : Pend w w1 l0 (w.heap.size + 1) w1.heap.size l' false ⟨{ N0 with tags := T }, .slice ta T.length tc, .slice none 0 0⟩ wr.drew)
                    have cg := (pd.cells 3 _ rfl).1
                    have hnb := (pd.cells 3 _ rfl).2.2
                    have c7 := pd.text
                    clear pd
                    obtain ⟨tx, htx⟩ : ∃ x, x = tvQ l' false := ⟨_, rfl⟩
                    have htl : tx.size ≤ 255 := by rw [htx]; exact tvQ_le l' false
                    have HTQ := Lib.hid (tags_Q (i4 - t - 1) l' T (ctags k N0 (Y.map NV.n) (endQ (n1 : Nat) (n2 : Nat) (n3 : Nat) X)))
                    rw [← htx] at HTQ c7
                    clear htx
                    go_upto_region 23 with (fail)
                    clear hcb
                    go_region_law ((first
                      | (go_simp; go_at_call 49; refine c7.mono ?_; rintro e w7 ⟨rfl, hs9⟩; have HS9 := Lib.hid hs9; have cg7 := (hs9.cells 3 _ rfl).1; have hnb7 := (hs9.cells 3 _ rfl).2.2; clear hs9)
                      | (refine step_R (by rfl) _ _ 27 (by rfl) 9 is _ 1 16 Tryd.underlying27 his hsz0 hsz1 hsz2 (by rfl) (by decide) (.slice ta T.length tc) T.length (strC T) (by rfl) w7 (HS9.out.own.tags ⟨{ N0 with tags := T }, .slice ta T.length tc, .slice none 0 0⟩ (by simp)) HS9.out.tr.size [.string tx] rfl ?_ (by rfl) ?_ (by decide) ?_; (intro u hu; simp at hu; subst hu; rfl); (have := HT8.out; omega); intro v' w8 ra; obtain ⟨va, vc, e3, -⟩ := ra.1.slice; subst e3; obtain ⟨k8, f8, hs8⟩ := HS9.out.tag hw1 (x := tx) ra; have HSa := Lib.hid hs8; clear hs8 ra)))
                    all_goals
                      go_wp2_with fail
                      go_roundw
                      case rel => exact ⟨t + 1, _, _, T ++ [tx], _, by go_num, HSa.out, by rw [HR8.out, if_neg (by simp), show i4 - t = i4 - t - 1 + 1 by omega, HTQ.out, show i4 - (t + 1) = i4 - t - 1 by omega], by rw [List.length_append]; have := HT8.out; simp; omega, by omega, fun x hx => by
                        rcases List.mem_append.1 hx with hx | hx
                        · exact HF8.out x hx
                        · rw [List.mem_singleton.1 hx]; exact htl⟩
                      case measure => show i4 - ((t : Int) + 1).toNat < i4 - ((t : Int)).toNat; omega
                · have htm' : ¬ (t : Int) < i4 := by omega
                  go_wp2_with fail
                  go_meet
                  exact ⟨l', bad', T, tv, HS8.out, by rw [HR8.out, show i4 - t = 0 by omega]; rfl, by have := HT8.out; omega, HF8.out⟩
            case rest =>
              obtain ⟨l', bad', T, tv, hs9, hr9, hT9, hF9⟩ := hcut
              have HT9 := Lib.hid hT9
              have HF9 := Lib.hid hF9
              have HR9 := Lib.hid (ctags_Q hr9)
              have k5 := hs9.num 1 (by decide)
              have hi5l := nvQ_lt l' 1 bad'
              obtain ⟨i5, hi5⟩ : ∃ x, x = nvQ l' 1 bad' := ⟨_, rfl⟩
              rw [← hi5] at HR9 k5 hi5l
              clear hi5 hs9 hr9 hT9 hF9 P6 HN
              go_wp2_with fail
              refine k5.mono ?_
              rintro e w5 ⟨rfl, hsA⟩
              have HSA := Lib.hid hsA
              clear k5 hsA
              generalize nlQ l' 1 bad' = l5 at *
              generalize numO l' 1 bad' = b5 at *
              go_upto_block 6 with (fail)
              go_cut [13] (fun v13 wx => ∃ l2 bad2 Z sv, Pend w w1 l0 (w.heap.size + 1) w1.heap.size l2 bad2 ⟨{ N0 with tags := T, sheets := Z }, tv, sv⟩ wx ∧ readQ l0 = (if bad2 then none else csheets k { N0 with tags := T } (Y.map NV.n) (endQ (n1 : Nat) (n2 : Nat) (n3 : Nat) X) l2 Z) ∧ Z.length ≤ 255 ∧ ∀ x ∈ Z, 0 ≤ x ∧ x < 65536)
              case first =>
                go_wp2_with fail
                go_loopw [13] (fun v13 wx => ∃ (t : Nat) (l2 : List UInt8) (bad2 : Bool) (Z : List Int) (sv : Value), v13 = .int .i64 t ∧ Pend w w1 l0 (w.heap.size + 1) w1.heap.size l2 bad2 ⟨{ N0 with tags := T, sheets := Z }, tv, sv⟩ wx ∧ readQ l0 = (if bad2 then none else sheetsR (i5 - t) l2 Z (csheets k { N0 with tags := T } (Y.map NV.n) (endQ (n1 : Nat) (n2 : Nat) (n3 : Nat) X))) ∧ Z.length + (i5 - t) ≤ 255 ∧ t ≤ i5 ∧ ∀ x ∈ Z, 0 ≤ x ∧ x < 65536) (fun v13 _ => i5 - (intOf v13).toNat)
                case atStart => exact ⟨0, _, _, [], _, rfl, by (have := HSA.out; rw [← HN0.out.2.1]; exact this), HR9.out, by simp; omega, by omega, by intro b hb; cases hb⟩
                case round =>
                  obtain ⟨t, l2, bad2, Z, sv, rfl, hs6, hr6, hT6, ht6, hF6⟩ := hrel
                  have HS8 := Lib.hid hs6
                  have HR8 := Lib.hid hr6
                  have HT8 := Lib.hid hT6
                  have HF8 := Lib.hid hF6
                  have hcb : wr.cell? ⟨w.heap.size + 1, 2, none⟩ = some (.bool bad2) := hs6.rd.cell
                  clear hs6 hr6 hT6 hF6 HSA HR9
                  by_cases htm : t < i5
                  · have htm' : (t : Int) < i5 := by omega
                    cases bad2 with
                    | true =>
                      go_wp2_with fail
                      go_meet
                      exact ⟨l2, true, Z, sv, HS8.out, by rw [HR8.out]; rfl, by have := HT8.out; omega, HF8.out⟩
                    | false =>
                      obtain ⟨ta, tc, htv, -⟩ := (HS8.out.own.sheets ⟨{ N0 with tags := T, sheets := Z }, tv, sv⟩ (by simp)).slice
                      simp only at htv
                      subst htv
                      have pd := (⟨HS8.out.rd.grown (Grow.refl wr).drew, HS8.out.tr.trans (Turned.of_grow (Grow.refl wr).drew), HS8.out.own.grow (Grow.refl wr).drew, HS8.out.len, HS8.out.low⟩ : Pend w w1 l0 (w.heap.size + 1) w1.heap.size l2 false ⟨{ N0 with tags := T, sheets := Z }, tv, .slice ta Z.length tc⟩ wr.drew)
                      have cg := (pd.cells 4 _ rfl).1
                      have hnb := (pd.cells 4 _ rfl).2.2
                      have c7 := pd.num 2 (by decide)
                      clear pd
                      obtain ⟨tx, htx⟩ : ∃ x, x = nvQ l2 2 false := ⟨_, rfl⟩
                      have htl : tx < 256 ^ 2 := by rw [htx]; exact nvQ_lt l2 2 false
                      have HTQ := Lib.hid (sheets_Q (i5 - t - 1) l2 Z (csheets k { N0 with tags := T } (Y.map NV.n) (endQ (n1 : Nat) (n2 : Nat) (n3 : Nat) X)))
                      rw [← htx] at HTQ c7
                      clear htx
                      go_upto_region 28 with (fail)
                      clear hcb
                      go_region_law ((first
                        | (go_simp; go_at_call 48; refine c7.mono ?_; rintro e w7 ⟨rfl, hs9⟩; have HS9 := Lib.hid hs9; have cg7 := (hs9.cells 4 _ rfl).1; have hnb7 := (hs9.cells 4 _ rfl).2.2; clear hs9)
                        | (refine step_R (by rfl) _ _ 58 (by rfl) 3 ii _ 1 8 Tryd.underlying58 hii hiz0 hiz1 hiz2 (by rfl) (by decide) (.slice ta Z.length tc) Z.length (intC Z) (by rfl) w7 (HS9.out.own.sheets ⟨{ N0 with tags := T, sheets := Z }, tv, .slice ta Z.length tc⟩ (by simp)) HS9.out.tr.size [.int .i64 (tx : Nat)] rfl ?_ (by rfl) ?_ (by decide) ?_; (intro u hu; simp at hu; subst hu; rfl); (have := HT8.out; omega); intro v' w8 ra; obtain ⟨va, vc, e3, -⟩ := ra.1.slice; subst e3; obtain ⟨k8, f8, hs8⟩ := HS9.out.sheet hw1 (x := (tx : Nat)) ra; have HSa := Lib.hid hs8; clear hs8 ra)))
                      all_goals
                        go_wp2_with fail
                        go_roundw
                        case rel => exact ⟨t + 1, _, _, Z ++ [((tx : Nat) : Int)], _, by go_num, HSa.out, by rw [HR8.out, if_neg (by simp), show i5 - t = i5 - t - 1 + 1 by omega, HTQ.out, show i5 - (t + 1) = i5 - t - 1 by omega], by rw [List.length_append]; have := HT8.out; simp; omega, by omega, fun x hx => by
                          rcases List.mem_append.1 hx with hx | hx
                          · exact HF8.out x hx
                          · rw [List.mem_singleton.1 hx]; have : tx < 65536 := htl; omega⟩
                        case measure => show i5 - ((t : Int) + 1).toNat < i5 - ((t : Int)).toNat; omega
                  · have htm' : ¬ (t : Int) < i5 := by omega
                    go_wp2_with fail
                    go_meet
                    exact ⟨l2, bad2, Z, sv, HS8.out, by rw [HR8.out, show i5 - t = 0 by omega]; rfl, by have := HT8.out; omega, HF8.out⟩
              case rest =>
                obtain ⟨l6, b6, Z, sv, hsB, hrB, hZB, hFB⟩ := hcut
                have HSB := Lib.hid hsB
                have HRB := Lib.hid hrB
                have hbk := HS7.out.back hsB
                have HBK := Lib.hid hbk
                have z4 := hbk.five.2.2.2.2
                have hSl := hbk.lt
                obtain ⟨y0, -, hNl⟩ := hsB.cells 0 _ rfl
                have y1 := (hsB.cells 1 _ rfl).1
                have y2 := (hsB.cells 2 _ rfl).1
                have y3 := (hsB.cells 3 _ rfl).1
                have y4 := (hsB.cells 4 _ rfl).1
                obtain ⟨na, nc, hnv, -⟩ := hbk.own.notes.slice
                subst hnv
                obtain ⟨ta, tc, htv, -⟩ := (hsB.own.tags ⟨{ N0 with tags := T, sheets := Z }, tv, sv⟩ (by simp)).slice
                obtain ⟨za, zc, hsv, -⟩ := (hsB.own.sheets ⟨{ N0 with tags := T, sheets := Z }, tv, sv⟩ (by simp)).slice
                simp only at htv hsv
                subst htv hsv
                have hY255 : Y.length ≤ 255 := by have := HX6.out; omega
                clear hsB hrB HSA HR9 hbk
                go_wp2_with (at_builtin; refine app_R (by rfl) _ _ 34 (by rfl) 60 it _ 5 80 Tryd.underlying34 hit htz0 htz1 htz2 (by rfl) (by decide) (.slice na Y.length nc) Y.length (Y.flatMap noteC) (by rfl) _ HBK.out.own.notes HBK.out.rd.grow.size (noteC ⟨{ N0 with tags := T, sheets := Z }, .slice ta T.length tc, .slice za Z.length zc⟩) rfl ?_ (by rfl) ?_ (by decide) ?_; (intro u hu; simp at hu; rcases hu with rfl | rfl | rfl | rfl | rfl <;> rfl); omega; intro v' wA ra; obtain ⟨va, vc, e3, -⟩ := ra.1.slice; subst e3; obtain ⟨k3, f3, hs8⟩ := HS7.out.note HSB.out hw1 (Grow.refl _) ra; have HS9 := Lib.hid hs8; clear hs8 ra)
                go_wp2_with fail
                go_roundw
                case rel =>
                  refine ⟨j + 1, l6, b6, _, _, by go_num, HS9.out, ?_, ?_, by omega, ?_⟩
                  · rw [HRB.out, List.map_append, show q - (j + 1) = k by have := HK.out; omega]; rfl
                  · rw [List.length_append]; have := HX6.out; simp; omega
                  · intro y hy
                    rcases List.mem_append.1 hy with hy | hy
                    · exact HF6.out y hy
                    · obtain rfl := List.mem_singleton.1 hy
                      exact ⟨HN0.out.2.2, HT9.out, hZB, HF9.out, hFB⟩
                case measure => show q - ((j : Int) + 1).toNat < q - ((j : Int)).toNat; omega
        · have hjm' : ¬ (j : Int) < q := by omega
          go_wp2_with fail
          go_meet
          exact ⟨l, bad, nv, Y, HS6.out, by rw [HR6.out, show q - j = 0 by omega]; rfl, by have := HX6.out; omega, HF6.out⟩
    case rest =>
      obtain ⟨l, bad, nv, Y, hs7, hr7, hY7, hF7⟩ := hcut
      have HS7 := Lib.hid hs7
      have HR7 := Lib.hid hr7
      obtain ⟨x0, x1, x2, x3, x4⟩ := hs7.five
      have hcb : _ := hs7.rd.cell
      have htame : TameS ⟨(n1 : Nat), (n2 : Nat), (n3 : Nat), X, Y.map NV.n⟩ := fit_tame HX5.out (by rw [List.length_map]; exact hY7) HF5.out (fun n hn => by
        obtain ⟨y, hy, rfl⟩ := List.mem_map.1 hn
        exact hF7 y hy)
      have hrr := hs7.own.reads
      have cL := rlay_any ⟨(n1 : Nat), (n2 : Nat), (n3 : Nat), X, Y.map NV.n⟩ bv nv _ hrr htame
      have HTM := Lib.hid htame
      obtain ⟨xa, xc, hxv, -⟩ := hs7.own.books.slice
      obtain ⟨ya, yc, hyv, -⟩ := hs7.own.notes.slice
      subst hxv hyv
      unfold shelfV at cL
      clear hs7 hr7 hF7 hrr htame HS5 HQ5
      go_wp2_with fail
      refine cL.mono ?_
      rintro e wL hL
      obtain ⟨lv, ls, en, rfl, hbuf, hls, hen⟩ := layOut_of hL
      have hgL := hbuf.grow
      have HS8 := Lib.hid (HS7.out.grow hgL)
      obtain ⟨⟨e0, e1, e2, e3, e4⟩, g0, g1, g2, g3, g4⟩ := HS8.out.res5
      obtain ⟨z0, z1, z2, z3, z4⟩ := HS8.out.five
      have hcb2 := HS8.out.rd.cell
      have hgw := HS8.out.rd.grow
      have hlow := HS8.out.low.1
      have hv1 := conv_bytes hbuf.bytes
      have hv2 := conv_bytes (HV.out.grow hgw)
      clear hL hbuf x0 x1 x2 x3 x4 hcb
      cases bad with
      | true =>
        have HN := Lib.hid (readQ_none (HR7.out.trans rfl))
        go_wp2_with fail
        all_goals (
          refine bodyPost_ret (v := .tuple #[.agg #[.int .i64 0, .int .i64 0, .int .i64 0, .slice none 0 0, .slice none 0 0], .int .i64 5]) ?_ rfl ?_
          · rw [results_cell_tmp rfl]
            go_simp
          · exact ret_Q HN.out (by repeat' (first | exact hgw | refine Grow.set ?_ (by first | (simp; done) | omega | (simp; omega)) _)))
      | false =>
        have HR8 := Lib.hid (readQ_some (HR7.out.trans rfl))
        by_cases hm : mayS ⟨(n1 : Nat), (n2 : Nat), (n3 : Nat), X, Y.map NV.n⟩ = true
        · rw [if_pos hm] at hls hen
          subst hls hen
          by_cases hq : layB ⟨(n1 : Nat), (n2 : Nat), (n3 : Nat), X, Y.map NV.n⟩ = l0
          · have HN := Lib.hid (HR8.out.trans (if_pos ⟨hm, hq⟩))
            rw [hq] at hv1
            have HOD := Lib.hid (show OwnD w.heap.size (.slice xa X.length xc) (.slice ya Y.length yc) X Y w w.heap.size wL from ⟨hgw, HS8.out.own, _, HS8.out.res⟩)
            clear hm hq HR8
            go_wp2_with fail
            refine bodyPost_ret (v := .tuple #[.agg #[.int .i64 (n1 : Nat), .int .i64 (n2 : Nat), .int .i64 (n3 : Nat), .slice xa X.length xc, .slice ya Y.length yc], .int .i64 0]) ?_ rfl ?_
            · rw [results_cell_tmp rfl]
              go_simp
            · have hfin : ∀ W', OwnD w.heap.size (.slice xa X.length xc) (.slice ya Y.length yc) X Y w w.heap.size W' → RetRead l0 w (.returned (.tuple #[.agg #[.int .i64 (n1 : Nat), .int .i64 (n2 : Nat), .int .i64 (n3 : Nat), .slice xa X.length xc, .slice ya Y.length yc], .int .i64 0])) W' := fun W' hW => by
                refine ⟨hW.1, ?_⟩
                rw [HN.out]
                exact ⟨_, _, Y, rfl, hW.2.1, rfl⟩
              refine hfin _ ?_
              repeat' (first | exact HOD.out | refine OwnD.set ?_ hlow _ _)
          · have HN := Lib.hid (HR8.out.trans (if_neg (fun h => hq h.2)))
            have hne : ((bytesS (layB ⟨(n1 : Nat), (n2 : Nat), (n3 : Nat), X, Y.map NV.n⟩)).toList == (bytesS l0).toList) = false := by
              rw [beq_eq_false_iff_ne]
              intro h
              exact hq (by
                have := congrArg (fun b : ByteArray => b.data.toList) (eq_of_tl h)
                exact this)
            clear hm hq HR8
            generalize bytesS (layB ⟨(n1 : Nat), (n2 : Nat), (n3 : Nat), X, Y.map NV.n⟩) = s1 at *
            go_wp2_with fail
            all_goals (
              refine bodyPost_ret (v := .tuple #[.agg #[.int .i64 0, .int .i64 0, .int .i64 0, .slice none 0 0, .slice none 0 0], .int .i64 5]) ?_ rfl ?_
              · rw [results_cell_tmp rfl]
                go_simp
              · exact ret_Q HN.out (by repeat' (first | exact hgw | refine Grow.set ?_ (by first | (simp; done) | omega | (simp; omega)) _)))
        · have HN := Lib.hid (HR8.out.trans (if_neg (fun h => hm h.1)))
          rw [if_neg hm] at hls hen
          subst hls hen
          clear hm HR8
          go_wp2_with fail
          all_goals (
            refine bodyPost_ret (v := .tuple #[.agg #[.int .i64 0, .int .i64 0, .int .i64 0, .slice none 0 0, .slice none 0 0], .int .i64 5]) ?_ rfl ?_
            · rw [results_cell_tmp rfl]
              go_simp
            · exact ret_Q HN.out (by repeat' (first | exact hgw | refine Grow.set ?_ (by first | (simp; done) | omega | (simp; omega)) _)))
end Go.Proofs.YtbdbmigkcpgmkaaDoor
