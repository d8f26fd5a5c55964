/- The walk of the law CodingSizes. -/
import Derived.Test.YtbdbmigkcpgmkaaDoorAwake
import Derived.Test.YtbdbmigkcpgmkaaDoorOpen
set_option linter.unusedVariables false
set_option linter.unusedSimpArgs false
namespace Go.Proofs.YtbdbmigkcpgmkaaDoor
open Go.RowKit Go.Lib
theorem box5 {w : World} {b : Nat} {t : TypeId} {m : Nat × Nat} {u0 u1 u2 u3 u4 : Value} (hb : w.heap[b]? = some (.cells #[u0, u1, u2, u3, u4] t m)) :
    w.cell? ⟨b, 0, none⟩ = some u0 ∧ w.cell? ⟨b, 1, none⟩ = some u1 ∧ w.cell? ⟨b, 2, none⟩ = some u2 ∧ w.cell? ⟨b, 3, none⟩ = some u3 ∧ w.cell? ⟨b, 4, none⟩ = some u4 :=
  ⟨(cell_of_row w b 0 _ _ _ hb).trans rfl, (cell_of_row w b 1 _ _ _ hb).trans rfl, (cell_of_row w b 2 _ _ _ hb).trans rfl, (cell_of_row w b 3 _ _ _ hb).trans rfl, (cell_of_row w b 4 _ _ _ hb).trans rfl⟩
theorem textB_length (t : ByteArray) : (textB t).length = 1 + t.size := by unfold textB; rw [List.length_append, putB_length]; rfl
theorem bookB_length (x : Book) : (bookB x).length = 4 + x.name.size := by unfold bookB; rw [List.length_append, putB_length, textB_length]; omega
theorem sheets_length (l : List Int) : (l.flatMap fun y => putB y 2).length = 2 * l.length := by
  induction l with
  | nil => rfl
  | cons y l ih => rw [List.flatMap_cons, List.length_append, putB_length, ih, List.length_cons]; omega
theorem noteB_length (x : Note) : (noteB x).length = 9 + x.name.size + 2 * x.sheets.length + (x.tags.flatMap textB).length := by
  unfold noteB; simp only [List.length_append, putB_length, textB_length, sheets_length]; omega
theorem layB_length (s : Shelf) : (layB s).length = 11 + (s.books.flatMap bookB).length + (s.notes.flatMap noteB).length := by
  unfold layB headB; simp only [List.length_append, putB_length]; omega
theorem take_flat {α β : Type} (f : α → List β) {l : List α} {j : Nat} {x : α} (hx : l[j]? = some x) : ((l.take (j + 1)).flatMap f).length = ((l.take j).flatMap f).length + (f x).length := by
  obtain ⟨hi, e⟩ := List.getElem?_eq_some_iff.1 hx
  rw [List.take_succ_eq_append_getElem hi, e, List.flatMap_append, List.length_append]; simp
theorem all_flat {α β : Type} (f : α → List β) {l : List α} {j : Nat} (hj : l.length ≤ j) : ((l.take j).flatMap f).length = (l.flatMap f).length := by rw [List.take_of_length_le hj]
set_option maxRecDepth 100000 in
set_option maxHeartbeats 4000000 in
theorem sizes_walk (s : Shelf) (bv nv : Value) (w : World) (h : ShelfR w s bv nv) (hI : ∀ n ∈ s.notes, ∀ y ∈ n.sheets, Wf y) (hG : ∀ n ∈ s.notes, n.tags.length ≤ 9223372036854775807) (hT : Tabs w) :
    Calls Tryd.prog 11 #[shelfV s bv nv] w fun e w' => e = .returned (.bool true) ∧ Grow w w' := by
  have cA := fun W (g : Grow w W) => awake19_any W (hT.below g)
  have cG := fun W (g : Grow w W) => great_any s bv nv W (h.grow g) hG
  have cM := fun W (g : Grow w W) (hz : TameS s) => mayS_any s bv nv W (h.grow g) hz (hT.below g)
  have cS := fun W (g : Grow w W) (hz : TameS s) => size_any s bv nv W (h.grow g) hz (hT.below g)
  have cL := fun W (g : Grow w W) (hz : TameS s) => lay_any s bv nv W (h.grow g) hz (hT.below g)
  obtain ⟨a1, c1, rfl⟩ := h.1.mk
  obtain ⟨a2, c2, rfl⟩ := h.2.mk
  have HH := Lib.hid h
  have HI := Lib.hid hI
  clear h hI hG
  unfold shelfV at cG cM cS cL ⊢
  go_enter Tryd.func11, Tryd.ntmps11
  go_wp2_with fail
  refine (cG _ ((Grow.refl w).alloc _)).mono ?_
  rintro e w1 ⟨g1, r, rfl, hr⟩
  have gw1 := ((Grow.refl w).alloc _).trans g1
  have hbx := Grow.blk g1 (heap_alloc_new w _)
  have hsz : w.heap.size < w1.heap.size := by have := g1.size; simp at this; omega
  clear g1 cG
  cases r with
  | true =>
    go_wp2_with fail
    refine (cA w1 gw1).mono ?_
    rintro e w2 ⟨rfl, g2⟩
    go_wp2_with fail
    go_ret
    exact ⟨rfl, gw1.trans g2⟩
  | false =>
    have hlow := hr rfl
    have hz : TameS s := ⟨hlow.tame, HI.out⟩
    have HL := Lib.hid hlow
    have HZ := Lib.hid hz
    have n1 : s.books.length ≤ 10 := hlow.1
    have n2 : s.notes.length ≤ 16 := hlow.2.1
    obtain ⟨p0, p1, p2, p3, p4⟩ := box5 hbx
    clear hr hlow hz
    go_wp2_with fail
    refine (cM w1 gw1 HZ.out).mono ?_
    rintro e w2 ⟨rfl, g2⟩
    have gw2 := gw1.trans g2
    replace hbx := Grow.blk g2 hbx
    clear p0 p1 p2 p3 p4 cM hsz gw1
    have hsz : w.heap.size < w2.heap.size := (Array.getElem?_eq_some_iff.1 hbx).1
    obtain ⟨p0, p1, p2, p3, p4⟩ := box5 hbx
    cases hm : mayS s
    · have HM := Lib.hid (show sizeS s = 0 by unfold sizeS; rw [hm]; rfl)
      clear hm
      go_wp2_with fail
      refine (cS w2 gw2 HZ.out).mono ?_
      rintro e w3 ⟨rfl, g3⟩
      rw [HM.out]
      go_wp2_with fail
      refine (cA w3 (gw2.trans g3)).mono ?_
      rintro e w4 ⟨rfl, g4⟩
      go_wp2_with fail
      go_ret
      exact ⟨rfl, (gw2.trans g3).trans g4⟩
    · have HM := Lib.hid (show sizeS s = (layB s).length by unfold sizeS; rw [hm]; rfl)
      have HMM := Lib.hid hm
      clear hm
      have HBX := Lib.hid hbx
      clear hbx g2
      go_wp2_with fail
      go_loop [3, 4] (fun v3 v4 => ∃ j : Nat, v4 = .int .i64 j ∧ j ≤ s.books.length ∧ v3 = .int .i64 ((11 + ((s.books.take j).flatMap bookB).length : Nat) : Int)) (fun _ v4 => s.books.length - (intOf v4).toNat)
      case atStart => exact ⟨0, rfl, by omega, rfl⟩
      case round =>
        obtain ⟨j, rfl, hj, rfl⟩ := hrel
        by_cases hlt : j < s.books.length
        · have hlt' : (j : Int) < s.books.length := by omega
          obtain ⟨x, hx, -⟩ := lt_get hlt
          obtain ⟨bb, off, rfl, hbb, k0, k1⟩ := (HH.out.1.grow gw2).at hx
          have HF := Lib.hid (take_flat bookB hx)
          have HBL := Lib.hid (bookB_length x)
          have hns := HZ.out.1.book hx
          have HFB := Lib.hid (flat_le bookB 1000004 (s.books.take j) (fun y hm => bookB_le (HZ.out.1.2.2.1 y (List.mem_of_mem_take hm))))
          have hjb : ((s.books.take j).flatMap bookB).length ≤ 100000000 := by
            have h3 : (s.books.take j).length ≤ 10 := by rw [List.length_take]; omega
            have h4 := Nat.mul_le_mul_right 1000004 h3
            have := HFB.out; omega
          clear hx
          generalize hA : ((s.books.take j).flatMap bookB).length = A at *
          go_wp2_with fail
          go_round
          case rel => exact ⟨j + 1, by go_num, by omega, by rw [HF.out, HBL.out]; exact congrArg (Value.int IntKind.i64) (by omega)⟩
          case measure => simp [intOf]; omega
        · have hlt' : ¬ (j : Int) < s.books.length := by omega
          have HFA := Lib.hid (all_flat bookB (l := s.books) (j := j) (by omega))
          rw [HFA.out]
          have hAb : (s.books.flatMap bookB).length ≤ 100000000 := by
            have h1 := flat_le bookB 1000004 s.books (fun y hm => bookB_le (HZ.out.1.2.2.1 y hm))
            have h4 := Nat.mul_le_mul_right 1000004 n1
            omega
          generalize hA : (s.books.flatMap bookB).length = A at *
          have HA := Lib.hid hA
          clear hA HFA
          go_wp2_with fail
          go_loopw [3, 5] (fun v3 v5 wx => Grow w2 wx ∧ ∃ j : Nat, v5 = .int .i64 j ∧ j ≤ s.notes.length ∧ v3 = .int .i64 ((11 + A + ((s.notes.take j).flatMap noteB).length : Nat) : Int)) (fun _ v5 _ => s.notes.length - (intOf v5).toNat)
          case atStart => exact ⟨Grow.refl _, 0, rfl, by omega, rfl⟩
          case round =>
            obtain ⟨gr, j, rfl, hj, rfl⟩ := hrel
            have gwr := gw2.trans gr
            have hbx := Grow.blk gr HBX.out
            have HBY := Lib.hid hbx
            clear p0 p1 p2 p3 p4 hsz
            have hsz : w.heap.size < wr.heap.size := (Array.getElem?_eq_some_iff.1 hbx).1
            obtain ⟨p0, p1, p2, p3, p4⟩ := box5 hbx
            clear hbx
            have hjb : ((s.notes.take j).flatMap noteB).length ≤ 100000000 := by
              have h1 := flat_le noteB 6000000 (s.notes.take j) (fun x hm => by
                have hm' := List.mem_of_mem_take hm
                obtain ⟨i, hi, e⟩ := List.getElem_of_mem hm'
                have := (mayS_small HMM.out).2.2 x hm'
                exact noteB_le (HZ.out.note (i := i) (by rw [List.getElem?_eq_getElem hi, e])) this.1 this.2)
              have h3 : (s.notes.take j).length ≤ 16 := by rw [List.length_take]; omega
              have h4 := Nat.mul_le_mul_right 6000000 h3
              omega
            by_cases hlt : j < s.notes.length
            · have hlt' : (j : Int) < s.notes.length := by omega
              obtain ⟨x, hx, -⟩ := lt_get hlt
              obtain ⟨bb, off, tv, sv, rfl, hbb, k0, k1, k2, k3, k4, htx, hsx⟩ := (HH.out.2.grow gwr).at hx
              obtain ⟨ta, tc, rfl⟩ := htx.mk
              obtain ⟨sa, sc, rfl⟩ := hsx.mk
              have HTX := Lib.hid htx
              have HF := Lib.hid (take_flat noteB hx)
              have HBL := Lib.hid (noteB_length x)
              obtain ⟨hns, -, -, hts, -⟩ := HZ.out.note hx
              have HTS := Lib.hid hts
              have hsm := (mayS_small HMM.out).2.2 x (List.mem_of_getElem? hx)
              have m1 : x.tags.length ≤ 4 := hsm.1
              have m2 : x.sheets.length ≤ 8 := hsm.2
              clear hx htx hsx hts hsm
              generalize hB : ((s.notes.take j).flatMap noteB).length = B at *
              clear hB
              go_upto_region 14 with (fail)
              generalize hU : wr.alloc (.cells #[.int .i64 x.id, .int .i64 x.book, .string x.name, .slice ta x.tags.length tc, .slice sa x.sheets.length sc] 60) = U
              have gU : Grow wr U := by rw [← hU]; exact (Grow.refl wr).alloc _
              have hbu : U.heap[wr.heap.size]? = some (.cells #[.int .i64 x.id, .int .i64 x.book, .string x.name, .slice ta x.tags.length tc, .slice sa x.sheets.length sc] 60 (0, 0)) := by rw [← hU]; exact heap_alloc_new wr _
              clear hU p0 p1 p2 p3 p4 k0 k1 k2 k3 k4
              obtain ⟨k0, k1, k2, k3, k4⟩ := box5 hbu
              have hbu2 : wr.heap.size < U.heap.size := (Array.getElem?_eq_some_iff.1 hbu).1
              clear hbu
              obtain ⟨p0, p1, p2, p3, p4⟩ := box5 (Grow.blk gU HBY.out)
              generalize hwb : wr.heap.size = wb at *
              clear hwb
              go_wp2_with fail
              go_loop [3, 7] (fun v3 v7 => ∃ k : Nat, v7 = .int .i64 k ∧ k ≤ x.tags.length ∧ v3 = .int .i64 ((11 + A + B + 9 + x.name.size + 2 * x.sheets.length + ((x.tags.take k).flatMap textB).length : Nat) : Int)) (fun _ v7 => x.tags.length - (intOf v7).toNat)
              case atStart => exact ⟨0, rfl, by omega, congrArg (Value.int IntKind.i64) (by rw [List.take_zero, List.flatMap_nil, List.length_nil]; omega)⟩
              case round =>
                obtain ⟨k, rfl, hk, rfl⟩ := hrel
                by_cases hlt2 : k < x.tags.length
                · have hlt2' : (k : Int) < x.tags.length := by omega
                  obtain ⟨t, ht, -⟩ := lt_get hlt2
                  obtain ⟨tb, tf, rfl, htb, pc⟩ := (Texts.grow HTX.out gU).at ht
                  have HFT := Lib.hid (take_flat textB ht)
                  have HTL := Lib.hid (textB_length t)
                  have htz := HTS.out t (List.mem_of_getElem? ht)
                  have hkb : ((x.tags.take k).flatMap textB).length ≤ 10000000 := by
                    have h1 := flat_le textB 1000001 (x.tags.take k) (fun t hm => textB_le (HTS.out t (List.mem_of_mem_take hm)))
                    have h3 : (x.tags.take k).length ≤ 4 := by rw [List.length_take]; omega
                    have h4 := Nat.mul_le_mul_right 1000001 h3
                    omega
                  clear ht
                  generalize hC : ((x.tags.take k).flatMap textB).length = C at *
                  go_wp2_with fail
                  go_round
                  case rel => exact ⟨k + 1, by go_num, by omega, by rw [HFT.out, HTL.out]; exact congrArg (Value.int IntKind.i64) (by omega)⟩
                  case measure => simp [intOf]; omega
                · have hlt2' : ¬ (k : Int) < x.tags.length := by omega
                  have HFB := Lib.hid (all_flat textB (l := x.tags) (j := k) (by omega))
                  rw [HFB.out]
                  have HE := Lib.hid (show 11 + A + B + 9 + x.name.size + 2 * x.sheets.length + (x.tags.flatMap textB).length = 11 + A + ((s.notes.take (j + 1)).flatMap noteB).length by rw [HF.out, HBL.out]; omega)
                  rw [HE.out]
                  clear HFB
                  go_wp2_with fail
                  go_roundw
                  case rel => exact ⟨gr.trans gU, j + 1, by go_num, by omega, rfl⟩
                  case measure => simp [intOf]; omega
            · have hlt' : ¬ (j : Int) < s.notes.length := by omega
              have HFN := Lib.hid (all_flat noteB (l := s.notes) (j := j) (by omega))
              have HE := Lib.hid (show 11 + A + ((s.notes.take j).flatMap noteB).length = (layB s).length by rw [HFN.out, layB_length, HA.out])
              rw [HE.out]
              clear HFN
              go_wp2_with fail
              refine (cL wr gwr HZ.out).mono ?_
              rintro e w5 hp
              rcases hp with ⟨hm0, -⟩ | ⟨-, v, rfl, hb⟩
              · rw [HMM.out] at hm0; cases hm0
              have g5 := hb.grow
              have hbx5 := Grow.blk g5 HBY.out
              have gw5 := gwr.trans g5
              obtain ⟨va, vc, e⟩ := hb.bytes.mk
              subst e
              clear p0 p1 p2 p3 p4 hb
              have hsz5 : w.heap.size < w5.heap.size := (Array.getElem?_eq_some_iff.1 hbx5).1
              obtain ⟨p0, p1, p2, p3, p4⟩ := box5 hbx5
              go_wp2_with fail
              refine (cS w5 gw5 HZ.out).mono ?_
              rintro e w6 ⟨rfl, g6⟩
              rw [HM.out]
              go_wp2_with fail
              refine (cA w6 (gw5.trans g6)).mono ?_
              rintro e w7 ⟨rfl, g7⟩
              go_wp2_with fail
              go_ret
              exact ⟨rfl, (gw5.trans g6).trans g7⟩
theorem sizes_law (s : Shelf) (bv nv : Value) (w : World) (h : ShelfArg w s bv nv) (hT : Tabs w) :
    Calls Tryd.prog 11 #[shelfV s bv nv] w fun e w' => e = .returned (.bool true) ∧ Below w.heap.size w w' := sizes_walk s bv nv w h.rows h.ints h.tags hT
end Go.Proofs.YtbdbmigkcpgmkaaDoor
