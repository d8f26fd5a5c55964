/- A shelf that was answered is written over: OverShelf. What was answered is written over: rows of items. The walk of jotterref17.into. The walks of jotterref17.Books, Notes, Find. The walk of shelf.Find. The walk of shelf.Notes. What Find answers, with its rows, into a box that was there. The walk of the law ShelfTells. -/
import Derived.Test.YtnajccljdjllgaaGreatDoorJShelfTellsh
import Derived.Test.YtnajccljdjllgaaGreatDoorJShelfTellsc
import Derived.Test.YtnajccljdjllgaaGreatDoorJShelfTellsf
import Derived.Test.YtnajccljdjllgaaGreatDoorJShelfTellsa
import Derived.Deep.RegionLaw
import Derived.Deep.RegionHeld3
import Derived.Test.YtnajccljdjllgaaGreatDoorJShelfTellsd
import Derived.Deep.QuietTactic
import Derived.BigQuiet
set_option linter.unusedVariables false
set_option linter.unusedSimpArgs false
namespace Go.Proofs.YtnajccljdjllgaaGreatDoor
open Go.RowKit Go.Lib
/-- The notes from i on (tags), from k on (sheets), own their rows. -/
structure OvS (base : Nat) (nv : Value) (Y : List NV) (i k : Nat) (w : World) : Prop where
  notes : RowO base 46 5 nv Y.length (Y.flatMap noteC) w
  tags : ∀ (j : Nat) y, i ≤ j → Y[j]? = some y → RowO base 9 1 y.tv y.n.tags.length (strC y.n.tags) w
  sheets : ∀ (j : Nat) y, k ≤ j → Y[j]? = some y → RowO base 3 1 y.sv y.n.sheets.length (intC y.n.sheets) w
  tsep : ∀ (j q : Nat) y z, i ≤ j → j < q → Y[j]? = some y → Y[q]? = some z → ∀ b, blkOf y.tv = some b → blkOf z.tv ≠ some b
  ssep : ∀ (j q : Nat) y z, k ≤ j → j < q → Y[j]? = some y → Y[q]? = some z → ∀ b, blkOf y.sv = some b → blkOf z.sv ≠ some b
section
variable {base : Nat} {bv nv : Value} {X : List Book} {Y : List NV} {i k : Nat} {w w' : World}
theorem OvS.start (h : OwnS base bv nv X Y w) (kk : Kept 58 w w') : OvS base nv Y 0 0 w' :=
  ⟨h.notes.kept (by decide) kk, fun j y _ hy => (h.tags y (List.mem_of_getElem? hy)).kept (by decide) kk, fun j y _ hy => (h.sheets y (List.mem_of_getElem? hy)).kept (by decide) kk, fun j q y z _ hjq hy hz => pair_get h.tsep hy hz hjq, fun j q y z _ hjq hy hz => pair_get h.ssep hy hz hjq⟩
theorem OvS.afterT (h : OvS base nv Y i k w) {y : NV} (hy : Y[i]? = some y) (g : w.grownBy w' (blkOf y.tv)) : OvS base nv Y (i + 1) k w' := by
  have kk := (h.tags i y (Nat.le_refl _) hy).keeps g
  refine ⟨h.notes.kept (by decide) kk, fun j z hj hz => ?_, fun j z hj hz => (h.sheets j z hj hz).kept (by decide) kk, fun j q a b hj => h.tsep j q a b (by omega), h.ssep⟩
  have hr := h.tags j z (by omega) hz
  refine hr.kept_of fun g' hg' => g.block g' (hr.blk_lt hg') fun e => ?_
  exact h.tsep i j y z (Nat.le_refl _) (by omega) hy hz g' e.symm hg'
theorem OvS.afterI (h : OvS base nv Y i k w) {y : NV} (hy : Y[k]? = some y) (g : w.grownBy w' (blkOf y.sv)) : OvS base nv Y i (k + 1) w' := by
  have kk := (h.sheets k y (Nat.le_refl _) hy).keeps g
  refine ⟨h.notes.kept (by decide) kk, fun j z hj hz => (h.tags j z hj hz).kept (by decide) kk, fun j z hj hz => ?_, h.tsep, fun j q a b hj => h.ssep j q a b (by omega)⟩
  have hr := h.sheets j z (by omega) hz
  refine hr.kept_of fun g' hg' => g.block g' (hr.blk_lt hg') fun e => ?_
  exact h.ssep k j y z (Nat.le_refl _) (by omega) hy hz g' e.symm hg'
theorem row_put1 {e : TypeId} (h : RowO base e 5 nv Y.length (Y.flatMap noteC) w) {y : NV} (hy : Y[i]? = some y) {b c : Nat} (en : nv = .slice (some ⟨b, 0, none⟩) Y.length c) (p : Nat) (hp : p < 5) (u : Value) (y' : NV) (hy' : noteC y' = (noteC y).set p u) :
    RowO base e 5 nv (Y.set i y').length ((Y.set i y').flatMap noteC) (w.setCell ⟨b, i * 5 + p, none⟩ u) ∧ Turned b w (w.setCell ⟨b, i * 5 + p, none⟩ u) := by
  obtain ⟨u0, hu0⟩ : ∃ u0, (Y.flatMap noteC)[i * 5 + p]? = some u0 := by
    refine ⟨_, List.getElem?_eq_getElem ?_⟩
    rw [h.len]
    have := (List.getElem?_eq_some_iff.1 hy).1
    have : (i + 1) * 5 ≤ Y.length * 5 := Nat.mul_le_mul_right 5 this
    omega
  obtain ⟨b1, c1, e1, hb1, hr1, t1, -⟩ := h.stored hu0 u
  rw [en] at e1
  injection e1 with e2
  injection e2 with e2
  injection e2 with e2
  subst e2
  rw [flat_set noteC (fun _ => rfl) (y := y') hy hp hy'] at hr1
  rw [List.length_set]
  exact ⟨hr1, t1⟩
abbrev zN : NV := ⟨⟨-9, 0, ⟨#[]⟩, [], []⟩, .slice none 0 0, .slice none 0 0⟩
abbrev put5w (w : World) (b i : Nat) : World := ((((w.setCell ⟨b, i * 5, none⟩ (.int .i64 (-9))).setCell ⟨b, i * 5 + 1, none⟩ (.int .i64 0)).setCell ⟨b, i * 5 + 2, none⟩ (.string ⟨#[]⟩)).setCell ⟨b, i * 5 + 3, none⟩ (.slice none 0 0)).setCell ⟨b, i * 5 + 4, none⟩ (.slice none 0 0)
theorem OvS.put (h : OvS base nv Y (i + 1) (i + 1) w) {y : NV} (hy : Y[i]? = some y) {b c : Nat} (en : nv = .slice (some ⟨b, 0, none⟩) Y.length c) :
    OvS base nv (Y.set i zN) (i + 1) (i + 1) (put5w w b i) ∧ Turned b w (put5w w b i) := by
  have hi := (List.getElem?_eq_some_iff.1 hy).1
  obtain ⟨r1, t1⟩ := row_put1 h.notes hy en 0 (by decide) (.int .i64 (-9)) ⟨{ y.n with id := -9 }, y.tv, y.sv⟩ rfl
  have g1 : (Y.set i ⟨{ y.n with id := -9 }, y.tv, y.sv⟩)[i]? = some ⟨{ y.n with id := -9 }, y.tv, y.sv⟩ := List.getElem?_set_self hi
  obtain ⟨r2, t2⟩ := row_put1 r1 g1 (by rw [List.length_set]; exact en) 1 (by decide) (.int .i64 0) ⟨{ y.n with id := -9, book := 0 }, y.tv, y.sv⟩ rfl
  rw [List.set_set] at r2
  have g2 : (Y.set i ⟨{ y.n with id := -9, book := 0 }, y.tv, y.sv⟩)[i]? = some ⟨{ y.n with id := -9, book := 0 }, y.tv, y.sv⟩ := List.getElem?_set_self hi
  obtain ⟨r3, t3⟩ := row_put1 r2 g2 (by rw [List.length_set]; exact en) 2 (by decide) (.string ⟨#[]⟩) ⟨{ y.n with id := -9, book := 0, name := ⟨#[]⟩ }, y.tv, y.sv⟩ rfl
  rw [List.set_set] at r3
  have g3 : (Y.set i ⟨{ y.n with id := -9, book := 0, name := ⟨#[]⟩ }, y.tv, y.sv⟩)[i]? = some ⟨{ y.n with id := -9, book := 0, name := ⟨#[]⟩ }, y.tv, y.sv⟩ := List.getElem?_set_self hi
  obtain ⟨r4, t4⟩ := row_put1 r3 g3 (by rw [List.length_set]; exact en) 3 (by decide) (.slice none 0 0) ⟨{ y.n with id := -9, book := 0, name := ⟨#[]⟩ }, .slice none 0 0, y.sv⟩ rfl
  rw [List.set_set] at r4
  have g4 : (Y.set i ⟨{ y.n with id := -9, book := 0, name := ⟨#[]⟩ }, .slice none 0 0, y.sv⟩)[i]? = some ⟨{ y.n with id := -9, book := 0, name := ⟨#[]⟩ }, .slice none 0 0, y.sv⟩ := List.getElem?_set_self hi
  obtain ⟨r5, t5⟩ := row_put1 r4 g4 (by rw [List.length_set]; exact en) 4 (by decide) (.slice none 0 0) zN rfl
  rw [List.set_set] at r5
  have tt := (((t1.trans t2).trans t3).trans t4).trans t5
  obtain ⟨cur, hcur⟩ : ∃ cur : Array Value, w.heap[b]? = some (.cells cur 46 (0, 0)) := by
    obtain ⟨u0, hu0⟩ : ∃ u0, (Y.flatMap noteC)[i * 5]? = some u0 := ⟨_, List.getElem?_eq_getElem (by rw [h.notes.len]; omega)⟩
    obtain ⟨b1, c1, e1, -, -, -, hb1⟩ := h.notes.cell hu0
    rw [en] at e1
    injection e1 with e2
    injection e2 with e2
    injection e2 with e2
    subst e2
    exact (h.notes.blk hb1).2
  have kk := kept_of_turned hcur tt
  have hst : ∀ (j : Nat) z, i + 1 ≤ j → (Y.set i zN)[j]? = some z → Y[j]? = some z := fun j z hj hz => by rw [List.getElem?_set_ne (by omega)] at hz; exact hz
  refine ⟨⟨r5, fun j z hj hz => (h.tags j z hj (hst j z hj hz)).kept (by decide) kk, fun j z hj hz => (h.sheets j z hj (hst j z hj hz)).kept (by decide) kk, fun j q p r hj hjq hp hr => h.tsep j q p r hj hjq (hst j p hj hp) (hst q r (by omega) hr), fun j q p r hj hjq hp hr => h.ssep j q p r hj hjq (hst j p hj hp) (hst q r (by omega) hr)⟩, tt⟩
end
/-- Blocks below base are as they were. -/
theorem below_turned {base b : Nat} {w0 w w' : World} (h : Below base w0 w) (t : Turned b w w') (hb : base ≤ b) (hz : base ≤ w.heap.size) : Below base w0 w' := Below.grown h (grown_turned t) hz (fun k hk => by obtain rfl := Option.some.inj hk; exact hb)
set_option maxRecDepth 100000 in
set_option maxHeartbeats 4000000 in
theorem overShelf_any (S : Shelf) (bv nv : Value) (Y : List NV) (base : Nat) (w : World) (h : OwnS base bv nv S.books Y w) (hm : Y.map NV.n = S.notes) (hz : Tame S) (hb : base ≤ w.heap.size) :
    Calls Tryz.prog 11 #[shelfV S bv nv] w fun e w' => e = .returned (.tuple #[]) ∧ Below base w w' := by
  obtain ⟨ba, bc, rfl, -⟩ := h.books.slice
  obtain ⟨na, nc, rfl, -⟩ := h.notes.slice
  have hYl : Y.length = S.notes.length := by rw [← hm, List.length_map]
  have hlen : ∀ y ∈ Y, y.n.tags.length ≤ 1000000 ∧ y.n.sheets.length ≤ 1000000 := fun y hy => by
    have := hz.2.2.2 y.n (by rw [← hm]; exact List.mem_map_of_mem hy)
    exact ⟨this.2.1, this.2.2.1⟩
  have HO := Lib.hid h
  have HLN := Lib.hid hlen
  have hbl := hz.1
  have hnl : Y.length ≤ 1000000 := by rw [hYl]; exact hz.2.1
  have HXX := Lib.hid (heap_alloc_new w (.cells #[.int .i64 S.nb, .int .i64 S.nn, .int .i64 S.ns, .slice ba S.books.length bc, .slice na Y.length nc] 25))
  clear h hm hz hYl hlen
  unfold shelfV
  go_enter Tryz.func11, Tryz.ntmps11
  go_upto_region 1 with (fail)
  generalize hV : w.alloc (.cells #[.int .i64 S.nb, .int .i64 S.nn, .int .i64 S.ns, .slice ba S.books.length bc, .slice na Y.length nc] 25) = V
  have gV : Grow w V := by rw [← hV]; exact (Grow.refl w).alloc _
  have hbx : V.heap[w.heap.size]? = some (.cells #[.int .i64 S.nb, .int .i64 S.nn, .int .i64 S.ns, .slice ba S.books.length bc, .slice na Y.length nc] 25 (0, 0)) := by rw [← hV]; exact HXX.out
  clear hV HXX
  have HBX := Lib.hid hbx
  have hov := HO.out.grow gV
  have hzV := gV.size
  have c := overBooks_any (.slice ba S.books.length bc) S.books.length base _ V hov.books (by omega) (by omega)
  obtain ⟨⟨p0, p1, p2, p3, p4⟩, hpz⟩ := n5 hbx
  have HOV := Lib.hid hov
  have HBL := Lib.hid (show Below base w V from gV.mono hb)
  clear hbx hov gV
  go_wp2_with fail
  refine c.mono ?_
  rintro e w1 ⟨rfl, g1⟩
  have hk1 := HOV.out.books.keeps g1
  have HS1 := Lib.hid (OvS.start HOV.out hk1)
  have HB1 := Lib.hid (hk1 _ _ _ _ (by decide) HBX.out)
  have HL1 := Lib.hid (Below.grown HBL.out g1 (by omega) (fun k hk => (HOV.out.books.blk hk).1))
  have hz1 := g1.size
  clear c p0 p1 p2 p3 p4 hpz g1 hk1
  go_wp2_with fail
  go_loopw [2] (fun v2 wx => ∃ (i : Nat) (Z : List NV), v2 = .int .i64 i ∧ i ≤ Y.length ∧ Z.length = Y.length ∧ (∀ (j : Nat) y, i ≤ j → Z[j]? = some y → y.n.tags.length ≤ 1000000 ∧ y.n.sheets.length ≤ 1000000) ∧ OvS base (.slice na Y.length nc) Z i i wx ∧ Below base w wx ∧ base ≤ wx.heap.size ∧ wx.heap[w.heap.size]? = some (.cells #[.int .i64 S.nb, .int .i64 S.nn, .int .i64 S.ns, .slice ba S.books.length bc, .slice na Y.length nc] 25 (0, 0))) (fun v2 _ => Y.length - (intOf v2).toNat)
  case atStart => exact ⟨0, Y, rfl, by omega, rfl, fun j y _ hy => HLN.out y (List.mem_of_getElem? hy), HS1.out, HL1.out, by omega, HB1.out⟩
  case round =>
    obtain ⟨i, Z, rfl, hi, hZl, hZn, hs, hbel, hbz, hbox⟩ := hrel
    have HS := Lib.hid hs
    have HBE := Lib.hid hbel
    have HBO := Lib.hid hbox
    have HZN := Lib.hid hZn
    have HZL := Lib.hid hZl
    obtain ⟨⟨p0, p1, p2, p3, p4⟩, hpz⟩ := n5 hbox
    clear hs hbel hbox hZn HS1 HL1 HB1
    by_cases hlt : i < Y.length
    · have hlt' : (i : Int) < Y.length := by omega
      obtain ⟨y, hy, -⟩ := lt_get (l := Z) (i := i) (by omega)
      have HY := Lib.hid hy
      obtain ⟨hz1', hz2'⟩ := HZN.out i y (Nat.le_refl _) hy
      have hrt := HS.out.tags i y (Nat.le_refl _) hy
      have hrs := HS.out.sheets i y (Nat.le_refl _) hy
      obtain ⟨ta, tc, et, -⟩ := hrt.slice
      obtain ⟨sa, sc, es, -⟩ := hrs.slice
      have key : ∀ (p : Nat) u, (noteC y)[p]? = some u → ∃ b c, (Value.slice na Y.length nc) = .slice (some ⟨b, 0, none⟩) Z.length c ∧ wr.cell? ⟨b, i * 5 + p, none⟩ = some u ∧ wr.frozen? ⟨b, i * 5 + p, none⟩ = false ∧ b < wr.heap.size ∧ blkOf (Value.slice na Y.length nc) = some b := fun p u hu => HS.out.notes.cell (by rw [flat_get noteC (fun _ => rfl) Z i p y hy (by have := (List.getElem?_eq_some_iff.1 hu).1; simpa using this)]; exact hu)
      obtain ⟨b, c', e1, k3, -, kz, hbk⟩ := key 3 _ rfl
      injection e1 with e1 e2 e3
      subst e1
      have HE := Lib.hid (show (Value.slice (some ⟨b, 0, none⟩) Y.length nc) = .slice (some ⟨b, 0, none⟩) Z.length nc by rw [hZl])
      rw [et] at k3
      have HET := Lib.hid et
      have HES := Lib.hid es
      have HBK := Lib.hid hbk
      have c := overTexts_any y.tv y.n.tags.length base _ wr hrt (by omega) hbz
      rw [et] at c
      have HRT := Lib.hid hrt
      clear hy hrt hrs key et es e2 e3 hbk hZl
      go_wp2_with fail
      refine c.mono ?_
      rintro e w2 ⟨rfl, g2⟩
      have hg2 : wr.grownBy w2 (blkOf y.tv) := by rw [HET.out]; exact g2
      have hs2 := HS.out.afterT HY.out hg2
      have hk2 := HRT.out.keeps hg2
      have HBO2 := Lib.hid (hk2 _ _ _ _ (by decide) HBO.out)
      have HBE2 := Lib.hid (Below.grown HBE.out hg2 hbz (fun k hk => (HRT.out.blk hk).1))
      have hz2 := g2.size
      have HS2 := Lib.hid hs2
      have hrs := hs2.sheets i y (Nat.le_refl _) HY.out
      have key : ∀ (p : Nat) u, (noteC y)[p]? = some u → w2.cell? ⟨b, i * 5 + p, none⟩ = some u ∧ b < w2.heap.size := fun p u hu => by
        obtain ⟨b', c', e1, h1, -, h3, -⟩ := hs2.notes.cell (j := i * 5 + p) (u := u) (by rw [flat_get noteC (fun _ => rfl) Z i p y HY.out (by have := (List.getElem?_eq_some_iff.1 hu).1; simpa using this)]; exact hu)
        injection e1 with e1
        injection e1 with e1
        injection e1 with e1
        subst e1
        exact ⟨h1, h3⟩
      obtain ⟨k4, kz2⟩ := key 4 _ rfl
      rw [HES.out] at k4
      have c2 := overInts_any y.sv y.n.sheets.length base _ w2 hrs (by omega) (by omega)
      rw [HES.out] at c2
      have HRS := Lib.hid hrs
      clear c g2 hg2 hs2 hk2 hrs key k3 kz p0 p1 p2 p3 p4 hpz
      obtain ⟨⟨p0, p1, p2, p3, p4⟩, hpz⟩ := n5 HBO2.out
      go_wp2_with fail
      refine c2.mono ?_
      rintro e w3 ⟨rfl, g3⟩
      have hg3 : w2.grownBy w3 (blkOf y.sv) := by rw [HES.out]; exact g3
      have hs3 := HS2.out.afterI HY.out hg3
      have hk3 := HRS.out.keeps hg3
      have HBO3 := Lib.hid (hk3 _ _ _ _ (by decide) HBO2.out)
      have HBE3 := Lib.hid (Below.grown HBE2.out hg3 (by omega) (fun k hk => (HRS.out.blk hk).1))
      have hz3 := g3.size
      obtain ⟨hs4, t4⟩ := hs3.put HY.out HE.out
      obtain ⟨hbase, cur, hcur⟩ := hs3.notes.blk HBK.out
      have hcf : ∀ (p : Nat) u, (noteC y)[p]? = some u → w3.cell? ⟨b, i * 5 + p, none⟩ = some u ∧ w3.frozen? ⟨b, i * 5 + p, none⟩ = false ∧ b < w3.heap.size := fun p u hu => by
        obtain ⟨b', c', e1, h1, h2, h3, -⟩ := hs3.notes.cell (j := i * 5 + p) (u := u) (by rw [flat_get noteC (fun _ => rfl) Z i p y HY.out (by have := (List.getElem?_eq_some_iff.1 hu).1; simpa using this)]; exact hu)
        injection e1 with e1
        injection e1 with e1
        injection e1 with e1
        subst e1
        exact ⟨h1, h2, h3⟩
      have y0 : w3.cell? ⟨b, i * 5, none⟩ = some (.int .i64 y.n.id) := (hcf 0 _ rfl).1
      have y0f : w3.frozen? ⟨b, i * 5, none⟩ = false := (hcf 0 _ rfl).2.1
      obtain ⟨y1, y1f, -⟩ := hcf 1 _ rfl
      obtain ⟨y2, y2f, -⟩ := hcf 2 _ rfl
      obtain ⟨y3, y3f, -⟩ := hcf 3 _ rfl
      obtain ⟨y4, y4f, yz⟩ := hcf 4 _ rfl
      have HS4 := Lib.hid hs4
      have HBE4 := Lib.hid (below_turned HBE3.out t4 hbase (by omega))
      have HBO4 := Lib.hid (kept_of_turned hcur t4 _ _ _ _ (by decide) HBO3.out)
      have hz4 := t4.size
      have HZ4 := Lib.hid hz4
      clear c2 g3 hg3 hs3 hk3 hs4 t4 hcf k4 kz2 hcur p0 p1 p2 p3 p4 hpz hz4
      obtain ⟨⟨p0, p1, p2, p3, p4⟩, hpz⟩ := n5 HBO3.out
      unfold put5w at HS4 HBE4 HBO4 HZ4
      go_wp2_with fail
      go_roundw
      case rel => exact ⟨i + 1, Z.set i zN, by go_num, by omega, by rw [List.length_set]; exact HZL.out, fun j z hj hz => by
        rw [List.getElem?_set_ne (by omega)] at hz
        exact HZN.out j z (by omega) hz, HS4.out, HBE4.out, by have := HZ4.out; omega, HBO4.out⟩
      case measure => simp [intOf]; omega
    · have hlt' : ¬ (i : Int) < Y.length := by omega
      go_wp2_with fail
      go_end0
      exact ⟨rfl, HBE.out⟩
end Go.Proofs.YtnajccljdjllgaaGreatDoor
set_option linter.unusedVariables false
set_option linter.unusedSimpArgs false
namespace Go.Proofs.YtnajccljdjllgaaGreatDoor
open Go.RowKit Go.Lib
set_option maxRecDepth 100000 in
set_option maxHeartbeats 1000000 in
theorem overItems_any (v : Value) (n base : Nat) (xs : List Value) (w : World) (h : RowO base 63 2 v n xs w) (hn : n ≤ 1000000000) (hb : base ≤ w.heap.size) :
    Calls Tryz.prog 21 #[v] w fun e w' => e = .returned (.tuple #[]) ∧ w.grownBy w' (blkOf v) := by
  obtain ⟨i0, hi0, hz0, hz1, hz2⟩ := info_parts info_item
  obtain ⟨a, c, rfl, hc⟩ := h.slice
  have HO := Lib.hid h
  clear h
  go_enter Tryz.func21, Tryz.ntmps21
  go_wp2_with fail
  go_loopw [2] (fun v2 wx => ∃ j : Nat, v2 = .int .i64 j ∧ j ≤ n ∧ w.grownBy wx (blkOf (.slice a n c)) ∧ ∃ ys, RowO base 63 2 (.slice a n c) n ys wx) (fun v2 _ => n - (intOf v2).toNat)
  case atStart => exact ⟨0, rfl, by omega, World.grownBy.refl _ _, xs, HO.out⟩
  case round =>
    obtain ⟨j, rfl, hj, hg, ys, hr⟩ := hrel
    have HG := Lib.hid hg
    have HR := Lib.hid hr
    have hsz := hg.size
    clear hg HO
    by_cases hlt : j < n
    · have hlt' : (j : Int) < n := by omega
      obtain ⟨u, hu⟩ : ∃ u, ys[j * 2]? = some u := ⟨_, List.getElem?_eq_getElem (by have := hr.len; omega)⟩
      obtain ⟨u', hu'⟩ : ∃ u, ys[j * 2 + 1]? = some u := ⟨_, List.getElem?_eq_getElem (by have := hr.len; omega)⟩
      obtain ⟨b, c', e, q, qf, qz, hbk⟩ := hr.cell hu
      obtain ⟨b1, c1', e1', q', qf', qz', hbk'⟩ := hr.cell hu'
      injection e with e1 e2 e3
      subst e1
      injection e1' with e4
      injection e4 with e4
      injection e4 with e4
      subst e4
      obtain ⟨b2, c2, e5, hb2, hr2, ht2, -⟩ := hr.stored hu (.int .i64 (-9))
      rw [hbk] at hb2
      obtain rfl := Option.some.inj hb2
      obtain ⟨b3, c3, e6, hb3, hr3, ht3, -⟩ := hr2.stored (show (ys.set (j * 2) (.int .i64 (-9)))[j * 2 + 1]? = some u' by rw [List.getElem?_set_ne (by omega)]; exact hu') (.string ⟨#[]⟩)
      rw [hbk] at hb3
      obtain rfl := Option.some.inj hb3
      have HR2 := Lib.hid hr3
      have HG2 := Lib.hid (World.grownBy.trans HG.out (show wr.grownBy _ (blkOf (.slice (some ⟨b, 0, none⟩) n c)) by rw [hbk]; exact grown_turned (ht2.trans ht3)))
      clear hr hu hu' hbk hbk' e2 e3 hr2 ht2 e5 hb2 hr3 ht3 e6 hb3
      go_wp2_with fail
      go_roundw
      case rel => exact ⟨j + 1, by go_num, by omega, HG2.out, _, HR2.out⟩
      case measure => simp [intOf]; omega
    · have hlt' : ¬ (j : Int) < n := by omega
      clear hr
      go_wp2_with (at_builtin; refine app_R (base := base) (by rfl) _ _ 36 (by rfl) 63 i0 _ 2 24 Tryz.underlying36 hi0 hz0 hz1 hz2 (by rfl) (by decide) (.slice a n c) n ys (by rfl) wr HR.out (Nat.le_trans hb hsz) [.int .i64 (-9), .string ⟨#[]⟩] rfl ?_ (by rfl) ?_ (by decide) ?_; (intro u hu; simp at hu; rcases hu with rfl | rfl <;> rfl); omega; intro v' w4 ra; have HRA := Lib.hid ra.2.1; clear ra)
      go_end0
      exact ⟨rfl, World.grownBy.trans HG.out HRA.out⟩
end Go.Proofs.YtnajccljdjllgaaGreatDoor
set_option linter.unusedVariables false
set_option linter.unusedSimpArgs false
namespace Go.Proofs.YtnajccljdjllgaaGreatDoor
open Go.RowKit Go.Lib
theorem one_item {w : World} : ∀ a cs, ItemR w a cs → ∀ u ∈ cs, u.oneCell' = true := fun a cs h u hu => by
  unfold ItemR at h
  subst h
  exact itemC_one a u hu
theorem item_cells {w : World} : ∀ (l : List Item) (xs : List Value), xs.length = l.length * 2 → (∀ (i : Nat) a, l[i]? = some a → ItemR w a ((xs.drop (i * 2)).take 2)) → xs = l.flatMap itemC
  | [], xs, h, _ => List.eq_nil_of_length_eq_zero (by simpa using h)
  | a :: l, xs, h, hR => by
    have h0 : xs.take 2 = itemC a := by have := hR 0 a rfl; unfold ItemR at this; simpa using this
    have ih := item_cells (w := w) l (xs.drop 2) (by rw [List.length_drop, h, List.length_cons]; omega) (fun i b hb => by rw [chunk_split]; exact hR (i + 1) b (by simpa using hb))
    rw [List.flatMap_cons, ← h0, ← ih, List.take_append_drop]
theorem itemsRd {base : Nat} {W w' : World} {v v' : Value} {n : Nat} {l0 l : List Item} (h : AppRd ItemR base 63 2 W v n (l0.flatMap itemC) l v' w') (hn : n = l0.length) : RowO base 63 2 v' (n + l.length) ((l0 ++ l).flatMap itemC) w' ∧ W.grownBy w' (blkOf v) := by
  obtain ⟨news, h1, h2, -, h4, h5⟩ := h
  have := item_cells (w := W) l news h4 h5
  subst this hn
  refine ⟨?_, h2⟩
  rw [List.flatMap_append]
  exact h1
theorem reads_sub {α : Type} {R : World → α → List Value → Prop} {kk : Nat} {W : World} {tb ad : Option Addr} {n c c' k m : Nat} {l : List α} (h : Reads R kk W (.slice tb n c) l) (hk : k ≤ n) (hm : m = n - k) (had : k < n → ad = tb.map fun x => x.add (k * kk)) (hc : m ≤ c') : Reads R kk W (.slice ad m c') (l.drop k) := by
  obtain ⟨a', cc, e, hcc, hr⟩ := h
  injection e with e1 e2 e3
  subst e1 e2 e3 hm
  refine ⟨ad, c', by rw [List.length_drop], by rw [List.length_drop]; exact hc, fun hp => ?_⟩
  rw [List.length_drop] at hp ⊢
  obtain ⟨b, off, eb, hb, hcs⟩ := hr (by omega)
  subst eb
  refine ⟨b, off + k * kk, (had (by omega)).trans (by simp [Addr.add]), hb, fun i hi => ?_⟩
  obtain ⟨cs, h1, h2, h3⟩ := hcs (k + i) (by omega)
  refine ⟨cs, h1, fun x hx => h2 x (by rw [List.getElem?_drop] at hx; exact hx), fun q v hq => ?_⟩
  have := h3 q v hq
  rw [show off + k * kk + i * kk + q = off + (k + i) * kk + q by rw [Nat.add_mul]; omega]
  exact this
theorem Items.growI {w W : World} {v : Value} {l : List Item} (h : Items w v l) (g : Grow w W) : Items W v l := Reads.grow (R := ItemR) (w := w) (W := W) (fun _ _ h => h) h g
theorem drop_getI {α : Type} {l : List α} {j : Nat} {y : α} (hy : l[j]? = some y) : l.drop j = y :: l.drop (j + 1) := by
  obtain ⟨h, e⟩ := List.getElem?_eq_some_iff.1 hy
  rw [List.drop_eq_getElem_cons h, e]
theorem insI_stop {l : List Item} {x y : Item} {j : Nat} (hy : l[j]? = some y) (hp : ltS y.name x.name = false) : insI x (l.drop j) = x :: l.drop j := by
  rw [drop_getI hy, insI, if_neg (by rw [hp]; simp)]
theorem insI_next {l : List Item} {x y : Item} {j : Nat} (hy : l[j]? = some y) (hp : ltS y.name x.name = true) : l.take (j + 1) ++ insI x (l.drop (j + 1)) = l.take j ++ insI x (l.drop j) := by
  rw [drop_getI hy, insI, if_pos hp, List.take_add_one, hy]; simp
set_option maxRecDepth 100000 in
set_option maxHeartbeats 8000000 in
theorem refInto_any (v : Value) (l : List Item) (x : Item) (w : World) (h : Items w v l) (hz : l.length ≤ 1000000) :
    Calls Tryz.prog 53 #[v, .agg #[.int .i64 x.id, .string x.name]] w fun e w' => ∃ v', e = .returned v' ∧ RowO w.heap.size 63 2 v' (insI x l).length ((insI x l).flatMap itemC) w' ∧ Grow w w' := by
  obtain ⟨it, hit, itz0, itz1, itz2⟩ := info_parts info_item
  obtain ⟨tb, c, rfl⟩ := h.mk
  have htc := h.len.2
  have HH := Lib.hid h
  clear h
  go_enter Tryz.func53, Tryz.ntmps53
  go_upto_region 1 with (fail)
  generalize hV : w.alloc (.cells #[.int .i64 x.id, .string x.name] 63) = V
  have gV : Grow w V := by rw [← hV]; exact (Grow.refl w).alloc _
  have hbx : V.heap[w.heap.size]? = some (.cells #[.int .i64 x.id, .string x.name] 63 (0, 0)) := by rw [← hV]; exact heap_alloc_new w _
  have HBX := Lib.hid hbx
  have HGV := Lib.hid gV
  clear hV hbx gV
  go_upto_block 0 with (fail)
  go_cut [5] (fun v5 wx => Grow V wx ∧ ∃ k : Nat, v5 = .int .i64 k ∧ k ≤ l.length ∧ l.take k ++ x :: l.drop k = insI x l)
  case first =>
    go_wp2_with fail
    go_loopw [5] (fun v5 wx => ∃ j : Nat, v5 = .int .i64 j ∧ j ≤ l.length ∧ l.take j ++ insI x (l.drop j) = insI x l ∧ Grow V wx) (fun v5 _ => l.length - (intOf v5).toNat)
    case atStart => exact ⟨0, rfl, by omega, rfl, Grow.refl _⟩
    case round =>
      obtain ⟨j, rfl, hj, hall, hg⟩ := hrel
      have HA := Lib.hid hall
      have HG := Lib.hid hg
      clear hall
      have hb1 := hg.blk HBX.out
      have b0 : wr.cell? ⟨w.heap.size, 0, none⟩ = some (.int .i64 x.id) := (cell_of_row wr _ 0 _ _ _ hb1).trans rfl
      have b1 : wr.cell? ⟨w.heap.size, 1, none⟩ = some (.string x.name) := (cell_of_row wr _ 1 _ _ _ hb1).trans rfl
      have bz : w.heap.size < wr.heap.size := (Array.getElem?_eq_some_iff.1 hb1).1
      clear hb1
      by_cases hlt : j < l.length
      · have hlt' : (j : Int) < l.length := by omega
        obtain ⟨y, hy, -⟩ := lt_get hlt
        obtain ⟨bb, off, hbe, hbb, m0, m1⟩ := Items.at (HH.out.growI (HGV.out.trans hg)) hy
        have HYY := Lib.hid hy
        subst hbe
        clear hy hg
        cases hp : ltS y.name x.name
        · have HP := Lib.hid hp
          have hpl : Op.bytesLess y.name.toList x.name.toList = false := hp
          go_upto_region 2 with (fail)
          refine wp_region_gr (by kernel_rfl) (by kernel_rfl) ?_
          repeat (first | (go_big_quiet_step (fail)) | rw [hpl])
          refine wpQuiet_nil ?_
          rintro _ ⟨yy, rfl⟩
          have gy := yy.g
          generalize yy.W = wy at *
          go_wp2_with fail
          go_meet
          exact ⟨HG.out.trans gy, j, rfl, hj, by rw [← HA.out]; congr 1; exact (insI_stop HYY.out HP.out).symm⟩
        · have HP := Lib.hid hp
          have hpl : Op.bytesLess y.name.toList x.name.toList = true := hp
          go_upto_region 2 with (fail)
          refine wp_region_gr (by kernel_rfl) (by kernel_rfl) ?_
          repeat (first | (go_big_quiet_step (fail)) | rw [hpl])
          refine wpQuiet_nil ?_
          rintro _ ⟨yy, rfl⟩
          have gy := yy.g
          generalize yy.W = wy at *
          go_wp2_with fail
          go_roundw
          case rel => exact ⟨j + 1, by go_num, by omega, by rw [← HA.out]; exact insI_next HYY.out HP.out, HG.out.trans gy⟩
          case measure => simp [intOf]; omega
      · have hlt' : ¬ (j : Int) < l.length := by omega
        clear hg
        go_upto_region 2 with (fail)
        refine wp_region_gr (by kernel_rfl) (by kernel_rfl) ?_
        repeat (go_big_quiet_step (fail))
        refine wpQuiet_nil ?_
        rintro _ ⟨yy, rfl⟩
        have gy := yy.g
        generalize yy.W = wy at *
        go_wp2_with fail
        go_meet
        exact ⟨HG.out.trans gy, j, rfl, hj, by rw [← HA.out, List.drop_of_length_le (by omega)]; rfl⟩
  case rest =>
    obtain ⟨hg, k, rfl, hk, hins⟩ := hcut
    generalize wc = wr at *
    have HINS := Lib.hid hins
    have HGW := Lib.hid (HGV.out.trans hg)
    have hlk : (l.take k).length = k := by rw [List.length_take]; omega
    have HIW := Lib.hid (HH.out.growI (HGV.out.trans hg))
    have HT1 := Lib.hid (Reads.take (R := ItemR) (Items.growI HIW.out (Grow.refl wr).drew) (i := k) hk)
    have HT1B := Lib.hid (Reads.take (R := ItemR) (Items.growI HIW.out ((Grow.refl wr).alloc (.cells #[.int .i64 x.id, .string x.name] 63)).drew) (i := k) hk)
    have HSZB := Lib.hid (show wr.heap.size ≤ (wr.alloc (.cells #[.int .i64 x.id, .string x.name] 63)).drew.heap.size from ((Grow.refl wr).alloc _).drew.size)
    have HC0 := Lib.hid (Items.growI (show Items (wr.alloc (.cells #[.int .i64 x.id, .string x.name] 63)) (.slice (some ⟨wr.heap.size, 0, none⟩) 1 1) [x] from lit_reads itemC (fun _ => rfl) wr [x] 63 (fun x => rfl)) (Grow.refl _).drew)
    have key : ∀ W, Grow wr W → W.cell? ⟨w.heap.size, 0, none⟩ = some (.int .i64 x.id) ∧ W.cell? ⟨w.heap.size, 1, none⟩ = some (.string x.name) := fun W g => by
      have hb1 := (hg.trans g).blk HBX.out
      exact ⟨(cell_of_row W _ 0 _ _ _ hb1).trans rfl, (cell_of_row W _ 1 _ _ _ hb1).trans rfl⟩
    have HBK := Lib.hid key
    have x0 := key _ (Grow.refl wr).drew
    have hkc : (k : Int) ≤ c := by omega
    have hkx : (k : Int) ≤ l.length := by omega
    have HLK := Lib.hid hlk
    have HKK := Lib.hid hk
    have HTC := Lib.hid htc
    have hw0 : w.heap.size ≤ wr.heap.size := HGW.out.size
    clear hins hlk key hg
    go_wp2_with fail
    rcases Classical.em (c = k) with rfl | hci
    · have HT3 := Lib.hid (show ∀ W, Grow wr W → Items W (.slice tb 0 0) (l.drop c) from fun W g => reads_sub (R := ItemR) (Items.growI HIW.out g) HKK.out (by have := HKK.out; have := HTC.out; omega) (fun h => absurd h (by have := HTC.out; omega)) (by omega))
      go_region_held3 (fun W => W.cell? ⟨w.heap.size, 0, none⟩ = some (.int .i64 x.id) ∧ W.cell? ⟨w.heap.size, 1, none⟩ = some (.string x.name)) (first | with_reducible exact x3 | with_reducible exact x2 | with_reducible exact x1 | with_reducible exact x0 | exact HBK.out _ ((Grow.refl wr).alloc _).drew | exact HBK.out _ (HG1.out.alloc _) | go_keep)
          (first
            | (refine step_Rd (R := ItemR) (l := l.take c) (base := wr.heap.size) (by rfl) _ _ 36 (by rfl) 63 it _ 2 24 Tryz.underlying36 hit itz0 itz1 itz2 (by rfl) (by decide) (.slice none 0 0) (.slice tb c c) 0 [] (by rfl) wr.drew .nil (Grow.refl wr).drew.size (by rfl) HT1.out one_item ?_ (by decide) ?_; (rw [Nat.zero_add, HLK.out]; have := HKK.out; omega); intro v1 w5 ra; obtain ⟨rb, gb⟩ := itemsRd (l0 := []) ra rfl; rw [HLK.out, Nat.zero_add, List.nil_append] at rb; obtain ⟨va1, vc1, e3, -⟩ := rb.slice; subst e3; have HR1 := Lib.hid rb; have HG1 := Lib.hid (Grow.trans (Grow.refl wr).drew (grown_nil rfl gb)); have x1 := HBK.out _ HG1.out; clear ra rb gb)
            | (refine step_Rd (R := ItemR) (l := l.take c) (base := wr.heap.size) (by rfl) _ _ 36 (by rfl) 63 it _ 2 24 Tryz.underlying36 hit itz0 itz1 itz2 (by rfl) (by decide) (.slice none 0 0) (.slice tb c c) 0 [] (by rfl) _ .nil HSZB.out (by rfl) HT1B.out one_item ?_ (by decide) ?_; (rw [Nat.zero_add, HLK.out]; have := HKK.out; omega); intro v1 w5 ra; obtain ⟨rb, gb⟩ := itemsRd (l0 := []) ra rfl; rw [HLK.out, Nat.zero_add, List.nil_append] at rb; obtain ⟨va1, vc1, e3, -⟩ := rb.slice; subst e3; have HR1 := Lib.hid rb; have HG1 := Lib.hid (Grow.trans ((Grow.refl wr).alloc _).drew (grown_nil rfl gb)); have HC := Lib.hid (Items.growI HC0.out (grown_nil rfl gb)); have x1 := HBK.out _ HG1.out; clear ra rb gb)
            | (refine step_R (base := wr.heap.size) (by rfl) _ _ 36 (by rfl) 63 it _ 2 24 Tryz.underlying36 hit itz0 itz1 itz2 (by rfl) (by decide) (.slice va1 c vc1) c ((l.take c).flatMap itemC) (by rfl) w5 HR1.out HG1.out.size [.int .i64 x.id, .string x.name] rfl (itemC_one x) (by rfl) ?_ (by decide) ?_; (have := HKK.out; omega); intro v2 w6 ra; obtain ⟨va2, vc2, e3, -⟩ := ra.1.slice; subst e3; have HR2 := Lib.hid ra.1; have HG2 := Lib.hid (grown_grow HG1.out HR1.out ra.2.1); have x2 := HBK.out _ HG2.out; clear ra)
            | (refine step_Rd (R := ItemR) (l := [x]) (base := wr.heap.size) (by rfl) _ _ 36 (by rfl) 63 it _ 2 24 Tryz.underlying36 hit itz0 itz1 itz2 (by rfl) (by decide) (.slice va1 c vc1) (.slice (some ⟨wr.heap.size, 0, none⟩) 1 1) c ((l.take c).flatMap itemC) (by rfl) w5 HR1.out HG1.out.size (by rfl) HC.out one_item ?_ (by decide) ?_; (have := HKK.out; simp; omega); intro v2 w6 ra; obtain ⟨rb, gb⟩ := itemsRd (l0 := l.take c) ra HLK.out.symm; rw [List.flatMap_append, List.flatMap_cons, List.flatMap_nil, List.append_nil] at rb; obtain ⟨va2, vc2, e3, -⟩ := rb.slice; subst e3; have HR2 := Lib.hid (show RowO wr.heap.size 63 2 (.slice va2 (c + 1) vc2) (c + 1) ((l.take c).flatMap itemC ++ [.int .i64 x.id, .string x.name]) w6 from rb); have HG2 := Lib.hid (grown_grow HG1.out HR1.out gb); have x2 := HBK.out _ HG2.out; clear ra rb gb)
            | (refine step_Rd (R := ItemR) (l := l.drop c) (base := wr.heap.size) (by rfl) _ _ 36 (by rfl) 63 it _ 2 24 Tryz.underlying36 hit itz0 itz1 itz2 (by rfl) (by decide) (.slice va2 (c + 1) vc2) (.slice tb 0 0) (c + 1) ((l.take c).flatMap itemC ++ [.int .i64 x.id, .string x.name]) (by rfl) w6 HR2.out HG2.out.size (by rfl) (HT3.out _ HG2.out) one_item ?_ (by decide) ?_; (rw [List.length_drop]; have := HKK.out; omega); intro v3 w7 ra; obtain ⟨rb, gb⟩ := itemsRd (l0 := l.take c ++ [x]) (by rw [List.flatMap_append, List.flatMap_cons, List.flatMap_nil, List.append_nil]; exact ra) (by rw [List.length_append, HLK.out] <;> rfl); have hg7 := grown_grow HG2.out HR2.out gb; have hlen : c + 1 + (l.drop c).length = (insI x l).length := (by rw [← HINS.out, List.length_append, List.length_cons, HLK.out] <;> omega); rw [hlen, List.append_assoc, List.singleton_append, HINS.out] at rb; have HR3 := Lib.hid rb; have HG3 := Lib.hid hg7; have x3 := HBK.out _ hg7; clear ra rb gb hg7 hlen))
      all_goals
        go_wp2_with fail
        go_ret
        exact ⟨_, rfl, HR3.out.base_mono hw0, HGW.out.trans HG3.out⟩
    · have HT3 := Lib.hid (show ∀ W, Grow wr W → Items W (.slice (Option.map (fun x => x.add (k * 2)) tb) (l.length - k) (c - k)) (l.drop k) from fun W g => reads_sub (R := ItemR) (Items.growI HIW.out g) HKK.out rfl (fun _ => rfl) (by have := HKK.out; have := HTC.out; omega))
      go_region_held3 (fun W => W.cell? ⟨w.heap.size, 0, none⟩ = some (.int .i64 x.id) ∧ W.cell? ⟨w.heap.size, 1, none⟩ = some (.string x.name)) (first | with_reducible exact x3 | with_reducible exact x2 | with_reducible exact x1 | with_reducible exact x0 | exact HBK.out _ ((Grow.refl wr).alloc _).drew | exact HBK.out _ (HG1.out.alloc _) | go_keep)
          (first
            | (refine step_Rd (R := ItemR) (l := l.take k) (base := wr.heap.size) (by rfl) _ _ 36 (by rfl) 63 it _ 2 24 Tryz.underlying36 hit itz0 itz1 itz2 (by rfl) (by decide) (.slice none 0 0) (.slice tb k c) 0 [] (by rfl) wr.drew .nil (Grow.refl wr).drew.size (by rfl) HT1.out one_item ?_ (by decide) ?_; (rw [Nat.zero_add, HLK.out]; have := HKK.out; omega); intro v1 w5 ra; obtain ⟨rb, gb⟩ := itemsRd (l0 := []) ra rfl; rw [HLK.out, Nat.zero_add, List.nil_append] at rb; obtain ⟨va1, vc1, e3, -⟩ := rb.slice; subst e3; have HR1 := Lib.hid rb; have HG1 := Lib.hid (Grow.trans (Grow.refl wr).drew (grown_nil rfl gb)); have x1 := HBK.out _ HG1.out; clear ra rb gb)
            | (refine step_Rd (R := ItemR) (l := l.take k) (base := wr.heap.size) (by rfl) _ _ 36 (by rfl) 63 it _ 2 24 Tryz.underlying36 hit itz0 itz1 itz2 (by rfl) (by decide) (.slice none 0 0) (.slice tb k c) 0 [] (by rfl) _ .nil HSZB.out (by rfl) HT1B.out one_item ?_ (by decide) ?_; (rw [Nat.zero_add, HLK.out]; have := HKK.out; omega); intro v1 w5 ra; obtain ⟨rb, gb⟩ := itemsRd (l0 := []) ra rfl; rw [HLK.out, Nat.zero_add, List.nil_append] at rb; obtain ⟨va1, vc1, e3, -⟩ := rb.slice; subst e3; have HR1 := Lib.hid rb; have HG1 := Lib.hid (Grow.trans ((Grow.refl wr).alloc _).drew (grown_nil rfl gb)); have HC := Lib.hid (Items.growI HC0.out (grown_nil rfl gb)); have x1 := HBK.out _ HG1.out; clear ra rb gb)
            | (refine step_R (base := wr.heap.size) (by rfl) _ _ 36 (by rfl) 63 it _ 2 24 Tryz.underlying36 hit itz0 itz1 itz2 (by rfl) (by decide) (.slice va1 k vc1) k ((l.take k).flatMap itemC) (by rfl) w5 HR1.out HG1.out.size [.int .i64 x.id, .string x.name] rfl (itemC_one x) (by rfl) ?_ (by decide) ?_; (have := HKK.out; omega); intro v2 w6 ra; obtain ⟨va2, vc2, e3, -⟩ := ra.1.slice; subst e3; have HR2 := Lib.hid ra.1; have HG2 := Lib.hid (grown_grow HG1.out HR1.out ra.2.1); have x2 := HBK.out _ HG2.out; clear ra)
            | (refine step_Rd (R := ItemR) (l := [x]) (base := wr.heap.size) (by rfl) _ _ 36 (by rfl) 63 it _ 2 24 Tryz.underlying36 hit itz0 itz1 itz2 (by rfl) (by decide) (.slice va1 k vc1) (.slice (some ⟨wr.heap.size, 0, none⟩) 1 1) k ((l.take k).flatMap itemC) (by rfl) w5 HR1.out HG1.out.size (by rfl) HC.out one_item ?_ (by decide) ?_; (have := HKK.out; simp; omega); intro v2 w6 ra; obtain ⟨rb, gb⟩ := itemsRd (l0 := l.take k) ra HLK.out.symm; rw [List.flatMap_append, List.flatMap_cons, List.flatMap_nil, List.append_nil] at rb; obtain ⟨va2, vc2, e3, -⟩ := rb.slice; subst e3; have HR2 := Lib.hid (show RowO wr.heap.size 63 2 (.slice va2 (k + 1) vc2) (k + 1) ((l.take k).flatMap itemC ++ [.int .i64 x.id, .string x.name]) w6 from rb); have HG2 := Lib.hid (grown_grow HG1.out HR1.out gb); have x2 := HBK.out _ HG2.out; clear ra rb gb)
            | (refine step_Rd (R := ItemR) (l := l.drop k) (base := wr.heap.size) (by rfl) _ _ 36 (by rfl) 63 it _ 2 24 Tryz.underlying36 hit itz0 itz1 itz2 (by rfl) (by decide) (.slice va2 (k + 1) vc2) (.slice (Option.map (fun x => x.add (k * 2)) tb) (l.length - k) (c - k)) (k + 1) ((l.take k).flatMap itemC ++ [.int .i64 x.id, .string x.name]) (by rfl) w6 HR2.out HG2.out.size (by rfl) (HT3.out _ HG2.out) one_item ?_ (by decide) ?_; (rw [List.length_drop]; have := HKK.out; omega); intro v3 w7 ra; obtain ⟨rb, gb⟩ := itemsRd (l0 := l.take k ++ [x]) (by rw [List.flatMap_append, List.flatMap_cons, List.flatMap_nil, List.append_nil]; exact ra) (by rw [List.length_append, HLK.out] <;> rfl); have hg7 := grown_grow HG2.out HR2.out gb; have hlen : k + 1 + (l.drop k).length = (insI x l).length := (by rw [← HINS.out, List.length_append, List.length_cons, HLK.out] <;> omega); rw [hlen, List.append_assoc, List.singleton_append, HINS.out] at rb; have HR3 := Lib.hid rb; have HG3 := Lib.hid hg7; have x3 := HBK.out _ hg7; clear ra rb gb hg7 hlen))
      all_goals
        go_wp2_with fail
        go_ret
        exact ⟨_, rfl, HR3.out.base_mono hw0, HGW.out.trans HG3.out⟩
end Go.Proofs.YtnajccljdjllgaaGreatDoor
set_option linter.unusedVariables false
set_option linter.unusedSimpArgs false
namespace Go.Proofs.YtnajccljdjllgaaGreatDoor
open Go.RowKit Go.Lib
theorem sortI_next {l : List Item} {i : Nat} {x : Item} (hx : l[i]? = some x) : sortI (l.take (i + 1)) = insI x (sortI (l.take i)) := by
  unfold sortI; rw [List.take_add_one, hx, List.foldl_append]; rfl
theorem insI_len (x : Item) (l : List Item) : (insI x l).length = l.length + 1 := by rw [(insI_perm x l).length_eq]; rfl
set_option maxRecDepth 100000 in
set_option maxHeartbeats 4000000 in
theorem refLBooks_any (s : Shelf) (bv nv : Value) (w : World) (h : ShelfR w s bv nv) (hz : TameS s) :
    Calls Tryz.prog 18 #[shelfV s bv nv] w fun e w' => ∃ v, e = .returned v ∧ RetI (booksI s) w v w' := by
  have cM := fun W (g : Grow w W) => refMay_any s bv nv W (h.grow g) hz
  have hbl := hz.1.1
  obtain ⟨a1, c1, rfl⟩ := h.1.mk
  obtain ⟨a2, c2, rfl⟩ := h.2.mk
  have HH := Lib.hid h
  have HBX := Lib.hid (heap_alloc_new w (.cells #[.int .i64 s.nb, .int .i64 s.nn, .int .i64 s.ns, .slice a1 s.books.length c1, .slice a2 s.notes.length c2] 25))
  have CM := Lib.hid cM
  clear h hz cM
  unfold shelfV at *
  go_enter Tryz.func18, Tryz.ntmps18
  go_upto_region 1 with (fail)
  generalize hV : w.alloc (.cells #[.int .i64 s.nb, .int .i64 s.nn, .int .i64 s.ns, .slice a1 s.books.length c1, .slice a2 s.notes.length c2] 25) = V
  have gV : Grow w V := by rw [← hV]; exact (Grow.refl w).alloc _
  replace HBX : Hid (V.heap[w.heap.size]? = some (.cells #[.int .i64 s.nb, .int .i64 s.nn, .int .i64 s.ns, .slice a1 s.books.length c1, .slice a2 s.notes.length c2] 25 (0, 0))) := by rw [← hV]; exact HBX
  clear hV
  go_wp2_with fail
  go_loopw [3, 4] (fun v3 v4 wx => ∃ (i : Nat) (L : List Item) (o : Option Addr) (c : Nat), v3 = .slice o L.length c ∧ v4 = .int .i64 i ∧ i ≤ s.books.length ∧ (mayS s = false → i = 0) ∧ L = sortI ((itemsB s).take i) ∧ L.length = i ∧ RowO w.heap.size 63 2 (.slice o L.length c) L.length (L.flatMap itemC) wx ∧ Grow V wx) (fun _ v4 _ => s.books.length - (Go.RowKit.intOf v4).toNat)
  case atStart => exact ⟨0, [], none, 0, rfl, rfl, by omega, fun _ => rfl, by simp [sortI], rfl, RowO.nil, Grow.refl _⟩
  case round =>
    obtain ⟨i, L, o, c, rfl, rfl, hi, hi0, hL, hLl, hr, hg⟩ := hrel
    have HL := Lib.hid hL
    have HLL := Lib.hid hLl
    have HR := Lib.hid hr
    have HG := Lib.hid hg
    have HI0 := Lib.hid hi0
    have gwr := gV.trans hg
    have HGW := Lib.hid gwr
    obtain ⟨⟨p0, p1, p2, p3, p4⟩, hpz⟩ := n5 (hg.blk HBX.out)
    clear hL hi0 hg
    by_cases hlt : i < s.books.length
    · have hlt' : (i : Int) < s.books.length := by omega
      have cM1 := CM.out wr gwr
      cases hm : mayS s with
      | false =>
        have HM := Lib.hid hm
        rw [hm] at cM1
        have h0 := HI0.out hm
        subst h0
        clear hm hr hLl
        go_wp2_with fail
        refine cM1.mono ?_
        rintro e w1 ⟨rfl, g1⟩
        have HLE := Lib.hid (List.eq_nil_of_length_eq_zero HLL.out)
        have HRR := Lib.hid (HR.out.grow g1)
        have HG1 := Lib.hid (HGW.out.trans g1)
        clear cM1 p0 p1 p2 p3 p4 g1
        go_wp2_with fail
        go_ret
        refine ⟨_, rfl, HG1.out, ?_⟩
        rw [booksI, if_neg (by rw [HM.out]; simp)]
        have h9 := HRR.out
        rw [HLE.out] at h9
        rw [HLE.out]
        exact h9
      | true =>
        have HM := Lib.hid hm
        rw [hm] at cM1
        obtain ⟨x, hx, -⟩ := lt_get hlt
        have HX := Lib.hid hx
        clear hm hr hLl
        go_wp2_with fail
        refine cM1.mono ?_
        rintro e w1 ⟨rfl, g1⟩
        have gw1 := HGW.out.trans g1
        obtain ⟨b, off, rfl, hb, q0, q1⟩ := (Books.grow HH.out.1 gw1).at HX.out
        have HRR := Lib.hid (HR.out.grow g1)
        have HG1 := Lib.hid gw1
        have cI := fun W (g : Grow w1 W) => refInto_any (.slice o L.length c) L ⟨x.id, x.name⟩ W (Items.growI (row_items HRR.out) g) (by rw [HLL.out]; omega)
        have CI := Lib.hid cI
        have gz := gw1.size
        clear cM1 p0 p1 p2 p3 p4 hx cI
        obtain ⟨⟨p0, p1, p2, p3, p4⟩, hpz1⟩ := n5 ((HG.out.trans g1).blk HBX.out)
        have key : ∀ W, Grow w1 W → W.cell? ⟨w.heap.size, 3, none⟩ = some (.slice (some ⟨b, off, none⟩) s.books.length c1) ∧ W.cell? ⟨b, off + i * 2, none⟩ = some (.int .i64 x.id) ∧ W.cell? ⟨b, off + i * 2 + 1, none⟩ = some (.string x.name) := fun W g => ⟨(g.cells _ _ hpz1).trans p3, (g.cells _ _ hb).trans q0, (g.cells _ _ hb).trans q1⟩
        have s0 := key _ (Grow.refl w1).drew
        have KEY := Lib.hid key
        clear key
        go_wp2_with fail
        go_region_held3 (fun W => W.cell? ⟨w.heap.size, 3, none⟩ = some (.slice (some ⟨b, off, none⟩) s.books.length c1) ∧ W.cell? ⟨b, off + i * 2, none⟩ = some (.int .i64 x.id) ∧ W.cell? ⟨b, off + i * 2 + 1, none⟩ = some (.string x.name)) (first | with_reducible exact s1 | with_reducible exact s0 | go_keep)
          (first
            | (go_at_call 53; refine (CI.out _ (Grow.refl w1).drew).mono ?_; rintro e w3 ⟨v', rfl, hr3, g3⟩; have s1 := KEY.out _ ((Grow.refl w1).drew.trans g3); obtain ⟨va, vc, e9, -⟩ := hr3.slice; subst e9; have HR3 := Lib.hid hr3; have HG3 := Lib.hid ((Grow.refl w1).drew.trans g3); clear hr3 g3))
        have HB3 := Lib.hid (HR3.out.base_mono (base' := w.heap.size) (by simpa using gz))
        have HLN := Lib.hid (show (insI ⟨x.id, x.name⟩ L).length = i + 1 by rw [insI_len, HLL.out])
        clear p0 p1 p2 p3 p4 q0 q1
        go_wp2_with fail
        go_roundw
        case rel => exact ⟨i + 1, insI ⟨x.id, x.name⟩ L, va, vc, rfl, by go_num, by omega, fun h => (by first | (rw [HM.out] at h; cases h) | cases h), by rw [HL.out, sortI_next (x := ⟨x.id, x.name⟩) (by unfold itemsB; rw [List.getElem?_map, HX.out]; rfl)], HLN.out, HB3.out, (HG.out.trans g1).trans HG3.out⟩
        case measure => simp [Go.RowKit.intOf]; omega
    · have hlt' : ¬ (i : Int) < s.books.length := by omega
      have hLa : L = booksI s := by
        rw [HL.out, List.take_of_length_le (by unfold itemsB; rw [List.length_map]; omega), booksI]
        cases hm : mayS s with
        | true => rfl
        | false =>
          have := HI0.out hm
          have h0 : s.books = [] := List.eq_nil_of_length_eq_zero (by omega)
          unfold itemsB; rw [h0]; rfl
      have HLA := Lib.hid hLa
      clear hr hLa hLl
      go_wp2_with fail
      go_ret
      refine ⟨_, rfl, HGW.out, ?_⟩
      rw [← HLA.out]; exact HR.out
theorem filt_next {α : Type} {q : α → Bool} {l : List α} {j : Nat} {x : α} (hx : l[j]? = some x) : (l.take (j + 1)).filter q = (l.take j).filter q ++ (if q x then [x] else []) := by
  rw [List.take_add_one, hx, List.filter_append]; simp only [Option.toList]; rw [List.filter_cons]; split <;> rfl
theorem sortI_snoc (l : List Item) (x : Item) : insI x (sortI l) = sortI (l ++ [x]) := by unfold sortI; rw [List.foldl_append]; rfl
set_option maxRecDepth 100000 in
set_option maxHeartbeats 4000000 in
theorem refLNotes_any (s : Shelf) (bv nv : Value) (id : Int) (w : World) (h : ShelfR w s bv nv) (hz : TameS s) :
    Calls Tryz.prog 14 #[shelfV s bv nv, .int .i64 id] w fun e w' => ∃ v, e = .returned (.tuple #[v, .int .i64 (dropE s id)]) ∧ RetI (notesI s id) w v w' := by
  have cM := fun W (g : Grow w W) => refMay_any s bv nv W (h.grow g) hz
  have cB : ∀ W, Grow w W → Calls Tryz.prog 52 #[shelfV s bv nv, .int .i64 id] W fun e w' => e = .returned (.int .i64 (bookIx s id)) ∧ Grow W w' := fun W g => refBook_any s bv nv id W (h.grow g) hz.1.1
  have hnl := hz.1.2.1
  obtain ⟨a1, c1, rfl⟩ := h.1.mk
  obtain ⟨a2, c2, rfl⟩ := h.2.mk
  have HH := Lib.hid h
  have HBX := Lib.hid (heap_alloc_new w (.cells #[.int .i64 s.nb, .int .i64 s.nn, .int .i64 s.ns, .slice a1 s.books.length c1, .slice a2 s.notes.length c2] 25))
  have CM := Lib.hid cM
  have CB := Lib.hid cB
  clear h hz cM cB
  unfold shelfV at *
  go_enter Tryz.func14, Tryz.ntmps14
  go_upto_region 1 with (fail)
  generalize hV : w.alloc (.cells #[.int .i64 s.nb, .int .i64 s.nn, .int .i64 s.ns, .slice a1 s.books.length c1, .slice a2 s.notes.length c2] 25) = V
  have gV : Grow w V := by rw [← hV]; exact (Grow.refl w).alloc _
  replace HBX : Hid (V.heap[w.heap.size]? = some (.cells #[.int .i64 s.nb, .int .i64 s.nn, .int .i64 s.ns, .slice a1 s.books.length c1, .slice a2 s.notes.length c2] 25 (0, 0))) := by rw [← hV]; exact HBX
  clear hV
  have cM1 := CM.out V gV
  obtain ⟨⟨p0, p1, p2, p3, p4⟩, hpz⟩ := n5 HBX.out
  cases hm : mayS s with
  | false =>
    have HE := Lib.hid (show dropE s id = 2 by unfold dropE; rw [if_pos hm])
    rw [hm] at cM1
    clear hm
    go_wp2_with fail
    refine cM1.mono ?_
    rintro e w1 ⟨rfl, g1⟩
    have HG1 := Lib.hid (gV.trans g1)
    clear cM1 p0 p1 p2 p3 p4 g1
    go_wp2_with fail
    go_ret2
    refine ⟨_, by rw [HE.out]; rfl, HG1.out, ?_⟩
    rw [notesI, if_neg (by rw [HE.out]; decide)]
    exact RowO.nil
  | true =>
    have HM := Lib.hid hm
    rw [hm] at cM1
    clear hm
    go_wp2_with fail
    refine cM1.mono ?_
    rintro e w1 ⟨rfl, g1⟩
    have HG1 := Lib.hid (gV.trans g1)
    clear cM1 p0 p1 p2 p3 p4 hpz
    obtain ⟨⟨p0, p1, p2, p3, p4⟩, hpz⟩ := n5 (g1.blk HBX.out)
    have cB1 := CB.out w1 HG1.out
    by_cases hi : bookIx s id < 0
    · have HE := Lib.hid (show dropE s id = 4 by unfold dropE; rw [if_neg (by rw [HM.out]; simp), if_pos hi])
      go_wp2_with fail
      refine cB1.mono ?_
      rintro e w2 ⟨rfl, g2⟩
      have HG2 := Lib.hid (HG1.out.trans g2)
      clear cB1 p0 p1 p2 p3 p4 g1 g2
      go_wp2_with fail
      go_ret2
      refine ⟨_, by rw [HE.out]; rfl, HG2.out, ?_⟩
      rw [notesI, if_neg (by rw [HE.out]; decide)]
      exact RowO.nil
    · have HE := Lib.hid (show dropE s id = 0 from dropE_zero.2 ⟨HM.out, by omega⟩)
      obtain ⟨ib, hib⟩ : ∃ ib : Nat, bookIx s id = ib := ⟨(bookIx s id).toNat, by omega⟩
      rw [hib] at cB1 hi
      clear hib
      go_wp2_with fail
      refine cB1.mono ?_
      rintro e w2 ⟨rfl, g2⟩
      have HG2 := Lib.hid (HG1.out.trans g2)
      have HX2 := Lib.hid (g2.blk (g1.blk HBX.out))
      clear cB1 p0 p1 p2 p3 p4 g1 g2 hpz
      go_wp2_with fail
      go_loopw [6, 7] (fun v6 v7 wx => ∃ (i : Nat) (L : List Item) (o : Option Addr) (c : Nat), v6 = .slice o L.length c ∧ v7 = .int .i64 i ∧ i ≤ s.notes.length ∧ L = sortI (((s.notes.take i).filter fun n => n.book == id).map fun n => ⟨n.id, n.name⟩) ∧ L.length ≤ i ∧ RowO w.heap.size 63 2 (.slice o L.length c) L.length (L.flatMap itemC) wx ∧ Grow w2 wx) (fun _ v7 _ => s.notes.length - (Go.RowKit.intOf v7).toNat)
      case atStart => exact ⟨0, [], none, 0, rfl, rfl, by omega, by simp [sortI], by simp, RowO.nil, Grow.refl _⟩
      case round =>
        obtain ⟨i, L, o, c, rfl, rfl, hi, hL, hLl, hr, hg⟩ := hrel
        have HL := Lib.hid hL
        have HLL := Lib.hid hLl
        have HR := Lib.hid hr
        have HG := Lib.hid hg
        have gwr := HG2.out.trans hg
        have HGW := Lib.hid gwr
        obtain ⟨⟨p0, p1, p2, p3, p4⟩, hpz⟩ := n5 (hg.blk HX2.out)
        clear hL hg hr hLl
        by_cases hlt : i < s.notes.length
        · have hlt' : (i : Int) < s.notes.length := by omega
          obtain ⟨x, hx, -⟩ := lt_get hlt
          have HX := Lib.hid hx
          obtain ⟨b, off, tv, sv, rfl, hb, q0, q1, q2, -, -, -, -⟩ := (Notes.grow HH.out.2 gwr).at hx
          clear hx
          cases hbk : (x.book == id) with
          | false =>
            have HBK := Lib.hid hbk
            go_wp2_with fail
            go_roundw
            case rel => exact ⟨i + 1, L, o, c, rfl, by go_num, by omega, by rw [HL.out, filt_next HX.out, if_neg (by rw [HBK.out]; simp), List.append_nil], by have := HLL.out; omega, HR.out, HG.out⟩
            case measure => simp [Go.RowKit.intOf]; omega
          | true =>
            have HBK := Lib.hid hbk
            have cI := fun W (g : Grow wr W) => refInto_any (.slice o L.length c) L ⟨x.id, x.name⟩ W (Items.growI (row_items HR.out) g) (by have := HLL.out; omega)
            have CI := Lib.hid cI
            have gz := gwr.size
            have key : ∀ W, Grow wr W → W.cell? ⟨w.heap.size, 4, none⟩ = some (.slice (some ⟨b, off, none⟩) s.notes.length c2) ∧ W.cell? ⟨b, off + i * 5, none⟩ = some (.int .i64 x.id) ∧ W.cell? ⟨b, off + i * 5 + 2, none⟩ = some (.string x.name) := fun W g => ⟨(g.cells _ _ hpz).trans p4, (g.cells _ _ hb).trans q0, (g.cells _ _ hb).trans q2⟩
            have s0 := key _ (Grow.refl wr).drew
            have KEY := Lib.hid key
            clear key cI
            go_upto_region 10 with (fail)
            go_region_held3 (fun W => W.cell? ⟨w.heap.size, 4, none⟩ = some (.slice (some ⟨b, off, none⟩) s.notes.length c2) ∧ W.cell? ⟨b, off + i * 5, none⟩ = some (.int .i64 x.id) ∧ W.cell? ⟨b, off + i * 5 + 2, none⟩ = some (.string x.name)) (first | with_reducible exact s1 | with_reducible exact s0 | go_keep)
              (first
                | (go_at_call 53; refine (CI.out _ (Grow.refl wr).drew).mono ?_; rintro e w3 ⟨v', rfl, hr3, g3⟩; have s1 := KEY.out _ ((Grow.refl wr).drew.trans g3); obtain ⟨va, vc, e9, -⟩ := hr3.slice; subst e9; have HR3 := Lib.hid hr3; have HG3 := Lib.hid ((Grow.refl wr).drew.trans g3); clear hr3 g3))
            have HB3 := Lib.hid (HR3.out.base_mono (base' := w.heap.size) (by simpa using gz))
            have HLN := Lib.hid (show (insI ⟨x.id, x.name⟩ L).length ≤ i + 1 by rw [insI_len]; have := HLL.out; omega)
            clear p0 p1 p2 p3 p4 q0 q1 q2
            go_wp2_with fail
            go_roundw
            case rel => exact ⟨i + 1, insI ⟨x.id, x.name⟩ L, va, vc, rfl, by go_num, by omega, by rw [HL.out, filt_next HX.out, if_pos HBK.out, List.map_append]; exact sortI_snoc _ _, HLN.out, HB3.out, HG.out.trans HG3.out⟩
            case measure => simp [Go.RowKit.intOf]; omega
        · have hlt' : ¬ (i : Int) < s.notes.length := by omega
          have hLa : L = notesI s id := by
            rw [HL.out, List.take_of_length_le (by omega), notesI, if_pos HE.out]; rfl
          have HLA := Lib.hid hLa
          clear hLa
          go_wp2_with fail
          go_ret2
          refine ⟨_, by rw [HE.out]; rfl, HGW.out, ?_⟩
          rw [← HLA.out]; exact HR.out
set_option maxRecDepth 100000 in
set_option maxHeartbeats 4000000 in
theorem refFind_any (s : Shelf) (bv nv : Value) (id : Int) (w : World) (h : ShelfR w s bv nv) (hz : TameS s) :
    Calls Tryz.prog 16 #[shelfV s bv nv, .int .i64 id] w (RetFind s id w) := by
  have cM := fun W (g : Grow w W) => refMay_any s bv nv W (h.grow g) hz
  have cN : ∀ W, Grow w W → Calls Tryz.prog 56 #[shelfV s bv nv, .int .i64 id] W fun e w' => e = .returned (.int .i64 (noteIx s id)) ∧ Grow W w' := fun W g => refNote_any s bv nv id W (h.grow g) hz.1.2.1
  have cO := fun W (g : Grow w W) => copy_any s bv nv W (h.grow g) hz.1
  have hnl := hz.1.2.1
  obtain ⟨a1, c1, rfl⟩ := h.1.mk
  obtain ⟨a2, c2, rfl⟩ := h.2.mk
  have HXX := Lib.hid (two_boxes2 w (shB s (.slice a1 s.books.length c1) (.slice a2 s.notes.length c2)) noO)
  have hbd := idx_bd (fun x : Note => x.id == id) s.notes
  have HGI := Lib.hid (show 0 ≤ noteIx s id → ∃ x, s.notes[(noteIx s id).toNat]? = some x ∧ (x.id == id) = true from fun h0 => idx_get (p := fun x : Note => x.id == id) (l := s.notes) rfl h0)
  have HRF := Lib.hid (show noteIx s id = idx (fun x : Note => x.id == id) s.notes from rfl)
  rw [← HRF.out] at hbd
  have CM := Lib.hid cM
  have CO := Lib.hid cO
  clear h hz cM cO
  unfold shelfV at CM CO cN ⊢
  go_enter Tryz.func16, Tryz.ntmps16
  go_upto_region 1 with (fail)
  generalize hV : (w.alloc (.cells #[.int .i64 s.nb, .int .i64 s.nn, .int .i64 s.ns, .slice a1 s.books.length c1, .slice a2 s.notes.length c2] 25)).alloc (.cells #[.int .i64 0, .int .i64 0, .string ⟨#[]⟩, .slice none 0 0, .slice none 0 0] 46) = V
  have gV : Grow w V := by rw [← hV]; exact ((Grow.refl w).alloc _).alloc _
  have HBX : Hid (V.heap[w.heap.size]? = some (shB s (.slice a1 s.books.length c1) (.slice a2 s.notes.length c2))) := by rw [← hV]; exact Lib.hid HXX.out.1
  have HRX : Hid (V.heap[w.heap.size + 1]? = some noO) := by rw [← hV]; exact Lib.hid HXX.out.2
  obtain ⟨⟨p0, p1, p2, p3, p4⟩, hpz⟩ := n5 HBX.out
  have cN1 := cN V gV
  clear hV cN
  have fin : ∀ W, Grow V W → (mayS s = false ∨ noteIx s id = -1) → RetFind s id w (.returned (.tuple #[noteV ⟨0, 0, ⟨#[]⟩, [], []⟩ (.slice none 0 0) (.slice none 0 0), .bool false])) W := fun W g hh => ⟨gV.trans g, .inr ⟨hh, rfl⟩⟩
  have HFIN := Lib.hid fin
  clear fin
  go_wp2_with fail
  refine cN1.mono ?_
  rintro e w1 ⟨rfl, g1⟩
  have HG1 := Lib.hid g1
  clear cN1 p0 p1 p2 p3 p4 hpz g1
  obtain ⟨⟨p0, p1, p2, p3, p4⟩, hpz⟩ := n5 (HG1.out.blk HBX.out)
  have cM1 := CM.out w1 (gV.trans HG1.out)
  cases hm : mayS s with
  | false =>
    have HM := Lib.hid hm
    rw [hm] at cM1
    clear hm
    go_wp2_with fail
    refine cM1.mono ?_
    rintro e w2 ⟨rfl, g2⟩
    have HG2 := Lib.hid (HG1.out.trans g2)
    obtain ⟨⟨e0, e1, e2, e3, e4⟩, hez⟩ := n5 (HG2.out.blk HRX.out)
    have f0 := frozen_of_row w2 (w.heap.size + 1) 0 _ _ (HG2.out.blk HRX.out)
    have f1 := frozen_of_row w2 (w.heap.size + 1) 1 _ _ (HG2.out.blk HRX.out)
    have f2 := frozen_of_row w2 (w.heap.size + 1) 2 _ _ (HG2.out.blk HRX.out)
    have f3 := frozen_of_row w2 (w.heap.size + 1) 3 _ _ (HG2.out.blk HRX.out)
    have f4 := frozen_of_row w2 (w.heap.size + 1) 4 _ _ (HG2.out.blk HRX.out)
    clear cM1 g2 p0 p1 p2 p3 p4
    go_wp2_with fail
    refine bodyPost_ret (v := .tuple #[noteV ⟨0, 0, ⟨#[]⟩, [], []⟩ (.slice none 0 0) (.slice none 0 0), .bool false]) ?_ rfl ?_
    · rw [results_cell_tmp rfl]
      unfold noteV
      go_simp
    · refine ⟨?_, .inr ⟨.inl HM.out, rfl⟩⟩
      repeat' (first | exact gV.trans HG2.out | refine Grow.set ?_ (by simp) _)
  | true =>
    have HM := Lib.hid hm
    rw [hm] at cM1
    clear hm
    by_cases hi : noteIx s id < 0
    · have HI := Lib.hid (show noteIx s id = -1 by omega)
      go_wp2_with fail
      refine cM1.mono ?_
      rintro e w2 ⟨rfl, g2⟩
      have HG2 := Lib.hid (HG1.out.trans g2)
      obtain ⟨⟨e0, e1, e2, e3, e4⟩, hez⟩ := n5 (HG2.out.blk HRX.out)
      have f0 := frozen_of_row w2 (w.heap.size + 1) 0 _ _ (HG2.out.blk HRX.out)
      have f1 := frozen_of_row w2 (w.heap.size + 1) 1 _ _ (HG2.out.blk HRX.out)
      have f2 := frozen_of_row w2 (w.heap.size + 1) 2 _ _ (HG2.out.blk HRX.out)
      have f3 := frozen_of_row w2 (w.heap.size + 1) 3 _ _ (HG2.out.blk HRX.out)
      have f4 := frozen_of_row w2 (w.heap.size + 1) 4 _ _ (HG2.out.blk HRX.out)
      clear cM1 g2 p0 p1 p2 p3 p4
      go_wp2_with fail
      refine bodyPost_ret (v := .tuple #[noteV ⟨0, 0, ⟨#[]⟩, [], []⟩ (.slice none 0 0) (.slice none 0 0), .bool false]) ?_ rfl ?_
      · rw [results_cell_tmp rfl]
        unfold noteV
        go_simp
      · refine ⟨?_, .inr ⟨.inr HI.out, rfl⟩⟩
        repeat' (first | exact gV.trans HG2.out | refine Grow.set ?_ (by simp) _)
    · have hi0 : 0 ≤ noteIx s id := by omega
      obtain ⟨x, hx, -⟩ := HGI.out hi0
      obtain ⟨i, hii⟩ : ∃ i : Nat, noteIx s id = i := ⟨(noteIx s id).toNat, by omega⟩
      have HX := Lib.hid hx
      have HII := Lib.hid hii
      have HH0 := Lib.hid hi0
      rw [hii]
      rw [hii] at hi0 hi hbd
      have hil : (i : Int) < s.notes.length := by omega
      clear hx hii hi hbd
      go_wp2_with fail
      refine cM1.mono ?_
      rintro e w2 ⟨rfl, g2⟩
      have HG2 := Lib.hid (HG1.out.trans g2)
      clear cM1 g2 p0 p1 p2 p3 p4
      obtain ⟨⟨p0, p1, p2, p3, p4⟩, hpz⟩ := n5 (HG2.out.blk HBX.out)
      have cO1 := CO.out w2 (gV.trans HG2.out)
      go_wp2_with fail
      refine cO1.mono ?_
      rintro e w3 ⟨bv', nv', Y, rfl, ho, hmap, g3⟩
      have hYl : Y.length = s.notes.length := by rw [← hmap, List.length_map]
      have hxi : s.notes[i]? = some x := by have := HX.out; rw [HII.out] at this; exact this
      obtain ⟨y, hy, -⟩ := lt_get (l := Y) (i := i) (by omega)
      have hyn : y.n = x := by
        have : (Y.map NV.n)[i]? = some y.n := by rw [List.getElem?_map, hy]; rfl
        rw [hmap, hxi] at this; exact (Option.some.inj this).symm
      obtain ⟨nb, nc, env, hnb, hnc, hblk, hcl⟩ := ho.note hy
      obtain ⟨ba, bc, ebv, -⟩ := ho.books.slice
      obtain ⟨ta, tc, etv, -⟩ := (ho.tags y (List.mem_of_getElem? hy)).slice
      obtain ⟨sa, sc, esv, -⟩ := (ho.sheets y (List.mem_of_getElem? hy)).slice
      have q0 : w3.cell? ⟨nb, i * 5, none⟩ = some (.int .i64 y.n.id) := (hcl 0 _ rfl).1
      have q1 := (hcl 1 _ rfl).1
      have q2 := (hcl 2 _ rfl).1
      have q3 : w3.cell? ⟨nb, i * 5 + 3, none⟩ = some y.tv := (hcl 3 _ rfl).1
      have q4 : w3.cell? ⟨nb, i * 5 + 4, none⟩ = some y.sv := (hcl 4 _ rfl).1
      rw [hYl] at env
      have HO := Lib.hid ho
      have HMAP := Lib.hid hmap
      have HY := Lib.hid hy
      have HYN := Lib.hid hyn
      have HBK := Lib.hid hblk
      have hg3 := HG2.out.trans g3
      have HG3 := Lib.hid hg3
      obtain ⟨⟨e0, e1, e2, e3, e4⟩, hez⟩ := n5 (hg3.blk HRX.out)
      have f0 := frozen_of_row w3 (w.heap.size + 1) 0 _ _ (hg3.blk HRX.out)
      have f1 := frozen_of_row w3 (w.heap.size + 1) 1 _ _ (hg3.blk HRX.out)
      have f2 := frozen_of_row w3 (w.heap.size + 1) 2 _ _ (hg3.blk HRX.out)
      have f3 := frozen_of_row w3 (w.heap.size + 1) 3 _ _ (hg3.blk HRX.out)
      have f4 := frozen_of_row w3 (w.heap.size + 1) 4 _ _ (hg3.blk HRX.out)
      rw [etv] at q3
      rw [esv] at q4
      have HTV := Lib.hid etv
      have HSV := Lib.hid esv
      have hnbb : nb ≠ w.heap.size + 1 := by
        have h1 := (ho.notes.blk hblk).1
        have h2 : w.heap.size + 1 < w2.heap.size := (Array.getElem?_eq_some_iff.1 (HG2.out.blk HRX.out)).1
        omega
      have HNB := Lib.hid hnbb
      have HOD := Lib.hid (show OwnN w2.heap.size bv' nv' s.books Y w (w.heap.size + 1) w3 from ⟨gV.trans hg3, ho, by rw [hblk]; exact fun e => hnbb (Option.some.inj e), _, hg3.blk HRX.out⟩)
      clear cO1 ho hmap hy hyn hblk hg3 g3 hcl etv esv hnc hxi hYl p0 p1 p2 p3 p4
      subst env ebv
      have hfld : ∀ W : World, (Instr.field 25 (.agg #[.int .i64 s.nb, .int .i64 s.nn, .int .i64 s.ns, .slice ba s.books.length bc, .slice (some ⟨nb, 0, none⟩) s.notes.length nc]) 4).run Tryz.prog W = .ok (.slice (some ⟨nb, 0, none⟩) s.notes.length nc) W := fun _ => by kernel_rfl
      unfold shelfV
      go_wp2_with fail
      refine bodyPost_ret (v := .tuple #[.agg #[.int .i64 y.n.id, .int .i64 y.n.book, .string y.n.name, .slice ta y.n.tags.length tc, .slice sa y.n.sheets.length sc], .bool true]) ?_ rfl ?_
      · rw [results_cell_tmp rfl]
        go_simp
      · have hfin : ∀ W', OwnN w2.heap.size (.slice ba s.books.length bc) (.slice (some ⟨nb, 0, none⟩) s.notes.length nc) s.books Y w (w.heap.size + 1) W' → RetFind s id w (.returned (.tuple #[.agg #[.int .i64 y.n.id, .int .i64 y.n.book, .string y.n.name, .slice ta y.n.tags.length tc, .slice sa y.n.sheets.length sc], .bool true])) W' := fun W' hW => by
          refine ⟨hW.1, .inl ⟨x, _, _, Y, y, HM.out, HH0.out, HX.out, ?_, hW.2.1.base_mono (gV.trans HG2.out).size, HMAP.out, by rw [HII.out]; exact HY.out, HYN.out⟩⟩
          rw [← HYN.out, HTV.out, HSV.out]; rfl
        refine hfin _ ?_
        repeat' (first | exact HOD.out | refine OwnN.set ?_ (by omega) _ _)
end Go.Proofs.YtnajccljdjllgaaGreatDoor
set_option linter.unusedVariables false
set_option linter.unusedSimpArgs false
namespace Go.Proofs.YtnajccljdjllgaaGreatDoor
open Go.RowKit Go.Lib
set_option maxRecDepth 100000 in
set_option maxHeartbeats 4000000 in
theorem find_any (s : Shelf) (bv nv : Value) (id : Int) (w : World) (h : ShelfR w s bv nv) (hz : TameS s) (hT : Tabs w) :
    Calls Tryz.prog 15 #[shelfV s bv nv, .int .i64 id] w (RetFind s id w) := by
  have cM := fun W (g : Grow w W) => mayS_any s bv nv W (h.grow g) hz (hT.below g)
  have cN := fun W (g : Grow w W) => note_any s bv nv id W (h.grow g) (by have := hz.1.2.1; omega)
  have cO := fun W (g : Grow w W) => own_any s bv nv W (h.grow g) hz.1
  have hnl := hz.1.2.1
  obtain ⟨a1, c1, rfl⟩ := h.1.mk
  obtain ⟨a2, c2, rfl⟩ := h.2.mk
  have HXX := Lib.hid (two_boxes2 w (shB s (.slice a1 s.books.length c1) (.slice a2 s.notes.length c2)) noO)
  have hbd := idx_bd (fun x : Note => x.id == id) s.notes
  have HGI := Lib.hid (show 0 ≤ noteIx s id → ∃ x, s.notes[(noteIx s id).toNat]? = some x ∧ (x.id == id) = true from fun h0 => idx_get (p := fun x : Note => x.id == id) (l := s.notes) rfl h0)
  have HRF := Lib.hid (show noteIx s id = idx (fun x : Note => x.id == id) s.notes from rfl)
  rw [← HRF.out] at hbd
  rw [← HRF.out] at cN
  clear h hz hT
  unfold shelfV at cM cN cO ⊢
  go_enter Tryz.func15, Tryz.ntmps15
  go_upto_region 1 with (fail)
  generalize hV : (w.alloc (.cells #[.int .i64 s.nb, .int .i64 s.nn, .int .i64 s.ns, .slice a1 s.books.length c1, .slice a2 s.notes.length c2] 25)).alloc (.cells #[.int .i64 0, .int .i64 0, .string ⟨#[]⟩, .slice none 0 0, .slice none 0 0] 46) = V
  have gV : Grow w V := by rw [← hV]; exact ((Grow.refl w).alloc _).alloc _
  have HBX : Hid (V.heap[w.heap.size]? = some (shB s (.slice a1 s.books.length c1) (.slice a2 s.notes.length c2))) := by rw [← hV]; exact Lib.hid HXX.out.1
  have HRX : Hid (V.heap[w.heap.size + 1]? = some noO) := by rw [← hV]; exact Lib.hid HXX.out.2
  obtain ⟨⟨p0, p1, p2, p3, p4⟩, hpz⟩ := n5 HBX.out
  have cM1 := cM V gV
  clear hV
  have fin : ∀ W, Grow V W → (mayS s = false ∨ noteIx s id = -1) → RetFind s id w (.returned (.tuple #[noteV ⟨0, 0, ⟨#[]⟩, [], []⟩ (.slice none 0 0) (.slice none 0 0), .bool false])) W := fun W g hh => ⟨gV.trans g, .inr ⟨hh, rfl⟩⟩
  have HFIN := Lib.hid fin
  clear fin
  cases hm : mayS s with
  | false =>
    have HM := Lib.hid hm
    rw [hm] at cM1
    clear hm
    go_wp2_with fail
    refine cM1.mono ?_
    rintro e w1 ⟨rfl, g1⟩
    have HG1 := Lib.hid g1
    obtain ⟨⟨e0, e1, e2, e3, e4⟩, hez⟩ := n5 (g1.blk HRX.out)
    have f0 := frozen_of_row w1 (w.heap.size + 1) 0 _ _ (g1.blk HRX.out)
    have f1 := frozen_of_row w1 (w.heap.size + 1) 1 _ _ (g1.blk HRX.out)
    have f2 := frozen_of_row w1 (w.heap.size + 1) 2 _ _ (g1.blk HRX.out)
    have f3 := frozen_of_row w1 (w.heap.size + 1) 3 _ _ (g1.blk HRX.out)
    have f4 := frozen_of_row w1 (w.heap.size + 1) 4 _ _ (g1.blk HRX.out)
    clear cM1 g1 p0 p1 p2 p3 p4
    go_wp2_with fail
    refine bodyPost_ret (v := .tuple #[noteV ⟨0, 0, ⟨#[]⟩, [], []⟩ (.slice none 0 0) (.slice none 0 0), .bool false]) ?_ rfl ?_
    · rw [results_cell_tmp rfl]
      unfold noteV
      go_simp
    · refine ⟨?_, .inr ⟨.inl HM.out, rfl⟩⟩
      repeat' (first | exact gV.trans HG1.out | refine Grow.set ?_ (by simp) _)
  | true =>
    have HM := Lib.hid hm
    rw [hm] at cM1
    clear hm
    go_wp2_with fail
    refine cM1.mono ?_
    rintro e w1 ⟨rfl, g1⟩
    have cN1 := cN w1 (gV.trans g1)
    obtain ⟨⟨p0, p1, p2, p3, p4⟩, hpz⟩ := n5 (g1.blk HBX.out)
    have HG1 := Lib.hid g1
    clear cM1 g1
    go_wp2_with fail
    refine cN1.mono ?_
    rintro e w2 ⟨rfl, g2⟩
    have HG2 := Lib.hid (HG1.out.trans g2)
    clear cN1 g2
    by_cases hi : noteIx s id < 0
    · have HI := Lib.hid (show noteIx s id = -1 by omega)
      obtain ⟨⟨e0, e1, e2, e3, e4⟩, hez⟩ := n5 (HG2.out.blk HRX.out)
      have f0 := frozen_of_row w2 (w.heap.size + 1) 0 _ _ (HG2.out.blk HRX.out)
      have f1 := frozen_of_row w2 (w.heap.size + 1) 1 _ _ (HG2.out.blk HRX.out)
      have f2 := frozen_of_row w2 (w.heap.size + 1) 2 _ _ (HG2.out.blk HRX.out)
      have f3 := frozen_of_row w2 (w.heap.size + 1) 3 _ _ (HG2.out.blk HRX.out)
      have f4 := frozen_of_row w2 (w.heap.size + 1) 4 _ _ (HG2.out.blk HRX.out)
      go_wp2_with fail
      refine bodyPost_ret (v := .tuple #[noteV ⟨0, 0, ⟨#[]⟩, [], []⟩ (.slice none 0 0) (.slice none 0 0), .bool false]) ?_ rfl ?_
      · rw [results_cell_tmp rfl]
        unfold noteV
        go_simp
      · refine ⟨?_, .inr ⟨.inr HI.out, rfl⟩⟩
        repeat' (first | exact gV.trans HG2.out | refine Grow.set ?_ (by simp) _)
    · have hi0 : 0 ≤ noteIx s id := by omega
      obtain ⟨x, hx, -⟩ := HGI.out hi0
      obtain ⟨i, hii⟩ : ∃ i : Nat, noteIx s id = i := ⟨(noteIx s id).toNat, by omega⟩
      have HX := Lib.hid hx
      have HII := Lib.hid hii
      have HH0 := Lib.hid hi0
      obtain ⟨⟨p0, p1, p2, p3, p4⟩, hpz⟩ := n5 (HG2.out.blk HBX.out)
      have cO1 := cO w2 (gV.trans HG2.out)
      rw [hii]
      rw [hii] at hi0 hi hbd
      have hil : (i : Int) < s.notes.length := by omega
      clear hx hii hi hbd
      go_wp2_with fail
      refine cO1.mono ?_
      rintro e w3 ⟨bv', nv', Y, rfl, ho, hmap, g3⟩
      have hYl : Y.length = s.notes.length := by rw [← hmap, List.length_map]
      have hxi : s.notes[i]? = some x := by have := HX.out; rw [HII.out] at this; exact this
      obtain ⟨y, hy, -⟩ := lt_get (l := Y) (i := i) (by omega)
      have hyn : y.n = x := by
        have : (Y.map NV.n)[i]? = some y.n := by rw [List.getElem?_map, hy]; rfl
        rw [hmap, hxi] at this; exact (Option.some.inj this).symm
      obtain ⟨nb, nc, env, hnb, hnc, hblk, hcl⟩ := ho.note hy
      obtain ⟨ba, bc, ebv, -⟩ := ho.books.slice
      obtain ⟨ta, tc, etv, -⟩ := (ho.tags y (List.mem_of_getElem? hy)).slice
      obtain ⟨sa, sc, esv, -⟩ := (ho.sheets y (List.mem_of_getElem? hy)).slice
      have q0 : w3.cell? ⟨nb, i * 5, none⟩ = some (.int .i64 y.n.id) := (hcl 0 _ rfl).1
      have q1 := (hcl 1 _ rfl).1
      have q2 := (hcl 2 _ rfl).1
      have q3 : w3.cell? ⟨nb, i * 5 + 3, none⟩ = some y.tv := (hcl 3 _ rfl).1
      have q4 : w3.cell? ⟨nb, i * 5 + 4, none⟩ = some y.sv := (hcl 4 _ rfl).1
      rw [hYl] at env
      have HO := Lib.hid ho
      have HMAP := Lib.hid hmap
      have HY := Lib.hid hy
      have HYN := Lib.hid hyn
      have HBK := Lib.hid hblk
      have hg3 := HG2.out.trans g3
      have HG3 := Lib.hid hg3
      obtain ⟨⟨e0, e1, e2, e3, e4⟩, hez⟩ := n5 (hg3.blk HRX.out)
      have f0 := frozen_of_row w3 (w.heap.size + 1) 0 _ _ (hg3.blk HRX.out)
      have f1 := frozen_of_row w3 (w.heap.size + 1) 1 _ _ (hg3.blk HRX.out)
      have f2 := frozen_of_row w3 (w.heap.size + 1) 2 _ _ (hg3.blk HRX.out)
      have f3 := frozen_of_row w3 (w.heap.size + 1) 3 _ _ (hg3.blk HRX.out)
      have f4 := frozen_of_row w3 (w.heap.size + 1) 4 _ _ (hg3.blk HRX.out)
      rw [etv] at q3
      rw [esv] at q4
      have HTV := Lib.hid etv
      have HSV := Lib.hid esv
      have hnbb : nb ≠ w.heap.size + 1 := by
        have h1 := (ho.notes.blk hblk).1
        have h2 : w.heap.size + 1 < w2.heap.size := (Array.getElem?_eq_some_iff.1 (HG2.out.blk HRX.out)).1
        omega
      have HNB := Lib.hid hnbb
      have HOD := Lib.hid (show OwnN w2.heap.size bv' nv' s.books Y w (w.heap.size + 1) w3 from ⟨gV.trans hg3, ho, by rw [hblk]; exact fun e => hnbb (Option.some.inj e), _, hg3.blk HRX.out⟩)
      clear cO1 ho hmap hy hyn hblk hg3 g3 hcl etv esv hnc hxi hYl p0 p1 p2 p3 p4
      subst env ebv
      have hfld : ∀ W : World, (Instr.field 25 (.agg #[.int .i64 s.nb, .int .i64 s.nn, .int .i64 s.ns, .slice ba s.books.length bc, .slice (some ⟨nb, 0, none⟩) s.notes.length nc]) 4).run Tryz.prog W = .ok (.slice (some ⟨nb, 0, none⟩) s.notes.length nc) W := fun _ => by kernel_rfl
      unfold shelfV
      go_wp2_with fail
      refine bodyPost_ret (v := .tuple #[.agg #[.int .i64 y.n.id, .int .i64 y.n.book, .string y.n.name, .slice ta y.n.tags.length tc, .slice sa y.n.sheets.length sc], .bool true]) ?_ rfl ?_
      · rw [results_cell_tmp rfl]
        go_simp
      · have hfin : ∀ W', OwnN w2.heap.size (.slice ba s.books.length bc) (.slice (some ⟨nb, 0, none⟩) s.notes.length nc) s.books Y w (w.heap.size + 1) W' → RetFind s id w (.returned (.tuple #[.agg #[.int .i64 y.n.id, .int .i64 y.n.book, .string y.n.name, .slice ta y.n.tags.length tc, .slice sa y.n.sheets.length sc], .bool true])) W' := fun W' hW => by
          refine ⟨hW.1, .inl ⟨x, _, _, Y, y, HM.out, HH0.out, HX.out, ?_, hW.2.1.base_mono (gV.trans HG2.out).size, HMAP.out, by rw [HII.out]; exact HY.out, HYN.out⟩⟩
          rw [← HYN.out, HTV.out, HSV.out]; rfl
        refine hfin _ ?_
        repeat' (first | exact HOD.out | refine OwnN.set ?_ (by omega) _ _)
end Go.Proofs.YtnajccljdjllgaaGreatDoor
set_option linter.unusedVariables false
set_option linter.unusedSimpArgs false
namespace Go.Proofs.YtnajccljdjllgaaGreatDoor
open Go.RowKit Go.Lib
set_option maxRecDepth 100000 in
set_option maxHeartbeats 4000000 in
theorem notes_any (s : Shelf) (bv nv : Value) (id : Int) (w : World) (h : ShelfR w s bv nv) (hz : TameS s) (hT : Tabs w) :
    Calls Tryz.prog 13 #[shelfV s bv nv, .int .i64 id] w fun e w' => ∃ v, e = .returned (.tuple #[v, .int .i64 (dropE s id)]) ∧ RetI (notesI s id) w v w' := by
  obtain ⟨i0, hi0, hz0, hz1, hz2⟩ := info_parts info_item
  have g0 : Grow w (w.alloc (.cells #[.int .i64 s.nb, .int .i64 s.nn, .int .i64 s.ns, bv, nv] 25)) := (Grow.refl w).alloc _
  have cM := mayS_any s bv nv _ (h.grow g0) hz (hT.below g0)
  have cB : ∀ W, Grow w W → Calls Tryz.prog 51 #[shelfV s bv nv, .int .i64 id] W fun e w' => e = .returned (.int .i64 (bookIx s id)) ∧ Grow W w' := fun W g => book_any s bv nv id W (h.grow g) (by have := hz.1.1; omega)
  have hnl := hz.1.2.1
  obtain ⟨a1, c1, rfl⟩ := h.1.mk
  obtain ⟨a2, c2, rfl⟩ := h.2.mk
  have HH := Lib.hid h
  have HG0 := Lib.hid g0
  clear h hz hT g0
  unfold shelfV at *
  cases hm : mayS s with
  | false =>
    have HM := Lib.hid (show dropE s id = 2 by unfold dropE; rw [if_pos hm])
    rw [hm] at cM
    clear hm cB
    go_enter Tryz.func13, Tryz.ntmps13
    go_wp2_with fail
    refine cM.mono ?_
    rintro e w1 ⟨rfl, g1⟩
    go_wp2_with fail
    go_ret2
    refine ⟨.slice none 0 0, by rw [HM.out]; rfl, HG0.out.trans g1, ?_⟩
    rw [notesI, HM.out, if_neg (by decide)]
    exact RowO.nil
  | true =>
    have HM := Lib.hid hm
    rw [hm] at cM
    clear hm
    have HBX := Lib.hid (heap_alloc_new w (.cells #[.int .i64 s.nb, .int .i64 s.nn, .int .i64 s.ns, .slice a1 s.books.length c1, .slice a2 s.notes.length c2] 25))
    go_enter Tryz.func13, Tryz.ntmps13
    go_wp2_with fail
    refine cM.mono ?_
    rintro e w1 ⟨rfl, g1⟩
    obtain ⟨⟨p0, p1, p2, p3, p4⟩, hpz⟩ := n5 (g1.blk HBX.out)
    have gw1 := HG0.out.trans g1
    have cB1 := cB w1 gw1
    clear cM cB
    by_cases hi : bookIx s id < 0
    · have HI := Lib.hid (show dropE s id = 4 by unfold dropE; rw [if_neg (by rw [HM.out]; simp), if_pos hi])
      go_wp2_with fail
      refine cB1.mono ?_
      rintro e w2 ⟨rfl, g2⟩
      go_wp2_with fail
      go_ret2
      refine ⟨.slice none 0 0, by rw [HI.out]; rfl, gw1.trans g2, ?_⟩
      rw [notesI, HI.out, if_neg (by decide)]
      exact RowO.nil
    · have HI := Lib.hid (show dropE s id = 0 from dropE_zero.2 ⟨HM.out, by omega⟩)
      go_wp2_with fail
      refine cB1.mono ?_
      rintro e w2 ⟨rfl, g2⟩
      have gw2 := gw1.trans g2
      have HG2 := Lib.hid gw2
      clear cB1 p0 p1 p2 p3 p4 hpz
      obtain ⟨⟨p0, p1, p2, p3, p4⟩, hpz⟩ := n5 ((g1.trans g2).blk HBX.out)
      clear g1 g2
      go_wp2_with fail
      go_loopw [6, 21] (fun v6 v21 wx => ∃ (i n : Nat) (L : List Item) (o : Option Addr) (k : Nat), v6 = .slice o n k ∧ v21 = .int .i64 i ∧ i ≤ s.notes.length ∧ L = ((s.notes.take i).filter fun n => n.book == id).map (fun n => ⟨n.id, n.name⟩) ∧ L.length = n ∧ n ≤ i ∧ RowO w.heap.size 63 2 (.slice o n k) L.length (L.flatMap itemC) wx ∧ Grow w wx) (fun _ v21 _ => s.notes.length - (Go.RowKit.intOf v21).toNat)
      case atStart => exact ⟨0, 0, [], none, 0, rfl, rfl, by omega, by simp, rfl, by omega, RowO.nil, gw2⟩
      case round =>
        obtain ⟨i, n, L, o, k, rfl, rfl, hi', hL, hLl, hni, hr, hg⟩ := hrel
        have HL := Lib.hid hL
        have HLL := Lib.hid hLl
        have HR := Lib.hid hr
        have HG := Lib.hid hg
        clear hL hLl
        by_cases hlt : i < s.notes.length
        · have hlt' : (i : Int) < s.notes.length := by omega
          obtain ⟨x, hx, -⟩ := lt_get hlt
          obtain ⟨b, off, tv, sv, rfl, hb, q0, q1, q2, q3, q4, ht, hs⟩ := (Notes.grow HH.out.2 hg).at hx
          obtain ⟨ta, tc, etv⟩ := ht.mk
          obtain ⟨sa, sc, esv⟩ := hs.mk
          subst etv esv
          have HX := Lib.hid hx
          have hgs := hg.size
          clear hx hr hg ht hs
          cases hbk : (x.book == id) with
          | true =>
            have HBK := Lib.hid hbk
            go_wp2_with (at_builtin; refine app_R (base := w.heap.size) (by rfl) _ _ 36 (by rfl) 63 i0 _ 2 24 Tryz.underlying36 hi0 hz0 hz1 hz2 (by rfl) (by decide) (.slice o n k) n (L.flatMap itemC) (by rfl) _ ?_ ?_ (itemC ⟨x.id, x.name⟩) rfl (itemC_one _) ?_ ?_ (by decide) ?_; (have h9 := HR.out; rw [HLL.out] at h9; exact h9.grow ((Grow.refl wr).alloc _)); (simp; omega); (simp; rfl); omega; intro v' w4 ra; obtain ⟨va, vc, e3, -⟩ := ra.1.slice; subst e3; have HRA := Lib.hid ra; clear ra)
            have hadd : RowO w.heap.size 63 2 (.slice va (n + 1) vc) (L ++ [(⟨x.id, x.name⟩ : Item)]).length ((L ++ [(⟨x.id, x.name⟩ : Item)]).flatMap itemC) w4 := row_add (l := L) (by rw [HLL.out]; exact HRA.out)
            have hgr : Grow w w4 := by
              have hrr := HR.out
              rw [HLL.out] at hrr
              exact grown_grow (HG.out.alloc _) (hrr.grow ((Grow.refl wr).alloc _)) HRA.out.2.1
            have HADD := Lib.hid hadd
            have HGR := Lib.hid hgr
            clear hadd hgr HRA hbk
            go_wp2_with fail
            go_roundw
            case rel => exact ⟨i + 1, n + 1, L ++ [⟨x.id, x.name⟩], va, vc, by go_num, by go_num, by omega, by rw [HL.out, filter_next HX.out, if_pos HBK.out, List.map_append]; rfl, by rw [List.length_append, HLL.out]; rfl, by omega, HADD.out, HGR.out⟩
            case measure => simp [Go.RowKit.intOf]; omega
          | false =>
            have HBK := Lib.hid hbk
            go_wp2_with fail
            go_roundw
            case rel => exact ⟨i + 1, n, L, o, k, rfl, by go_num, by omega, by rw [HL.out, filter_next HX.out, if_neg (by rw [HBK.out]; simp), List.append_nil], HLL.out, by omega, HR.out.grow ((Grow.refl wr).alloc _), HG.out.alloc _⟩
            case measure => simp [Go.RowKit.intOf]; omega
        · have hlt' : ¬ (i : Int) < s.notes.length := by omega
          have hLa : L = itemsN s id := by rw [HL.out, List.take_of_length_le (by omega)]; rfl
          have cS := sortItems_any w.heap.size (.slice o n k) L wr hr (by rw [HLL.out]; omega)
          have HLA := Lib.hid hLa
          clear hr hg hLa
          go_wp2_with fail
          refine cS.mono ?_
          rintro e w5 ⟨rfl, l', hp, hs, hr', hg'⟩
          have HF := Lib.hid (show l' = notesI s id by rw [notesI, if_pos HI.out]; exact sortI_of (by rw [← HLA.out]; exact hp) hs (itemsN_new (mayS_iff.1 HM.out) id))
          have HR5 := Lib.hid hr'
          have HG5 := Lib.hid (grown_grow HG.out HR.out hg')
          clear cS hp hs hr' hg'
          go_wp2_with fail
          go_ret2
          refine ⟨.slice o n k, by rw [HI.out]; rfl, HG5.out, ?_⟩
          rw [← HF.out]; exact HR5.out
end Go.Proofs.YtnajccljdjllgaaGreatDoor
set_option linter.unusedVariables false
set_option linter.unusedSimpArgs false
namespace Go.Proofs.YtnajccljdjllgaaGreatDoor
open Go.RowKit Go.Lib
def OutF2 (N : Note) (B : Bool) (w : World) (e : Ending) (w' : World) : Prop := ∃ ta tc sa sc, Grow w w' ∧ e = .returned (.tuple #[.agg #[.int .i64 N.id, .int .i64 N.book, .string N.name, .slice ta N.tags.length tc, .slice sa N.sheets.length sc], .bool B]) ∧
  RowO w.heap.size 9 1 (.slice ta N.tags.length tc) N.tags.length (strC N.tags) w' ∧ RowO w.heap.size 3 1 (.slice sa N.sheets.length sc) N.sheets.length (intC N.sheets) w'
theorem RetFind.out2 {s : Shelf} {id : Int} {N : Note} {B : Bool} (hN : foundN s id = N) (hB : foundB s id = B) {w w' : World} {e : Ending} (h : RetFind s id w e w') : OutF2 N B w e w' := by
  subst hN hB
  obtain ⟨g, ⟨x, bv, nv, Y, y, hm, h0, hx, rfl, ho, hmap, hy, rfl⟩ | ⟨hn, rfl⟩⟩ := h
  · have hE : noteE s id = 0 := noteE_zero.2 ⟨hm, h0⟩
    have hN : foundN s id = y.n := by
      unfold foundN
      rw [if_pos hE]
      have := (noteOf_get h0).1
      rw [hx] at this
      exact (Option.some.inj this).symm
    have hB : foundB s id = true := by unfold foundB; rw [hE]; rfl
    have hmem := List.mem_of_getElem? hy
    have h1 := ho.tags y hmem
    have h2 := ho.sheets y hmem
    obtain ⟨ta, tc, e1, -⟩ := h1.slice
    obtain ⟨sa, sc, e2, -⟩ := h2.slice
    rw [OutF2, hN, hB]
    rw [e1] at h1
    rw [e2] at h2
    exact ⟨ta, tc, sa, sc, g, by rw [e1, e2]; rfl, h1, h2⟩
  · have hE : noteE s id ≠ 0 := fun h => by
      obtain ⟨h1, h2⟩ := noteE_zero.1 h
      rcases hn with hn | hn
      · rw [hn] at h1; cases h1
      · omega
    have hN : foundN s id = ⟨0, 0, ⟨#[]⟩, [], []⟩ := if_neg hE
    have hB : foundB s id = false := decide_eq_false hE
    rw [OutF2, hN, hB]
    exact ⟨none, 0, none, 0, g, rfl, RowO.nil, RowO.nil⟩
theorem row_ints {base : Nat} {v : Value} {l : List Int} {w : World} (h : RowO base 3 1 v l.length (intC l) w) : Ints w v l := h.reads fun i x hx => by rw [Nat.mul_one, List.take_one, List.head?_drop, List.getElem?_map, hx]; rfl
theorem RowO.aside {base b : Nat} {e : TypeId} {k : Nat} {v : Value} {n : Nat} {xs : List Value} {w w' : World} (h : RowO base e k v n xs w) (t : Turned b w w') (hb : b < base) : RowO base e k v n xs w' :=
  h.turned t fun e => by have := (h.blk e).1; omega
end Go.Proofs.YtnajccljdjllgaaGreatDoor
set_option linter.unusedVariables false
set_option linter.unusedSimpArgs false
namespace Go.Proofs.YtnajccljdjllgaaGreatDoor
open Go.RowKit Go.Lib
theorem Grow.trans_below {V W W' : World} (g : Grow V W) (b : Below V.heap.size W W') : Grow V W' := Below.trans g b
theorem same_it (l : List Item) : same l l = true := same_yes rfl
theorem same_nt (n : Note) : same n n = true := same_yes rfl
theorem great_no (x : ActS) (h : ¬ 60 < x.t.size) : greatA 1 [x] = false := by unfold greatA; simp [h]
theorem great_yes (x : ActS) (h : 60 < x.t.size) : greatA 1 [x] = true := by unfold greatA; simp [h]
theorem row_apart {base base2 : Nat} {e : TypeId} {k k2 : Nat} {v v2 : Value} {n n2 : Nat} {xs xs2 : List Value} {w w0 w' : World} (h : RowO base e k v n xs w0) (h2 : RowO base2 e k2 v2 n2 xs2 w) (hb : w0.heap.size ≤ base2) (g : w.grownBy w' (blkOf v)) : RowO base2 e k2 v2 n2 xs2 w' :=
  h2.kept_of fun b hb2 => g.block b (h2.blk_lt hb2) fun he => by
    have h3 := h.blk_lt he.symm
    have h4 := (h2.blk hb2).1
    omega
theorem found_small {s : Shelf} (id : Int) (h : TameS s) : (foundN s id).tags.length ≤ 1000000 ∧ (foundN s id).sheets.length ≤ 1000000 := by
  unfold foundN
  split
  · rename_i h0
    have := h.1.2.2.2 _ (noteOf_mem (noteE_zero.1 h0).2)
    exact ⟨this.2.1, this.2.2.1⟩
  · simp
theorem books_small {s : Shelf} (h : TameS s) : (booksI s).length ≤ 1000000 := by
  unfold booksI
  split
  · rw [(sortI_perm _).length_eq]; unfold itemsB; rw [List.length_map]; exact h.1.1
  · simp
theorem notes_small {s : Shelf} (id : Int) (h : TameS s) : (notesI s id).length ≤ 1000000 := by
  unfold notesI
  split
  · rw [(sortI_perm _).length_eq]; unfold itemsN; rw [List.length_map]; exact Nat.le_trans (List.length_filter_le _ _) h.1.2.1
  · simp
set_option maxRecDepth 100000 in
set_option maxHeartbeats 16000000 in
theorem tells17_walk (s : Shelf) (bv nv : Value) (x : ActS) (w : World) (h : ShelfR w s bv nv) (hI : ∀ n ∈ s.notes, ∀ y ∈ n.sheets, Wf y) (hG : ∀ n ∈ s.notes, n.tags.length ≤ 9223372036854775807) (hT : Tabs w) :
    Calls Tryz.prog 3 #[shelfV s bv nv, .agg #[.int .i64 x.d, .int .i64 x.a, .int .i64 x.b, .string x.t]] w fun e w' => e = .returned (.bool true) ∧ Grow w w' := by
  have HTB := Lib.hid hT
  obtain ⟨xa, xc, rfl⟩ := h.1.mk
  obtain ⟨ya, yc, rfl⟩ := h.2.mk
  have HRS := Lib.hid h
  have HI := Lib.hid hI
  have HGT := Lib.hid hG
  have HXX := Lib.hid (two_boxes2 w (.cells #[.int .i64 s.nb, .int .i64 s.nn, .int .i64 s.ns, .slice xa s.books.length xc, .slice ya s.notes.length yc] 25) (.cells #[.int .i64 x.d, .int .i64 x.a, .int .i64 x.b, .string x.t] 27))
  clear h hI hG hT
  unfold shelfV
  go_enter Tryz.func3, Tryz.ntmps3
  go_upto_region 1 with (fail)
  generalize hV : (w.alloc (.cells #[.int .i64 s.nb, .int .i64 s.nn, .int .i64 s.ns, .slice xa s.books.length xc, .slice ya s.notes.length yc] 25)).alloc (.cells #[.int .i64 x.d, .int .i64 x.a, .int .i64 x.b, .string x.t] 27) = U1
  have gV : Grow w U1 := by rw [← hV]; exact ((Grow.refl w).alloc _).alloc _
  have HB1 : Hid (U1.heap[w.heap.size]? = some (shO s (.slice xa s.books.length xc) (.slice ya s.notes.length yc))) := by rw [← hV]; exact Lib.hid HXX.out.1
  have HB2 : Hid (U1.heap[w.heap.size + 1]? = some (.cells #[.int .i64 x.d, .int .i64 x.a, .int .i64 x.b, .string x.t] 27 (0, 0))) := by rw [← hV]; exact Lib.hid HXX.out.2
  clear hV HXX
  have GW := Lib.hid gV
  have HRW := Lib.hid (HRS.out.grow gV)
  clear gV
  have c := great_any s _ _ _ HRW.out HGT.out
  try unfold shelfV at c
  obtain ⟨⟨p0, p1, p2, p3, p4⟩, pz⟩ := n5 HB1.out
  go_wp2_with fail
  refine c.mono ?_
  clear c
  clear p0 p1 p2 p3 p4 pz
  rintro e U2 ⟨g, r, rfl, hr⟩
  replace GW := Lib.hid (GW.out.trans g)
  replace HRW := Lib.hid (HRW.out.grow g)
  replace HB1 := Lib.hid (Grow.blk g HB1.out)
  replace HB2 := Lib.hid (Grow.blk g HB2.out)
  clear g
  cases r with
  | true =>
    clear hr
    have c := awake17_any _ (HTB.out.below GW.out)
    go_wp2_with fail
    refine c.mono ?_
    rintro e UA ⟨rfl, gA⟩
    go_wp2_with fail
    go_ret
    exact ⟨rfl, GW.out.trans gA⟩
  | false =>
    have hlow := hr rfl
    have HZ := Lib.hid (show TameS s from ⟨hlow.tame, HI.out⟩)
    clear hr hlow
    obtain ⟨⟨q0, q1, q2, q3⟩, qz⟩ := n4 HB2.out
    have c := great17_any (.slice (some ⟨U2.heap.size, 0, none⟩) 1 1) [x] 1 (U2.alloc (.cells #[.int .i64 x.d, .int .i64 x.a, .int .i64 x.b, .string x.t] 27)) (lit_reads (R := ActSR) cellsActS (fun _ => rfl) U2 [x] 27 (fun x => rfl)) (by decide)
    by_cases hl : 60 < x.t.size
    · rw [great_yes x hl] at c
      clear hl
      go_wp2_with fail
      refine c.mono ?_
      clear c q0 q1 q2 q3 qz
      rintro e U3 ⟨rfl, rfl⟩
      replace GW := Lib.hid (GW.out.alloc (.cells #[.int .i64 x.d, .int .i64 x.a, .int .i64 x.b, .string x.t] 27))
      have c := awake17_any _ (HTB.out.below GW.out)
      go_wp2_with fail
      refine c.mono ?_
      rintro e UA ⟨rfl, gA⟩
      go_wp2_with fail
      go_ret
      exact ⟨rfl, GW.out.trans gA⟩
    rw [great_no x hl] at c
    have HL := Lib.hid hl
    clear hl
    go_wp2_with fail
    refine c.mono ?_
    clear c q0 q1 q2 q3 qz
    rintro e U3 ⟨rfl, rfl⟩
    have g : Grow U2 (U2.alloc (.cells #[.int .i64 x.d, .int .i64 x.a, .int .i64 x.b, .string x.t] 27)) := (Grow.refl U2).alloc _
    replace GW := Lib.hid (GW.out.trans g)
    replace HRW := Lib.hid (HRW.out.grow g)
    replace HB1 := Lib.hid (Grow.blk g HB1.out)
    replace HB2 := Lib.hid (Grow.blk g HB2.out)
    clear g
    generalize U2.alloc (.cells #[.int .i64 x.d, .int .i64 x.a, .int .i64 x.b, .string x.t] 27) = U3 at *
    have c := copy_any s _ _ U3 HRW.out HZ.out.1
    unfold shelfV at c
    obtain ⟨⟨p0, p1, p2, p3, p4⟩, pz⟩ := n5 HB1.out
    go_wp2_with fail
    refine c.mono ?_
    clear c
    clear p0 p1 p2 p3 p4 pz
    rintro e U4 ⟨wb, wn, Yw, rfl, how, hmw, g⟩
    obtain ⟨wba, wbc, rfl, -⟩ := how.books.slice
    obtain ⟨wna, wnc, rfl, -⟩ := how.notes.slice
    have hYw : Yw.length = s.notes.length := by rw [← hmw, List.length_map]
    rw [hYw] at how ⊢
    have hrw := own_shelf how hmw
    unfold shelfV
    go_upto_region 4 with (fail)
    generalize hV : U4.alloc (.cells #[.int .i64 s.nb, .int .i64 s.nn, .int .i64 s.ns, .slice wba s.books.length wbc, .slice wna s.notes.length wnc] 25) = V
    have gV : Grow U4 V := by rw [← hV]; exact (Grow.refl U4).alloc _
    have HB3 : Hid (V.heap[U4.heap.size]? = some (shO s (.slice wba s.books.length wbc) (.slice wna s.notes.length wnc))) := by rw [← hV]; exact Lib.hid (heap_alloc_new U4 _)
    have HRC := Lib.hid (hrw.grow gV)
    replace g := g.trans gV
    replace GW := Lib.hid (GW.out.trans g)
    replace HRW := Lib.hid (HRW.out.grow g)
    replace HB1 := Lib.hid (Grow.blk g HB1.out)
    replace HB2 := Lib.hid (Grow.blk g HB2.out)
    clear hV hrw how hmw hYw g gV
    have GV := Lib.hid (Grow.refl V)
    obtain ⟨S, hSe⟩ : ∃ S, (act17R s x.d x.a x.b x.t).s = S := ⟨_, rfl⟩
    have HTS := Lib.hid (show TameS S by rw [← hSe]; exact act17R_tame s x.d x.a x.b x.t)
    have c := both17_any s _ _ x.d x.a x.b x.t V HRW.out HZ.out (by have := HL.out; omega) (HTB.out.below GW.out)
    rw [hSe] at c
    unfold shelfV at c
    clear hSe
    obtain ⟨⟨p0, p1, p2, p3, p4⟩, pz⟩ := n5 HB1.out
    obtain ⟨⟨q0, q1, q2, q3⟩, qz⟩ := n4 HB2.out
    go_wp2_with fail
    refine c.mono ?_
    clear c p0 p1 p2 p3 p4 pz q0 q1 q2 q3 qz
    rintro e W4 ⟨xa', xc', ya', yc', Y', b2, bc2, n2, nc2, rfl, ho, hm, g⟩
    have HXB := Lib.hid (two_boxes2 W4 (.cells #[.int .i64 S.nb, .int .i64 S.nn, .int .i64 S.ns, .slice xa' S.books.length xc', .slice ya' S.notes.length yc'] 25) (.cells #[.int .i64 S.nb, .int .i64 S.nn, .int .i64 S.ns, .slice b2 S.books.length bc2, .slice n2 S.notes.length nc2] 25))
    go_upto_region 5 with (fail)
    generalize hV : (W4.alloc (.cells #[.int .i64 S.nb, .int .i64 S.nn, .int .i64 S.ns, .slice xa' S.books.length xc', .slice ya' S.notes.length yc'] 25)).alloc (.cells #[.int .i64 S.nb, .int .i64 S.nn, .int .i64 S.ns, .slice b2 S.books.length bc2, .slice n2 S.notes.length nc2] 25) = W5
    have gV : Grow W4 W5 := by rw [← hV]; exact ((Grow.refl W4).alloc _).alloc _
    have HB4 : Hid (W5.heap[W4.heap.size]? = some (shO S (.slice xa' S.books.length xc') (.slice ya' S.notes.length yc'))) := by rw [← hV]; exact Lib.hid HXB.out.1
    have HO := Lib.hid (ho.grow gV)
    have HM := Lib.hid hm
    replace g := g.trans gV
    replace GV := Lib.hid (GV.out.trans g)
    clear hV ho hm g gV HXB
    have kM := fun y : Gr W5 => mayS_any s _ _ y.W ((HRW.out.grow GV.out).grow y.g) HZ.out ((HTB.out.below (GW.out.trans GV.out)).below y.g)
    have kR := fun y : Gr W5 => refMay_any s _ _ y.W ((HRW.out.grow GV.out).grow y.g) HZ.out
    unfold shelfV at kM kR
    obtain ⟨⟨p0, p1, p2, p3, p4⟩, pz⟩ := n5 (GV.out.blk HB1.out)
    have hmm : (mayS s != mayS s) = false := by simp
    refine wp_region_gr (by kernel_rfl) (by kernel_rfl) ?_
    repeat (first | (go_big_quiet_step (first | (go_at_call 9; exact Calls.gr (kM _)) | (go_at_call 10; exact Calls.gr (kR _)))) | rw [Bool.not_true] | rw [hmm])
    refine wpQuiet_nil ?_
    rintro _ ⟨yy, rfl⟩
    have g := yy.g
    replace GV := Lib.hid (GV.out.trans g)
    replace HB4 := Lib.hid (Grow.blk g HB4.out)
    replace HO := Lib.hid (HO.out.grow g)
    generalize yy.W = W6 at *
    clear g kM kR p0 p1 p2 p3 p4 pz hmm yy
    have c := overShelf_any S _ _ Y' V.heap.size W6 HO.out HM.out HTS.out.1 GV.out.size
    unfold shelfV at c
    obtain ⟨⟨p0, p1, p2, p3, p4⟩, pz⟩ := n5 HB4.out
    go_wp2_with fail
    refine c.mono ?_
    clear c
    clear p0 p1 p2 p3 p4 pz
    rintro e W7 ⟨rfl, b8⟩
    replace GV := Lib.hid (show Grow V W7 from GV.out.trans_below b8)
    clear b8 HO HM HB4 HTS
    obtain ⟨M, hM⟩ : ∃ M, booksI s = M := ⟨_, rfl⟩
    have HMS := Lib.hid (show M.length ≤ 1000000 by rw [← hM]; exact books_small HZ.out)
    obtain ⟨N, hN⟩ : ∃ N, notesI s x.a = N := ⟨_, rfl⟩
    have HNS := Lib.hid (show N.length ≤ 1000000 by rw [← hN]; exact notes_small x.a HZ.out)
    obtain ⟨E, hE⟩ : ∃ E, dropE s x.a = E := ⟨_, rfl⟩
    obtain ⟨Q, hQ⟩ : ∃ Q, foundN s x.a = Q := ⟨_, rfl⟩
    obtain ⟨B, hB⟩ : ∃ B, foundB s x.a = B := ⟨_, rfl⟩
    have HQS := Lib.hid (show Q.tags.length ≤ 1000000 ∧ Q.sheets.length ≤ 1000000 by rw [← hQ]; exact found_small x.a HZ.out)
    have HHM := Lib.hid hM
    have HHN := Lib.hid hN
    have HHE := Lib.hid hE
    have HHQ := Lib.hid hQ
    have HHB := Lib.hid hB
    clear hM hN hE hQ hB
    have c := books_any s _ _ W7 (HRW.out.grow GV.out) HZ.out (HTB.out.below (GW.out.trans GV.out))
    unfold shelfV at c
    obtain ⟨⟨p0, p1, p2, p3, p4⟩, pz⟩ := n5 (GV.out.blk HB1.out)
    go_wp2_with fail
    refine c.mono ?_
    clear c
    clear p0 p1 p2 p3 p4 pz
    rintro e W8 ⟨v, rfl, g, hr⟩
    rw [HHM.out] at hr
    obtain ⟨ma, mc, ev, -⟩ := hr.slice
    subst ev
    have HRM := Lib.hid hr
    have G7 := Lib.hid g
    have HBM := Lib.hid GV.out.size
    replace GV := Lib.hid (GV.out.trans g)
    clear g hr
    have c := notes_any s _ _ x.a W8 (HRW.out.grow GV.out) HZ.out (HTB.out.below (GW.out.trans GV.out))
    unfold shelfV at c
    obtain ⟨⟨p0, p1, p2, p3, p4⟩, pz⟩ := n5 (GV.out.blk HB1.out)
    obtain ⟨⟨q0, q1, q2, q3⟩, qz⟩ := n4 (GV.out.blk HB2.out)
    go_wp2_with fail
    refine c.mono ?_
    clear c
    clear p0 p1 p2 p3 p4 pz q0 q1 q2 q3 qz
    rintro e W9 ⟨v, rfl, g, hr⟩
    rw [HHN.out] at hr
    rw [HHE.out]
    obtain ⟨na, nc, ev, -⟩ := hr.slice
    subst ev
    have HRN := Lib.hid hr
    have HBN := Lib.hid (HRM.out)
    have HBV8 := Lib.hid GV.out.size
    have G8 := Lib.hid g
    replace GV := Lib.hid (GV.out.trans g)
    replace HRM := Lib.hid (HRM.out.grow g)
    replace G7 := Lib.hid (G7.out.trans g)
    clear g hr
    have c := refLNotes_any s _ _ x.a W9 (HRW.out.grow GV.out) HZ.out
    unfold shelfV at c
    obtain ⟨⟨p0, p1, p2, p3, p4⟩, pz⟩ := n5 (GV.out.blk HB1.out)
    obtain ⟨⟨q0, q1, q2, q3⟩, qz⟩ := n4 (GV.out.blk HB2.out)
    go_wp2_with fail
    refine c.mono ?_
    clear c
    clear p0 p1 p2 p3 p4 pz q0 q1 q2 q3 qz
    rintro e W10 ⟨v, rfl, g, hr⟩
    rw [HHN.out] at hr
    rw [HHE.out]
    obtain ⟨na2, nc2, ev, -⟩ := hr.slice
    subst ev
    have HRN2 := Lib.hid (row_items hr)
    replace GV := Lib.hid (GV.out.trans g)
    replace HRM := Lib.hid (HRM.out.grow g)
    replace G7 := Lib.hid (G7.out.trans g)
    replace HRN := Lib.hid (HRN.out.grow g)
    replace G8 := Lib.hid (G8.out.trans g)
    clear g hr
    have HBV10 := Lib.hid GV.out.size
    have c := (find_any s _ _ x.a W10 (HRW.out.grow GV.out) HZ.out (HTB.out.below (GW.out.trans GV.out))).mono fun _ _ => RetFind.out2 HHQ.out HHB.out
    unfold shelfV at c
    obtain ⟨⟨p0, p1, p2, p3, p4⟩, pz⟩ := n5 (GV.out.blk HB1.out)
    obtain ⟨⟨q0, q1, q2, q3⟩, qz⟩ := n4 (GV.out.blk HB2.out)
    go_wp2_with fail
    refine c.mono ?_
    clear c
    clear p0 p1 p2 p3 p4 pz q0 q1 q2 q3 qz
    rintro e W11 ⟨ta_a, tc_a, sa_a, sc_a, g, rfl, ht, hs⟩
    go_upto_region 12 with (fail)
    generalize hV : W11.alloc (.cells #[.int .i64 Q.id, .int .i64 Q.book, .string Q.name, .slice ta_a Q.tags.length tc_a, .slice sa_a Q.sheets.length sc_a] 46) = W11b
    have gV : Grow W11 W11b := by rw [← hV]; exact (Grow.refl W11).alloc _
    have HBa : Hid (W11b.heap[W11.heap.size]? = some (.cells #[.int .i64 Q.id, .int .i64 Q.book, .string Q.name, .slice ta_a Q.tags.length tc_a, .slice sa_a Q.sheets.length sc_a] 46 (0, 0))) := by rw [← hV]; exact Lib.hid (heap_alloc_new W11 _)
    have HT_a := Lib.hid (ht.grow gV)
    have HI_a := Lib.hid (hs.grow gV)
    have HBV_a := Lib.hid GV.out.size
    replace g := g.trans gV
    have G10 := Lib.hid g
    replace GV := Lib.hid (GV.out.trans g)
    replace HRM := Lib.hid (HRM.out.grow g)
    replace G7 := Lib.hid (G7.out.trans g)
    replace HRN := Lib.hid (HRN.out.grow g)
    replace G8 := Lib.hid (G8.out.trans g)
    replace HRN2 := Lib.hid (Items.growI HRN2.out g)
    clear hV ht hs g gV
    have c := (refFind_any s _ _ x.a W11b (HRW.out.grow GV.out) HZ.out).mono fun _ _ => RetFind.out2 HHQ.out HHB.out
    unfold shelfV at c
    obtain ⟨⟨p0, p1, p2, p3, p4⟩, pz⟩ := n5 (GV.out.blk HB1.out)
    obtain ⟨⟨q0, q1, q2, q3⟩, qz⟩ := n4 (GV.out.blk HB2.out)
    go_wp2_with fail
    refine c.mono ?_
    clear c
    clear p0 p1 p2 p3 p4 pz q0 q1 q2 q3 qz
    rintro e W12 ⟨ta_b, tc_b, sa_b, sc_b, g, rfl, ht, hs⟩
    go_upto_region 13 with (fail)
    generalize hV : W12.alloc (.cells #[.int .i64 Q.id, .int .i64 Q.book, .string Q.name, .slice ta_b Q.tags.length tc_b, .slice sa_b Q.sheets.length sc_b] 46) = W12b
    have gV : Grow W12 W12b := by rw [← hV]; exact (Grow.refl W12).alloc _
    have HBb : Hid (W12b.heap[W12.heap.size]? = some (.cells #[.int .i64 Q.id, .int .i64 Q.book, .string Q.name, .slice ta_b Q.tags.length tc_b, .slice sa_b Q.sheets.length sc_b] 46 (0, 0))) := by rw [← hV]; exact Lib.hid (heap_alloc_new W12 _)
    have HT_b := Lib.hid (Texts.grow (row_texts ht) gV)
    have HI_b := Lib.hid (Ints.grow (row_ints hs) gV)
    have HBV_b := Lib.hid GV.out.size
    replace g := g.trans gV
    replace GV := Lib.hid (GV.out.trans g)
    replace HRM := Lib.hid (HRM.out.grow g)
    replace G7 := Lib.hid (G7.out.trans g)
    replace HRN := Lib.hid (HRN.out.grow g)
    replace G8 := Lib.hid (G8.out.trans g)
    replace HRN2 := Lib.hid (Items.growI HRN2.out g)
    replace G10 := Lib.hid (G10.out.trans g)
    replace HBa := Lib.hid (Grow.blk g HBa.out)
    replace HT_a := Lib.hid (HT_a.out.grow g)
    replace HI_a := Lib.hid (HI_a.out.grow g)
    clear hV ht hs g gV
    have hEE : (E == E) = true := beq_self_eq_true E
    have hBB : (B == B) = true := beq_self_eq_true B
    have c := refLBooks_any s _ _ W12b (HRW.out.grow GV.out) HZ.out
    unfold shelfV at c
    obtain ⟨⟨p0, p1, p2, p3, p4⟩, pz⟩ := n5 (GV.out.blk HB1.out)
    go_wp2_with fail
    refine c.mono ?_
    clear c
    clear p0 p1 p2 p3 p4 pz
    rintro e W13 ⟨v, rfl, g, hr⟩
    rw [HHM.out] at hr
    obtain ⟨ma2, mc2, ev, -⟩ := hr.slice
    subst ev
    have HRM2 := Lib.hid (row_items hr)
    replace GV := Lib.hid (GV.out.trans g)
    replace HRM := Lib.hid (HRM.out.grow g)
    replace G7 := Lib.hid (G7.out.trans g)
    replace HRN := Lib.hid (HRN.out.grow g)
    replace G8 := Lib.hid (G8.out.trans g)
    replace HRN2 := Lib.hid (Items.growI HRN2.out g)
    replace G10 := Lib.hid (G10.out.trans g)
    replace HBa := Lib.hid (Grow.blk g HBa.out)
    replace HT_a := Lib.hid (HT_a.out.grow g)
    replace HI_a := Lib.hid (HI_a.out.grow g)
    replace HBb := Lib.hid (Grow.blk g HBb.out)
    replace HT_b := Lib.hid (Texts.grow HT_b.out g)
    replace HI_b := Lib.hid (Ints.grow HI_b.out g)
    clear g hr
    have c := sameItems_any _ _ M M W13 (row_items HRM.out) HRM2.out (by have := HMS.out; omega)
    rw [same_it] at c
    go_wp2_with fail
    refine c.mono ?_
    clear c
    rintro e W14 ⟨rfl, g⟩
    replace GV := Lib.hid (GV.out.trans g)
    replace HRM := Lib.hid (HRM.out.grow g)
    replace G7 := Lib.hid (G7.out.trans g)
    replace HRN := Lib.hid (HRN.out.grow g)
    replace G8 := Lib.hid (G8.out.trans g)
    replace HRN2 := Lib.hid (Items.growI HRN2.out g)
    replace G10 := Lib.hid (G10.out.trans g)
    replace HBa := Lib.hid (Grow.blk g HBa.out)
    replace HT_a := Lib.hid (HT_a.out.grow g)
    replace HI_a := Lib.hid (HI_a.out.grow g)
    replace HBb := Lib.hid (Grow.blk g HBb.out)
    replace HT_b := Lib.hid (Texts.grow HT_b.out g)
    replace HI_b := Lib.hid (Ints.grow HI_b.out g)
    replace HRM2 := Lib.hid (Items.growI HRM2.out g)
    clear g
    have c := sameItems_any _ _ N N W14 (row_items HRN.out) HRN2.out (by have := HNS.out; omega)
    rw [same_it] at c
    go_wp2_with fail
    refine c.mono ?_
    clear c
    rintro e W15 ⟨rfl, g⟩
    replace GV := Lib.hid (GV.out.trans g)
    replace HRM := Lib.hid (HRM.out.grow g)
    replace G7 := Lib.hid (G7.out.trans g)
    replace HRN := Lib.hid (HRN.out.grow g)
    replace G8 := Lib.hid (G8.out.trans g)
    replace HRN2 := Lib.hid (Items.growI HRN2.out g)
    replace G10 := Lib.hid (G10.out.trans g)
    replace HBa := Lib.hid (Grow.blk g HBa.out)
    replace HT_a := Lib.hid (HT_a.out.grow g)
    replace HI_a := Lib.hid (HI_a.out.grow g)
    replace HBb := Lib.hid (Grow.blk g HBb.out)
    replace HT_b := Lib.hid (Texts.grow HT_b.out g)
    replace HI_b := Lib.hid (Ints.grow HI_b.out g)
    replace HRM2 := Lib.hid (Items.growI HRM2.out g)
    clear g
    have c := numOf_any E W15
    go_wp2_with fail
    refine c.mono ?_
    clear c
    rintro e W16 ⟨rfl, rfl⟩
    have c := sameNote_any Q Q _ _ _ _ W16 (row_texts HT_a.out) (row_ints HI_a.out) HT_b.out HI_b.out (by have := HQS.out.1; omega) (by have := HQS.out.2; omega)
    rw [same_nt] at c
    unfold noteV at c
    obtain ⟨⟨p0, p1, p2, p3, p4⟩, pz⟩ := n5 HBa.out
    obtain ⟨⟨r0, r1, r2, r3, r4⟩, rz⟩ := n5 HBb.out
    go_wp2_with fail
    refine c.mono ?_
    clear c p0 p1 p2 p3 p4 pz r0 r1 r2 r3 r4 rz
    rintro e W17 ⟨rfl, g⟩
    replace GV := Lib.hid (GV.out.trans g)
    replace HRM := Lib.hid (HRM.out.grow g)
    replace G7 := Lib.hid (G7.out.trans g)
    replace HRN := Lib.hid (HRN.out.grow g)
    replace G8 := Lib.hid (G8.out.trans g)
    replace HRN2 := Lib.hid (Items.growI HRN2.out g)
    replace G10 := Lib.hid (G10.out.trans g)
    replace HBa := Lib.hid (Grow.blk g HBa.out)
    replace HT_a := Lib.hid (HT_a.out.grow g)
    replace HI_a := Lib.hid (HI_a.out.grow g)
    replace HBb := Lib.hid (Grow.blk g HBb.out)
    replace HT_b := Lib.hid (Texts.grow HT_b.out g)
    replace HI_b := Lib.hid (Ints.grow HI_b.out g)
    replace HRM2 := Lib.hid (Items.growI HRM2.out g)
    clear g hEE hBB HBb HT_b HI_b HRM2 HRN2
    go_upto_region 14 with (fail)
    have HZ7 := Lib.hid G7.out.size
    have HZ8 := Lib.hid G8.out.size
    have HZ10 := Lib.hid G10.out.size
    clear G7 G8 G10
    have c := overItems_any _ M.length W7.heap.size _ W17 HRM.out (by have := HMS.out; omega) HZ7.out
    go_wp2_with fail
    refine c.mono ?_
    clear c
    rintro e W18 ⟨rfl, g⟩
    replace GV := Lib.hid (show Grow V W18 from Below.grown GV.out g GV.out.size (fun k hk => Nat.le_trans HBM.out (HRM.out.blk hk).1))
    have kk := HRM.out.keeps g
    replace HRN := Lib.hid (row_apart HBN.out HRN.out (Nat.le_refl _) g)
    replace HZ8 := Lib.hid (Nat.le_trans HZ8.out g.size)
    replace HZ10 := Lib.hid (Nat.le_trans HZ10.out g.size)
    replace HBa := Lib.hid (kk _ _ _ _ (by decide) HBa.out)
    replace HT_a := Lib.hid (HT_a.out.kept (by decide) kk)
    replace HI_a := Lib.hid (HI_a.out.kept (by decide) kk)
    clear kk g
    clear HRM HBN HZ7
    have c := overItems_any _ N.length W8.heap.size _ W18 HRN.out (by have := HNS.out; omega) HZ8.out
    go_wp2_with fail
    refine c.mono ?_
    clear c
    rintro e W19 ⟨rfl, g⟩
    replace GV := Lib.hid (show Grow V W19 from Below.grown GV.out g GV.out.size (fun k hk => Nat.le_trans HBV8.out (HRN.out.blk hk).1))
    have kk := HRN.out.keeps g
    replace HZ10 := Lib.hid (Nat.le_trans HZ10.out g.size)
    replace HBa := Lib.hid (kk _ _ _ _ (by decide) HBa.out)
    replace HT_a := Lib.hid (HT_a.out.kept (by decide) kk)
    replace HI_a := Lib.hid (HI_a.out.kept (by decide) kk)
    clear kk g
    clear HRN HZ8
    obtain ⟨⟨p0, p1, p2, p3, p4⟩, pz⟩ := n5 HBa.out
    have c := overTexts_any _ Q.tags.length W10.heap.size _ W19 HT_a.out (by have := HQS.out.1; omega) HZ10.out
    go_wp2_with fail
    refine c.mono ?_
    clear c
    rintro e W20 ⟨rfl, g⟩
    replace GV := Lib.hid (show Grow V W20 from Below.grown GV.out g GV.out.size (fun k hk => Nat.le_trans HBV10.out (HT_a.out.blk hk).1))
    have kk := HT_a.out.keeps g
    replace HZ10 := Lib.hid (Nat.le_trans HZ10.out g.size)
    clear p0 p1 p2 p3 p4 pz
    replace HBa := Lib.hid (kk _ _ _ _ (by decide) HBa.out)
    replace HI_a := Lib.hid (HI_a.out.kept (by decide) kk)
    clear kk g
    clear HT_a
    obtain ⟨⟨p0, p1, p2, p3, p4⟩, pz⟩ := n5 HBa.out
    have c := overInts_any _ Q.sheets.length W10.heap.size _ W20 HI_a.out (by have := HQS.out.2; omega) HZ10.out
    go_wp2_with fail
    refine c.mono ?_
    clear c
    rintro e W21 ⟨rfl, g⟩
    replace GV := Lib.hid (show Grow V W21 from Below.grown GV.out g GV.out.size (fun k hk => Nat.le_trans HBV10.out (HI_a.out.blk hk).1))
    have kk := HI_a.out.keeps g
    clear p0 p1 p2 p3 p4 pz
    clear kk g
    clear HI_a HZ10 HBa
    have c := sameShelf_any s s _ _ _ _ W21 (HRW.out.grow GV.out) (HRC.out.grow GV.out) HZ.out.1
    rw [rsame] at c
    unfold shelfV at c
    obtain ⟨⟨p0, p1, p2, p3, p4⟩, pz⟩ := n5 (GV.out.blk HB1.out)
    obtain ⟨⟨r0, r1, r2, r3, r4⟩, rz⟩ := n5 (GV.out.blk HB3.out)
    go_wp2_with fail
    refine c.mono ?_
    clear c p0 p1 p2 p3 p4 pz r0 r1 r2 r3 r4 rz
    rintro e W22 ⟨rfl, g⟩
    replace GW := Lib.hid (GW.out.trans (GV.out.trans g))
    have c := awake17_any _ (HTB.out.below GW.out)
    go_wp2_with fail
    refine c.mono ?_
    rintro e UA ⟨rfl, gA⟩
    go_wp2_with fail
    go_ret
    exact ⟨rfl, GW.out.trans gA⟩
theorem tells17_law (s : Shelf) (bv nv : Value) (x : ActS) (w : World) (h : ShelfArg w s bv nv) (hT : Tabs w) :
    Calls Tryz.prog 3 #[shelfV s bv nv, .agg (cellsActS x).toArray] w fun e w' => e = .returned (.bool true) ∧ Grow w w' := tells17_walk s bv nv x w h.rows h.ints h.tags hT
end Go.Proofs.YtnajccljdjllgaaGreatDoor
