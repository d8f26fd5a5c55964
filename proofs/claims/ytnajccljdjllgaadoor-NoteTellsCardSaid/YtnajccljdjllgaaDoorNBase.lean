/- note.find, note.sheet, note.Sheet; slices.IndexFunc over texts; the predicate of Untag. -/
import Derived.Test.YtnajccljdjllgaaDoorRowS
import Derived.Test.YtnajccljdjllgaaDoorDel
import Derived.Test.YtnajccljdjllgaaDoorOwnV
set_option linter.unusedVariables false
set_option linter.unusedSimpArgs false
namespace Go.Proofs.YtnajccljdjllgaaDoor
open Go.RowKit Go.Lib
set_option maxRecDepth 100000 in
theorem nfind1_any (x : Note) (tv sv : Value) (n : Int) (B : Nat) (w : World) (hb : B < w.heap.size) (h : w.cell? ⟨B, 0, none⟩ = some (.int .i64 n)) :
    Calls Tryd.prog 110 #[noteV x tv sv, .pointer (some ⟨B, 0, none⟩)] w fun e w' => e = .returned (.bool (x.id == n)) ∧ Grow w w' := by
  unfold noteV
  go_enter Tryd.func110, Tryd.ntmps110
  go_wp2_with fail
  go_ret
  exact ⟨rfl, (Grow.refl w).alloc _⟩
def nfI (s : Shelf) (id : Int) : Int := if noteE s id = 0 then noteIx s id else 0
set_option maxRecDepth 100000 in
set_option maxHeartbeats 1000000 in
theorem nfind_any (s : Shelf) (bv nv : Value) (id : Int) (w : World) (h : ShelfR w s bv nv) (hz : TameS s) (hT : Tabs w) :
    Calls Tryd.prog 84 #[shelfV s bv nv, .int .i64 id] w fun e w' => e = .returned (.tuple #[.int .i64 (nfI s id), .int .i64 (noteE s id)]) ∧ Grow w w' := by
  have g0 : Grow w ((w.alloc (.cells #[.int .i64 s.nb, .int .i64 s.nn, .int .i64 s.ns, bv, nv] 28)).alloc (.cells #[.int .i64 id] 3)) := ((Grow.refl w).alloc _).alloc _
  have cM := mayS_any s bv nv _ (h.grow g0) hz (hT.below g0)
  have HXX := Lib.hid (two_boxes2 w (shB s bv nv) (.cells #[.int .i64 id] 3))
  have cI := fun W (g : Grow w W) (hb : w.heap.size + 1 < W.heap.size) (hc : W.cell? ⟨w.heap.size + 1, 0, none⟩ = some (.int .i64 id)) => indexNotes nv s.notes 110 #[.pointer (some ⟨w.heap.size + 1, 0, none⟩)] (fun x => x.id == id) W (Notes.grow h.2 g) (by have := hz.1.2.1; omega) (fun _ _ => rfl)
    (fun V x _ _ _ _ g' _ => nfind1_any x _ _ id (w.heap.size + 1) V (Nat.lt_of_lt_of_le hb g'.size) (by rw [g'.cells _ _ hb]; exact hc))
  rw [show idx (fun x : Note => x.id == id) s.notes = noteIx s id from rfl] at cI
  have hnd := idx_bd (fun x : Note => x.id == id) s.notes
  rw [show idx (fun x : Note => x.id == id) s.notes = noteIx s id from rfl] at hnd
  obtain ⟨a1, c1, rfl⟩ := h.1.mk
  obtain ⟨a2, c2, rfl⟩ := h.2.mk
  have HG0 := Lib.hid g0
  clear h hz hT g0
  unfold shelfV at *
  cases hm : mayS s with
  | false =>
    have HM := Lib.hid (show noteE s id = 2 by unfold noteE; rw [if_pos hm])
    rw [hm] at cM
    clear hm cI
    go_enter Tryd.func84, Tryd.ntmps84
    go_wp2_with fail
    refine cM.mono ?_
    rintro e w1 ⟨rfl, g1⟩
    go_wp2_with fail
    go_ret2
    refine ⟨by unfold nfI; rw [HM.out]; rfl, HG0.out.trans g1⟩
  | true =>
    have HM := Lib.hid hm
    rw [hm] at cM
    clear hm
    go_enter Tryd.func84, Tryd.ntmps84
    go_wp2_with fail
    refine cM.mono ?_
    rintro e w1 ⟨rfl, g1⟩
    have hB := g1.blk HXX.out.1
    have hI := g1.blk HXX.out.2
    obtain ⟨⟨p0, p1, p2, p3, p4⟩, hpz⟩ := n5 hB
    have hIz : w.heap.size + 1 < w1.heap.size := (Array.getElem?_eq_some_iff.1 hI).1
    have hIc : w1.cell? ⟨w.heap.size + 1, 0, none⟩ = some (.int .i64 id) := (cell_of_row w1 _ 0 _ _ _ hI).trans rfl
    have cI1 := cI w1 (HG0.out.trans g1) hIz hIc
    have gw1 := HG0.out.trans g1
    clear cM cI hB hI
    by_cases hi : noteIx s id < 0
    · have HI := Lib.hid (show noteE s id = 4 by unfold noteE; rw [if_neg (by rw [HM.out]; simp), if_pos hi])
      go_wp2_with fail
      refine cI1.mono ?_
      rintro e w2 ⟨rfl, g2⟩
      go_wp2_with fail
      go_ret2
      exact ⟨by unfold nfI; rw [HI.out]; rfl, gw1.trans g2⟩
    · have HI := Lib.hid (show noteE s id = 0 from noteE_zero.2 ⟨HM.out, by omega⟩)
      go_wp2_with fail
      refine cI1.mono ?_
      rintro e w2 ⟨rfl, g2⟩
      go_wp2_with fail
      go_ret2
      exact ⟨by unfold nfI; rw [HI.out]; rfl, gw1.trans g2⟩
theorem noteE_cases (s : Shelf) (id : Int) : noteE s id = 0 ∨ (noteE s id ≠ 0 ∧ (noteE s id == 0) = false) := by
  by_cases h : noteE s id = 0
  · exact .inl h
  · exact .inr ⟨h, beq_eq_false_iff_ne.2 h⟩
theorem tagE_of {s : Shelf} {id : Int} (h : noteE s id ≠ 0) (t : ByteArray) : tagE s id t = noteE s id := by
  unfold noteE at h ⊢
  unfold tagE
  cases hm : mayS s
  · simp
  · by_cases h2 : noteIx s id < 0
    · simp [h2]
    · simp [h2, hm] at h
theorem untagE_of {s : Shelf} {id : Int} (h : noteE s id ≠ 0) (t : ByteArray) : untagE s id t = noteE s id := by
  unfold noteE at h ⊢
  unfold untagE
  cases hm : mayS s
  · simp
  · by_cases h2 : noteIx s id < 0
    · simp [h2]
    · simp [h2, hm] at h
theorem appendE_of {s : Shelf} {id : Int} (h : noteE s id ≠ 0) : appendE s id = noteE s id := by
  unfold noteE at h ⊢
  unfold appendE
  cases hm : mayS s
  · simp
  · by_cases h2 : noteIx s id < 0
    · simp [h2]
    · simp [h2, hm] at h
theorem sheetE_of {s : Shelf} {id : Int} (h : noteE s id ≠ 0) (k : Int) : sheetE s id k = noteE s id := by
  unfold noteE at h ⊢
  unfold sheetE
  cases hm : mayS s
  · simp
  · by_cases h2 : noteIx s id < 0
    · simp [h2]
    · simp [h2, hm] at h
theorem note_here {s : Shelf} {id : Int} (h : noteE s id = 0) : ∃ i : Nat, nfI s id = i ∧ noteIx s id = i ∧ i < s.notes.length ∧ s.notes[i]? = some (noteOf s id) ∧ (noteOf s id).id = id := by
  obtain ⟨h0, h1⟩ := noteE_zero.1 h
  obtain ⟨h2, h3⟩ := noteOf_get h1
  refine ⟨(noteIx s id).toNat, ?_, by omega, (List.getElem?_eq_some_iff.1 h2).1, h2, h3⟩
  unfold nfI; rw [if_pos h]; omega
def shI (s : Shelf) (id k : Int) : Int := if sheetE s id k = 0 then noteIx s id else 0
set_option maxRecDepth 100000 in
set_option maxHeartbeats 1000000 in
theorem nsheet_any (s : Shelf) (bv nv : Value) (id k : Int) (w : World) (h : ShelfR w s bv nv) (hz : TameS s) (hT : Tabs w) :
    Calls Tryd.prog 56 #[shelfV s bv nv, .int .i64 id, .int .i64 k] w fun e w' => e = .returned (.tuple #[.int .i64 (shI s id k), .int .i64 (sheetE s id k)]) ∧ Grow w w' := by
  have g0 : Grow w (w.alloc (.cells #[.int .i64 s.nb, .int .i64 s.nn, .int .i64 s.ns, bv, nv] 28)) := (Grow.refl w).alloc _
  have cF := nfind_any s bv nv id _ (h.grow g0) hz (hT.below g0)
  have HBX := Lib.hid (heap_alloc_new w (shB s bv nv))
  obtain ⟨a1, c1, rfl⟩ := h.1.mk
  obtain ⟨a2, c2, rfl⟩ := h.2.mk
  have HG0 := Lib.hid g0
  have HH := Lib.hid h
  clear h hz hT g0
  unfold shelfV at *
  rcases noteE_cases s id with h0 | ⟨h0, h1⟩
  · have HN0 := Lib.hid h0
    obtain ⟨i, hi1, hi2, hil, hx, hxid⟩ := note_here h0
    rw [h0, hi1] at cF
    have HII := Lib.hid hi2
    have HX := Lib.hid hx
    generalize hxx : noteOf s id = x at hx
    have HXX := Lib.hid hxx
    have hil' : (i : Int) < s.notes.length := by omega
    clear h0 hi1 hi2 hxid hxx
    go_enter Tryd.func56, Tryd.ntmps56
    go_wp2_with fail
    refine cF.mono ?_
    rintro e w1 ⟨rfl, g1⟩
    obtain ⟨⟨p0, p1, p2, p3, p4⟩, hpz⟩ := n5 (g1.blk HBX.out)
    have gw1 := HG0.out.trans g1
    obtain ⟨nb, off, tv, sv, ea, hnb, -, -, -, -, n4, -, hsv⟩ := Notes.at (Notes.grow HH.out.2 gw1) hx
    obtain ⟨sa, sc, esv⟩ := hsv.mk
    subst ea esv
    clear cF hx hsv g1
    have hE : sheetE s id k = if k < 0 ∨ (x.sheets.length : Int) ≤ k then 2 else 0 := by
      obtain ⟨m, i0⟩ := noteE_zero.1 HN0.out
      unfold sheetE
      rw [if_neg (by rw [m]; simp), if_neg (by omega), HXX.out]
    have HE := Lib.hid hE
    clear hE
    by_cases hk : k < 0
    · have HK := Lib.hid hk
      go_wp2_with fail
      go_ret2
      have : sheetE s id k = 2 := by rw [HE.out, if_pos (.inl HK.out)]
      exact ⟨by unfold shI; rw [this]; rfl, gw1⟩
    · by_cases hk2 : (x.sheets.length : Int) ≤ k
      · have HK := Lib.hid hk2
        go_wp2_with fail
        go_ret2
        have : sheetE s id k = 2 := by rw [HE.out, if_pos (.inr HK.out)]
        exact ⟨by unfold shI; rw [this]; rfl, gw1⟩
      · have HK := Lib.hid (show ¬ (k < 0 ∨ (x.sheets.length : Int) ≤ k) by omega)
        go_wp2_with fail
        go_ret2
        have : sheetE s id k = 0 := by rw [HE.out, if_neg HK.out]
        exact ⟨by unfold shI; rw [this, if_pos rfl, HII.out]; rfl, gw1⟩
  · have HE := Lib.hid (sheetE_of h0 k)
    have HF := Lib.hid (show nfI s id = 0 by unfold nfI; rw [if_neg h0])
    have HS := Lib.hid (show shI s id k = 0 by unfold shI; rw [sheetE_of h0 k, if_neg h0])
    rw [HF.out] at cF
    generalize noteE s id = n at *
    go_enter Tryd.func56, Tryd.ntmps56
    go_wp2_with fail
    refine cF.mono ?_
    rintro e w1 ⟨rfl, g1⟩
    obtain ⟨⟨p0, p1, p2, p3, p4⟩, hpz⟩ := n5 (g1.blk HBX.out)
    go_wp2_with fail
    go_ret2
    exact ⟨by rw [HS.out, HE.out]; rfl, HG0.out.trans g1⟩
def sheetV (s : Shelf) (id k : Int) : Int := if sheetE s id k = 0 then sheetN s id k else 0
theorem sheet_here {s : Shelf} {id k : Int} (h : sheetE s id k = 0) : ∃ i q : Nat, shI s id k = i ∧ noteIx s id = i ∧ k = q ∧ i < s.notes.length ∧ s.notes[i]? = some (noteOf s id) ∧ (noteOf s id).id = id ∧ (noteOf s id).sheets[q]? = some (sheetN s id k) ∧ sheetV s id k = sheetN s id k := by
  obtain ⟨h0, h1, h2, h3⟩ := sheetE_zero.1 h
  obtain ⟨i, -, i2, i3, i4, i5⟩ := note_here (noteE_zero.2 ⟨h0, h1⟩)
  have hq : k.toNat < (noteOf s id).sheets.length := by omega
  refine ⟨i, k.toNat, by unfold shI; rw [if_pos h]; exact i2, i2, by omega, i3, i4, i5, ?_, by unfold sheetV; rw [if_pos h]⟩
  unfold sheetN
  rw [List.getD_eq_getElem?_getD, List.getElem?_eq_getElem hq]; rfl
set_option maxRecDepth 100000 in
set_option maxHeartbeats 1000000 in
theorem nSheet_any (s : Shelf) (bv nv : Value) (id k : Int) (w : World) (h : ShelfR w s bv nv) (hz : TameS s) (hT : Tabs w) :
    Calls Tryd.prog 17 #[shelfV s bv nv, .int .i64 id, .int .i64 k] w fun e w' => e = .returned (.tuple #[.int .i64 (sheetV s id k), .int .i64 (sheetE s id k)]) ∧ Grow w w' := by
  have g0 : Grow w (w.alloc (.cells #[.int .i64 s.nb, .int .i64 s.nn, .int .i64 s.ns, bv, nv] 28)) := (Grow.refl w).alloc _
  have cF := nsheet_any s bv nv id k _ (h.grow g0) hz (hT.below g0)
  have HBX := Lib.hid (heap_alloc_new w (shB s bv nv))
  obtain ⟨a1, c1, rfl⟩ := h.1.mk
  obtain ⟨a2, c2, rfl⟩ := h.2.mk
  have HG0 := Lib.hid g0
  have HH := Lib.hid h
  clear h hz hT g0
  unfold shelfV at *
  by_cases h0 : sheetE s id k = 0
  · have HN0 := Lib.hid h0
    obtain ⟨i, q, hi1, hi2, rfl, hil, hx, hxid, hq, hv⟩ := sheet_here h0
    rw [h0, hi1] at cF
    have HV := Lib.hid hv
    generalize noteOf s id = x at hx hq
    generalize sheetN s id q = y at hq HV
    have hql : q < x.sheets.length := (List.getElem?_eq_some_iff.1 hq).1
    have hil' : (i : Int) < s.notes.length := by omega
    have hql' : (q : Int) < x.sheets.length := by omega
    have HQ := Lib.hid hq
    clear h0 hi1 hi2 hxid hv
    go_enter Tryd.func17, Tryd.ntmps17
    go_wp2_with fail
    refine cF.mono ?_
    rintro e w1 ⟨rfl, g1⟩
    obtain ⟨⟨p0, p1, p2, p3, p4⟩, hpz⟩ := n5 (g1.blk HBX.out)
    have gw1 := HG0.out.trans g1
    obtain ⟨nb, off, tv, sv, ea, hnb, -, -, -, -, n4, -, hsv⟩ := Notes.at (Notes.grow HH.out.2 gw1) hx
    obtain ⟨sa, sc, esv⟩ := hsv.mk
    subst ea esv
    obtain ⟨sb, so, es, hsb, m0⟩ := hsv.at hq
    subst es
    clear cF hx hsv g1 hq
    go_wp2_with fail
    go_ret2
    exact ⟨by rw [HV.out, HN0.out]; rfl, gw1⟩
  · have h1 : (sheetE s id k == 0) = false := beq_eq_false_iff_ne.2 h0
    have HS := Lib.hid (show sheetV s id k = 0 by unfold sheetV; rw [if_neg h0])
    have HI := Lib.hid (show shI s id k = 0 by unfold shI; rw [if_neg h0])
    rw [HI.out] at cF
    generalize sheetE s id k = n at *
    go_enter Tryd.func17, Tryd.ntmps17
    go_wp2_with fail
    refine cF.mono ?_
    rintro e w1 ⟨rfl, g1⟩
    go_wp2_with fail
    go_ret2
    exact ⟨by rw [HS.out]; rfl, HG0.out.trans g1⟩
set_option maxRecDepth 100000 in
theorem indexTexts (v : Value) (l : List ByteArray) (g : Nat) (lb : Array Value) (p : ByteArray → Bool) (w : World) (h : Texts w v l) (hz : l.length ≤ 1000000000) (eg : ∀ args w, (callFunc g args).run Tryd.prog w = .ok (.enter g args) w)
    (hp : ∀ W x, Grow w W → x ∈ l → Calls Tryd.prog g (#[.string x] ++ lb) W fun e w' => e = .returned (.bool (p x)) ∧ Grow W w') :
    Calls Tryd.prog 114 #[v, .func (.func g) #[] lb] w fun e w' => e = .returned (.int .i64 (idx p l)) ∧ Grow w w' := by
  obtain ⟨a, c, rfl⟩ := h.mk
  have HP := Lib.hid hp
  clear hp
  go_enter Tryd.func114, Tryd.ntmps114
  go_wp2
  go_loopw [5, 8] (fun v5 v8 wx => Grow w wx ∧ ∃ i : Nat, v8 = .int .i64 i ∧ i ≤ l.length ∧ ∀ (j : Nat) x, j < i → l[j]? = some x → p x = false) (fun _ v8 _ => l.length - (Go.RowKit.intOf v8).toNat)
  case atStart => exact ⟨Grow.refl _, 0, rfl, by omega, fun j _ h => absurd h (by omega)⟩
  case round =>
    obtain ⟨hg, i, rfl, hi, hall⟩ := hrel
    have HA := Lib.hid hall
    clear hall
    by_cases hlt : i < l.length
    · have hlt' : (i : Int) < l.length := by omega
      obtain ⟨x, hx, -⟩ := lt_get hlt
      obtain ⟨b, off, rfl, -, hc⟩ := (Texts.grow h hg).at hx
      have cP := HP.out wr x hg (List.mem_of_getElem? hx)
      have HX := Lib.hid hx
      clear hx h HP
      cases hpx : p x
      · rw [hpx] at cP
        have HPX := Lib.hid hpx
        clear hpx
        go_wp2_with fail
        refine cP.mono ?_
        rintro e w1 ⟨rfl, g1⟩
        go_wp2_with fail
        go_roundw
        case rel => exact ⟨hg.trans g1, i + 1, by go_num, by omega, fun j y hj h1 => by
          rcases (by omega : j < i ∨ j = i) with h3 | rfl
          · exact HA.out j y h3 h1
          · rw [HX.out] at h1; injection h1 with h1; rw [← h1]; exact HPX.out⟩
        case measure => simp [Go.RowKit.intOf]; omega
      · rw [hpx] at cP
        have HR := Lib.hid (idx_some HX.out hpx HA.out)
        clear hpx
        go_wp2_with fail
        refine cP.mono ?_
        rintro e w1 ⟨rfl, g1⟩
        go_wp2_with fail
        go_ret
        exact ⟨ret_int HR.out.symm, hg.trans g1⟩
    · have HR := Lib.hid (idx_none (p := p) (l := l) (fun j x hx => HA.out j x (by have := (List.getElem?_eq_some_iff.1 hx).1; omega) hx))
      have hlt' : ¬ (i : Int) < l.length := by omega
      clear h HP
      go_wp2_with fail
      go_ret
      exact ⟨ret_int HR.out.symm, hg⟩
set_option maxRecDepth 100000 in
theorem untag1_any (x t : ByteArray) (B : Nat) (w : World) (h : w.heap[B]? = some (.cells #[.string t] 9 (0, 0))) :
    Calls Tryd.prog 92 #[.string x, .pointer (some ⟨B, 0, none⟩)] w fun e w' => e = .returned (.bool (x.toList == t.toList)) ∧ Grow w w' := by
  have hb : B < w.heap.size := (Array.getElem?_eq_some_iff.1 h).1
  have h0 : w.cell? ⟨B, 0, none⟩ = some (.string t) := (cell_of_row w B 0 _ _ _ h).trans rfl
  clear h
  go_enter Tryd.func92, Tryd.ntmps92
  go_wp2_with fail
  go_ret
  exact ⟨rfl, Grow.refl w⟩
theorem row_texts {base : Nat} {v : Value} {l : List ByteArray} {w : World} (h : RowO base 9 1 v l.length (strC l) w) : Texts w v l := h.reads fun i x hx => by rw [Nat.mul_one, List.take_one, List.head?_drop, List.getElem?_map, hx]; rfl
set_option maxRecDepth 100000 in
/-- DeleteFunc at a note's tags. -/
theorem untagD {base : Nat} {v : Value} {l : List ByteArray} {w : World} (h : RowO base 9 1 v l.length (strC l) w) (hl : l.length ≤ 1000000) (hb : base ≤ w.heap.size) {I : Nat} {t : ByteArray} (hI : w.heap[I]? = some (.cells #[.string t] 9 (0, 0))) (hne : some I ≠ blkOf v) :
    Calls Tryd.prog 91 #[v, .func (.func 92) #[] #[.pointer (some ⟨I, 0, none⟩)]] w fun e w' => ∃ v', e = .returned v' ∧ RowO base 9 1 v' (l.filter fun x => !(x.toList == t.toList)).length (strC (l.filter fun x => !(x.toList == t.toList))) w' ∧ w.grownBy w' (blkOf v) ∧ blkOf v' = blkOf v := by
  have hz : I < w.heap.size := (Array.getElem?_eq_some_iff.1 hI).1
  have hs : ∀ m : List ByteArray, m.flatMap (fun t => [Value.string t]) = strC m := fun m => by induction m with | nil => rfl | cons a m ih => rw [List.flatMap_cons, ih]; rfl
  have hd := delTexts base v l 92 #[.pointer (some ⟨I, 0, none⟩)] (fun x => x.toList == t.toList) w (by rw [hs]; exact h) hl hb (fun _ _ => rfl) (fun W x k _ _ => untag1_any x t I W ((k I hz hne).trans hI))
    (indexTexts v l _ _ _ w (row_texts h) (by omega) (fun _ _ => rfl) fun W x g _ => untag1_any x t I W (g.blk hI))
  rw [hs] at hd
  exact hd
theorem insT_perm (t : ByteArray) : ∀ l : List ByteArray, (insT t l).Perm (t :: l)
  | [] => .refl _
  | y :: l => by
    unfold insT
    split
    · exact (List.Perm.cons y (insT_perm t l)).trans (List.Perm.swap t y l)
    · exact .refl _
theorem texts_eq : ∀ {l m : List ByteArray}, l.Perm m → l.Pairwise (fun a b => ltS b a = false) → m.Pairwise (fun a b => ltS a b = true) → l = m
  | [], m, hp, _, _ => (List.nil_perm.1 hp).symm
  | x :: l, [], hp, _, _ => by have := hp.length_eq; simp at this
  | x :: l, y :: m, hp, h1, h2 => by
    obtain ⟨a1, a2⟩ := List.pairwise_cons.1 h1
    obtain ⟨b1, b2⟩ := List.pairwise_cons.1 h2
    have e : x = y := by
      apply Classical.byContradiction
      intro hne
      have hx : x ∈ m := by
        rcases List.mem_cons.1 (hp.mem_iff.1 (List.mem_cons_self ..)) with h | h
        · exact absurd h hne
        · exact h
      have hy : y ∈ l := by
        rcases List.mem_cons.1 (hp.mem_iff.2 (List.mem_cons_self ..)) with h | h
        · exact absurd h.symm hne
        · exact h
      have := a1 y hy
      rw [b1 x hx] at this
      cases this
    subst e
    rw [texts_eq hp.cons_inv a2 b2]
theorem tags_sorted {l l' : List ByteArray} {t : ByteArray} (hp : l'.Perm (l ++ [t])) (hs : l'.Pairwise fun a b => ltS b a = false) (hl : l.Pairwise fun a b => ltS a b = true) (hn : t ∉ l) : l' = insT t l :=
  texts_eq (hp.trans (List.perm_append_comm.trans (insT_perm t l).symm)) hs (insT_inc hl hn)
end Go.Proofs.YtnajccljdjllgaaDoor
