/- What the changes answer, told to a reader; that they are no greater than what comes in. The state of the laws' both: two shelves in boxes; what a change answers, opened. shelf.Make. shelf.Rename. slices.DeleteFunc at rows of the call's own: what is common to all element types. slices.DeleteFunc at notes. slices.DeleteFunc, at books, notes and texts: rows of the call's own, turned where they stand. The predicates of Drop and Discard. shelf.Drop. shelf.titled. shelf.Note. -/
import Derived.Test.YtnajccljdjllgaaGreatDoorJShelfTellsc
import Derived.Test.YtnajccljdjllgaaGreatDoorJShelfTellsb
import Derived.Test.YtnajccljdjllgaaGreatDoorJShelfTellsa
import Derived.Lib.SliceRun
set_option linter.unusedVariables false
set_option linter.unusedSimpArgs false
namespace Go.Proofs.YtnajccljdjllgaaGreatDoor
open Go.RowKit Go.Lib
def OutC (S : Shelf) (E : Int) (w : World) (e : Ending) (w' : World) : Prop := ∃ xa xc ya yc, Grow w w' ∧ e = .returned (.tuple #[.agg #[.int .i64 S.nb, .int .i64 S.nn, .int .i64 S.ns, .slice xa S.books.length xc, .slice ya S.notes.length yc], .int .i64 E]) ∧ ShelfR w' S (.slice xa S.books.length xc) (.slice ya S.notes.length yc)
def OutM (S : Shelf) (N E : Int) (w : World) (e : Ending) (w' : World) : Prop := ∃ xa xc ya yc, Grow w w' ∧ e = .returned (.tuple #[.agg #[.int .i64 S.nb, .int .i64 S.nn, .int .i64 S.ns, .slice xa S.books.length xc, .slice ya S.notes.length yc], .int .i64 N, .int .i64 E]) ∧ ShelfR w' S (.slice xa S.books.length xc) (.slice ya S.notes.length yc)
theorem RetC.out {r : Res} {S : Shelf} {N E : Int} (hr : r = ⟨S, N, E⟩) {w w' : World} {e : Ending} (h : RetC r w e w') : OutC S E w e w' := by
  subst hr
  obtain ⟨g, bv, nv, Y, rfl, ho, hm⟩ := h
  obtain ⟨h1, h2⟩ := ho.reads
  rw [hm] at h2
  obtain ⟨xa, xc, rfl⟩ := h1.mk
  obtain ⟨ya, yc, rfl⟩ := h2.mk
  exact ⟨xa, xc, ya, yc, g, rfl, h1, h2⟩
theorem RetM.out {r : Res} {S : Shelf} {N E : Int} (hr : r = ⟨S, N, E⟩) {w w' : World} {e : Ending} (h : RetM r w e w') : OutM S N E w e w' := by
  subst hr
  obtain ⟨g, bv, nv, Y, rfl, ho, hm⟩ := h
  obtain ⟨h1, h2⟩ := ho.reads
  rw [hm] at h2
  obtain ⟨xa, xc, rfl⟩ := h1.mk
  obtain ⟨ya, yc, rfl⟩ := h2.mk
  exact ⟨xa, xc, ya, yc, g, rfl, h1, h2⟩
theorem res_mk (r : Res) : r = ⟨r.s, r.n, r.e⟩ := rfl
theorem zS_tame : TameS zS := ⟨⟨by simp [zS], by simp [zS], by simp [zS], by simp [zS]⟩, by simp [zS]⟩
theorem tame_res {e : Int} {s : Shelf} {n : Int} (h : e = 0 → MayP (resOf e s n).s) : TameS (resOf e s n).s := by
  by_cases h0 : e = 0
  · exact (h h0).tame
  · rw [resOf_no h0]; exact zS_tame
theorem make_tame (s : Shelf) (t : ByteArray) : TameS (makeR s t).s := tame_res make_may
theorem rename_tame (s : Shelf) (id : Int) (t : ByteArray) : TameS (renameR s id t).s := tame_res rename_may
theorem drop_tame (s : Shelf) (id : Int) : TameS (dropR s id).s := tame_res drop_may
theorem move_tame (s : Shelf) (id q : Int) : TameS (moveR s id q).s := tame_res move_may
theorem discard_tame (s : Shelf) (id : Int) : TameS (discardR s id).s := tame_res discard_may
theorem tag_tame (s : Shelf) (id : Int) (t : ByteArray) : TameS (tagR s id t).s := tame_res tag_may
theorem untag_tame (s : Shelf) (id : Int) (t : ByteArray) : TameS (untagR s id t).s := tame_res untag_may
theorem append_tame (s : Shelf) (id : Int) : TameS (appendR s id).s := tame_res append_may
theorem remove_tame (s : Shelf) (id k : Int) : TameS (removeR s id k).s := tame_res remove_may
/-- What Find answers, to a reader. -/
def foundB (s : Shelf) (id : Int) : Bool := decide (noteE s id = 0)
def foundN (s : Shelf) (id : Int) : Note := if noteE s id = 0 then noteOf s id else ⟨0, 0, ⟨#[]⟩, [], []⟩
def OutF (N : Note) (B : Bool) (w : World) (e : Ending) (w' : World) : Prop := ∃ ta tc sa sc, Grow w w' ∧ e = .returned (.tuple #[.agg #[.int .i64 N.id, .int .i64 N.book, .string N.name, .slice ta N.tags.length tc, .slice sa N.sheets.length sc], .bool B]) ∧ Texts w' (.slice ta N.tags.length tc) N.tags ∧ Ints w' (.slice sa N.sheets.length sc) N.sheets
theorem RetFind.out {s : Shelf} {id : Int} {N : Note} {B : Bool} (hN : foundN s id = N) (hB : foundB s id = B) {w w' : World} {e : Ending} (h : RetFind s id w e w') : OutF N B w e w' := by
  subst hN hB
  obtain ⟨g, ⟨x, bv, nv, Y, y, hm, h0, hx, rfl, ho, hmap, hy, rfl⟩ | ⟨hn, rfl⟩⟩ := h
  · have hE : noteE s id = 0 := noteE_zero.2 ⟨hm, h0⟩
    have hN : foundN s id = y.n := by
      unfold foundN
      rw [if_pos hE]
      have := (noteOf_get h0).1
      rw [hx] at this
      exact (Option.some.inj this).symm
    have hB : foundB s id = true := by unfold foundB; rw [hE]; rfl
    have hmem := List.mem_of_getElem? hy
    have h1 := row_texts (ho.tags y hmem)
    have h2 : Ints w' y.sv y.n.sheets := (ho.sheets y hmem).reads fun i x hx => by rw [Nat.mul_one, List.take_one, List.head?_drop, List.getElem?_map, hx]; rfl
    obtain ⟨ta, tc, e1⟩ := h1.mk
    obtain ⟨sa, sc, e2⟩ := h2.mk
    rw [OutF, hN, hB]
    rw [e1] at h1
    rw [e2] at h2
    exact ⟨ta, tc, sa, sc, g, by rw [e1, e2]; rfl, h1, h2⟩
  · have hE : noteE s id ≠ 0 := fun h => by
      obtain ⟨h1, h2⟩ := noteE_zero.1 h
      rcases hn with hn | hn
      · rw [hn] at h1; cases h1
      · omega
    have hN : foundN s id = ⟨0, 0, ⟨#[]⟩, [], []⟩ := if_neg hE
    have hB : foundB s id = false := decide_eq_false hE
    rw [OutF, hN, hB]
    exact ⟨none, 0, none, 0, g, rfl, Reads.nil, Reads.nil⟩
end Go.Proofs.YtnajccljdjllgaaGreatDoor
set_option linter.unusedVariables false
set_option linter.unusedSimpArgs false
namespace Go.Proofs.YtnajccljdjllgaaGreatDoor
open Go.RowKit Go.Lib
theorem numOf_any (n : Int) (w : World) : Calls Tryz.prog 19 #[.int .i64 n] w fun e w' => e = .returned (.int .i64 n) ∧ w' = w := by
  go_enter Tryz.func19, Tryz.ntmps19
  go_wp2_with fail
  go_ret
  exact ⟨rfl, rfl⟩
theorem n4 {w : World} {b : Nat} {t : TypeId} {m : Nat × Nat} {u0 u1 u2 u3 : Value} (hb : w.heap[b]? = some (.cells #[u0, u1, u2, u3] t m)) :
    (w.cell? ⟨b, 0, none⟩ = some u0 ∧ w.cell? ⟨b, 1, none⟩ = some u1 ∧ w.cell? ⟨b, 2, none⟩ = some u2 ∧ w.cell? ⟨b, 3, none⟩ = some u3) ∧ b < w.heap.size :=
  ⟨⟨(cell_of_row w b 0 _ _ _ hb).trans rfl, (cell_of_row w b 1 _ _ _ hb).trans rfl, (cell_of_row w b 2 _ _ _ hb).trans rfl, (cell_of_row w b 3 _ _ _ hb).trans rfl⟩, (Array.getElem?_eq_some_iff.1 hb).1⟩
theorem resOf_n0 (e : Int) (s : Shelf) : (resOf e s 0).n = 0 := by unfold resOf; split <;> rfl
theorem results_cct {P : Program} {fn : Func} {p q u : Tmp} {ty ty2 : TypeId} (h : fn.results = #[.cell p ty, .cell q ty2, .tmp u]) (tmps : Array Value) (w : World) :
    (results fn tmps).run P w = ((asAddr (tmps.getD p undef)).run P w).andThen fun a w₁ => ((loadVar ty a).run P w₁).andThen fun v w₂ => ((asAddr (tmps.getD q undef)).run P w₂).andThen fun a2 w₃ => ((loadVar ty2 a2).run P w₃).andThen fun v2 w₄ => .ok (.tuple #[v, v2, tmps.getD u undef]) w₄ := by
  simp [results, h, Sem.run_bind]
def RetC1 (S : Shelf) (E : Int) (w : World) (e : Ending) (w' : World) : Prop := ∃ xa xc ya yc Y, e = .returned (.tuple #[.agg #[.int .i64 S.nb, .int .i64 S.nn, .int .i64 S.ns, .slice xa S.books.length xc, .slice ya S.notes.length yc], .int .i64 E]) ∧ OwnS w.heap.size (.slice xa S.books.length xc) (.slice ya S.notes.length yc) S.books Y w' ∧ Y.map NV.n = S.notes ∧ Grow w w'
def RetM1 (S : Shelf) (N E : Int) (w : World) (e : Ending) (w' : World) : Prop := ∃ xa xc ya yc Y, e = .returned (.tuple #[.agg #[.int .i64 S.nb, .int .i64 S.nn, .int .i64 S.ns, .slice xa S.books.length xc, .slice ya S.notes.length yc], .int .i64 N, .int .i64 E]) ∧ OwnS w.heap.size (.slice xa S.books.length xc) (.slice ya S.notes.length yc) S.books Y w' ∧ Y.map NV.n = S.notes ∧ Grow w w'
theorem RetC.one {r : Res} {S : Shelf} {N E : Int} (hr : r = ⟨S, N, E⟩) {w w' : World} {e : Ending} (h : RetC r w e w') : RetC1 S E w e w' := by
  subst hr
  obtain ⟨g, bv, nv, Y, h1, h2, h3⟩ := h
  obtain ⟨xa, xc, e1, -⟩ := h2.books.slice
  obtain ⟨ya, yc, e2, -⟩ := h2.notes.slice
  have hl : Y.length = S.notes.length := by rw [← h3, List.length_map]
  rw [hl] at e2
  subst e1 e2
  exact ⟨xa, xc, ya, yc, Y, h1, h2, h3, g⟩
theorem RetM.one {r : Res} {S : Shelf} {N E : Int} (hr : r = ⟨S, N, E⟩) {w w' : World} {e : Ending} (h : RetM r w e w') : RetM1 S N E w e w' := by
  subst hr
  obtain ⟨g, bv, nv, Y, h1, h2, h3⟩ := h
  obtain ⟨xa, xc, e1, -⟩ := h2.books.slice
  obtain ⟨ya, yc, e2, -⟩ := h2.notes.slice
  have hl : Y.length = S.notes.length := by rw [← h3, List.length_map]
  rw [hl] at e2
  subst e1 e2
  exact ⟨xa, xc, ya, yc, Y, h1, h2, h3, g⟩
theorem own_shelf {base : Nat} {bv nv : Value} {S : Shelf} {Y : List NV} {w : World} (h : OwnS base bv nv S.books Y w) (hm : Y.map NV.n = S.notes) : ShelfR w S bv nv := ⟨h.reads.1, by rw [← hm]; exact h.reads.2⟩
abbrev zQ : Obj := shQ 0 0 0 (.slice none 0 0) (.slice none 0 0)
abbrev shO (S : Shelf) (bv nv : Value) : Obj := shQ S.nb S.nn S.ns bv nv
/-- Both shelves lie in their boxes (A, B); C, D are boxes that are still empty. -/
structure BothSt (w : World) (A B C D : Nat) (S : Shelf) (bv nv : Value) (Y : List NV) (b2 n2 : Value) (W : World) : Prop where
  grow : Grow w W
  a : W.heap[A]? = some (shO S bv nv)
  b : W.heap[B]? = some (shO S b2 n2)
  c : W.heap[C]? = some zQ
  d : W.heap[D]? = some zQ
  own : OwnS w.heap.size bv nv S.books Y W
  map : Y.map NV.n = S.notes
  two : ShelfR W S b2 n2
theorem both_one {w V w1 : World} {A : Nat} {S : Shelf} {bv nv : Value} {Y : List NV} (gV : Grow w V) (hA : V.heap[A]? = some zQ) (hl : w.heap.size ≤ A) (g1 : Grow V w1) (ho : OwnS V.heap.size bv nv S.books Y w1) :
    (set5w w1 A (.int .i64 S.nb) (.int .i64 S.nn) (.int .i64 S.ns) bv nv).heap[A]? = some (shO S bv nv) ∧ Grow w (set5w w1 A (.int .i64 S.nb) (.int .i64 S.nn) (.int .i64 S.ns) bv nv) ∧ OwnS w.heap.size bv nv S.books Y (set5w w1 A (.int .i64 S.nb) (.int .i64 S.nn) (.int .i64 S.ns) bv nv) ∧
      ∀ (i : Nat) (o : Obj), i ≠ A → V.heap[i]? = some o → (set5w w1 A (.int .i64 S.nb) (.int .i64 S.nn) (.int .i64 S.ns) bv nv).heap[i]? = some o := by
  have hb := g1.blk hA
  obtain ⟨h1, h2⟩ := set5 hb (.int .i64 S.nb) (.int .i64 S.nn) (.int .i64 S.ns) bv nv
  exact ⟨h1, h2.grow (gV.trans g1) hl, (ho.base_mono gV.size).kept (shelf_kept hb h2), fun i o hi ho => set5_other _ _ _ _ _ hi (g1.blk ho)⟩
theorem both_two {w V w2 : World} {A B C D : Nat} {S : Shelf} {bv nv b2 n2 : Value} {Y : List NV} (gV : Grow w V) (hA : V.heap[A]? = some (shO S bv nv)) (hB : V.heap[B]? = some zQ) (hC : V.heap[C]? = some zQ) (hD : V.heap[D]? = some zQ) (hl : w.heap.size ≤ B) (ne : A ≠ B ∧ C ≠ B ∧ D ≠ B)
    (ho : OwnS w.heap.size bv nv S.books Y V) (hm : Y.map NV.n = S.notes) (g2 : Grow V w2) {Y2 : List NV} (ho2 : OwnS V.heap.size b2 n2 S.books Y2 w2) (hm2 : Y2.map NV.n = S.notes) :
    BothSt w A B C D S bv nv Y b2 n2 (set5w w2 B (.int .i64 S.nb) (.int .i64 S.nn) (.int .i64 S.ns) b2 n2) := by
  have hb := g2.blk hB
  obtain ⟨h1, h2⟩ := set5 hb (.int .i64 S.nb) (.int .i64 S.nn) (.int .i64 S.ns) b2 n2
  have k := shelf_kept hb h2
  exact ⟨h2.grow (gV.trans g2) hl, set5_other _ _ _ _ _ ne.1 (g2.blk hA), h1, set5_other _ _ _ _ _ ne.2.1 (g2.blk hC), set5_other _ _ _ _ _ ne.2.2 (g2.blk hD), (ho.grow g2).kept k, hm, own_shelf (ho2.kept k) hm2⟩
/-- What both answers. -/
def RetB (S : Shelf) (w : World) (e : Ending) (w' : World) : Prop := ∃ xa xc ya yc Y b2 bc2 n2 nc2, e = .returned (.tuple #[.agg #[.int .i64 S.nb, .int .i64 S.nn, .int .i64 S.ns, .slice xa S.books.length xc, .slice ya S.notes.length yc], .agg #[.int .i64 S.nb, .int .i64 S.nn, .int .i64 S.ns, .slice b2 S.books.length bc2, .slice n2 S.notes.length nc2], .bool true]) ∧ OwnS w.heap.size (.slice xa S.books.length xc) (.slice ya S.notes.length yc) S.books Y w' ∧ Y.map NV.n = S.notes ∧ Grow w w'
def RetB8 (S : Shelf) (w : World) (e : Ending) (w' : World) : Prop := ∃ xa xc ya yc Y, e = .returned (.tuple #[.agg #[.int .i64 S.nb, .int .i64 S.nn, .int .i64 S.ns, .slice xa S.books.length xc, .slice ya S.notes.length yc], .bool true]) ∧ OwnS w.heap.size (.slice xa S.books.length xc) (.slice ya S.notes.length yc) S.books Y w' ∧ Y.map NV.n = S.notes ∧ Grow w w'
/-- Rows of the call's own, beside boxes of shelves in which the results are stored. -/
def OwnE (w : World) (bv nv : Value) (X : List Book) (Y : List NV) (L : List Nat) (W : World) : Prop := Grow w W ∧ OwnS w.heap.size bv nv X Y W ∧ ∀ C ∈ L, ∃ cs : Array Value, W.heap[C]? = some (.cells cs 25 (0, 0))
theorem OwnE.drew {w W : World} {bv nv : Value} {X : List Book} {Y : List NV} {L : List Nat} (h : OwnE w bv nv X Y L W) : OwnE w bv nv X Y L W.drew := ⟨h.1.drew, h.2.1.grow (Grow.refl W).drew, fun C hC => (h.2.2 C hC).elim fun cs hc => ⟨cs, (Grow.refl W).drew.blk hc⟩⟩
theorem OwnE.more {w W W' : World} {bv nv : Value} {X : List Book} {Y : List NV} {L : List Nat} (h : OwnE w bv nv X Y L W) (g : Grow W W') : OwnE w bv nv X Y L W' := ⟨h.1.trans g, h.2.1.grow g, fun C hC => (h.2.2 C hC).elim fun cs hc => ⟨cs, g.blk hc⟩⟩
theorem OwnE.set {w W : World} {bv nv : Value} {X : List Book} {Y : List NV} {L : List Nat} (h : OwnE w bv nv X Y L W) {C : Nat} (hC : C ∈ L) (hl : w.heap.size ≤ C) (j : Nat) (u : Value) : OwnE w bv nv X Y L (W.setCell ⟨C, j, none⟩ u) := by
  obtain ⟨cs, hc⟩ := h.2.2 C hC
  have ht := turned_cell W C j u
  refine ⟨ht.grow h.1 hl, h.2.1.kept (shelf_kept hc ht), fun E hE => ?_⟩
  by_cases e : E = C
  · subst e; exact ⟨_, heap_setCell_same W E j _ _ u hc⟩
  · obtain ⟨c2, h2⟩ := h.2.2 E hE
    exact ⟨c2, (ht.block E (Array.getElem?_eq_some_iff.1 h2).1 e).trans h2⟩
theorem BothSt.ends {w W : World} {A B C D : Nat} {S : Shelf} {bv nv b2 n2 : Value} {Y : List NV} (h : BothSt w A B C D S bv nv Y b2 n2 W) : OwnE w bv nv S.books Y [C, D] W := ⟨h.grow, h.own, fun E hE => by
  simp only [List.mem_cons, List.not_mem_nil, or_false] at hE
  rcases hE with rfl | rfl
  · exact ⟨_, h.c⟩
  · exact ⟨_, h.d⟩⟩
theorem same_tame {S : Shelf} (h : TameS S) : Tame S := h.1
theorem rsame (S : Shelf) : same S S = true := same_yes rfl
end Go.Proofs.YtnajccljdjllgaaGreatDoor
set_option linter.unusedVariables false
set_option linter.unusedSimpArgs false
namespace Go.Proofs.YtnajccljdjllgaaGreatDoor
open Go.RowKit Go.Lib
set_option maxRecDepth 100000 in
set_option maxHeartbeats 4000000 in
theorem make_any (s : Shelf) (bv nv : Value) (t : ByteArray) (w : World) (h : ShelfR w s bv nv) (hz : TameS s) (ht : t.size ≤ 1000000000) (hT : Tabs w) :
    Calls Tryz.prog 26 #[shelfV s bv nv, .string t] w (RetM (makeR s t) w) := by
  obtain ⟨ib, hib, hbz0, hbz1, hbz2⟩ := info_parts info_book
  have cM := fun W (g : Grow w W) => mayS_any s bv nv W (h.grow g) hz (hT.below g)
  have cN := fun W (g : Grow w W) => may_any t W ht (hT.below g)
  have cB := fun W (g : Grow w W) => named_any bv s.books t W (h.1.grow g) (by have := hz.1.1; omega)
  have cO := fun W (g : Grow w W) => own_any s bv nv W (h.grow g) hz.1
  have hbl := hz.1.1
  have hbd := idx_bd (fun x : Book => x.name.toList == t.toList) s.books
  have HRF := Lib.hid (show nameIx s.books t = idx (fun x : Book => x.name.toList == t.toList) s.books from rfl)
  rw [← HRF.out] at hbd
  rw [← HRF.out] at cB
  obtain ⟨a1, c1, rfl⟩ := h.1.mk
  obtain ⟨a2, c2, rfl⟩ := h.2.mk
  have HXX := Lib.hid (two_boxes2 w (shB s (.slice a1 s.books.length c1) (.slice a2 s.notes.length c2)) (shB ⟨0, 0, 0, [], []⟩ (.slice none 0 0) (.slice none 0 0)))
  clear h hz hT
  unfold shelfV at *
  go_enter Tryz.func26, Tryz.ntmps26
  go_upto_region 1 with (fail)
  generalize hV : (w.alloc (.cells #[.int .i64 s.nb, .int .i64 s.nn, .int .i64 s.ns, .slice a1 s.books.length c1, .slice a2 s.notes.length c2] 25)).alloc (.cells #[.int .i64 0, .int .i64 0, .int .i64 0, .slice none 0 0, .slice none 0 0] 25) = V
  have gV : Grow w V := by rw [← hV]; exact ((Grow.refl w).alloc _).alloc _
  have HBX : Hid (V.heap[w.heap.size]? = some (shB s (.slice a1 s.books.length c1) (.slice a2 s.notes.length c2))) := by rw [← hV]; exact Lib.hid HXX.out.1
  have HRX : Hid (V.heap[w.heap.size + 1]? = some (shB ⟨0, 0, 0, [], []⟩ (.slice none 0 0) (.slice none 0 0))) := by rw [← hV]; exact Lib.hid HXX.out.2
  obtain ⟨⟨p0, p1, p2, p3, p4⟩, hpz⟩ := n5 HBX.out
  clear hV
  have cM1 := cM V gV
  cases hm : mayS s with
  | false =>
    have HM := Lib.hid hm
    rw [hm] at cM1
    clear hm cO cB cN
    go_wp2_with fail
    refine cM1.mono ?_
    rintro e w1 ⟨rfl, g1⟩
    clear cM1 p0 p1 p2 p3 p4
    have HE := Lib.hid (show makeR s t = bad 2 from res_bad (by unfold makeE; rw [if_pos HM.out]) (by decide) _ _)
    obtain ⟨⟨e0, e1, e2, e3, e4⟩, hez⟩ := n5 (g1.blk HRX.out)
    have f0 := frozen_of_row _ (w.heap.size + 1) 0 _ _ (g1.blk HRX.out)
    have f1 := frozen_of_row _ (w.heap.size + 1) 1 _ _ (g1.blk HRX.out)
    have f2 := frozen_of_row _ (w.heap.size + 1) 2 _ _ (g1.blk HRX.out)
    have f3 := frozen_of_row _ (w.heap.size + 1) 3 _ _ (g1.blk HRX.out)
    have f4 := frozen_of_row _ (w.heap.size + 1) 4 _ _ (g1.blk HRX.out)
    go_wp2_with fail
    refine bodyPost_ret (v := .tuple #[.agg #[.int .i64 0, .int .i64 0, .int .i64 0, .slice none 0 0, .slice none 0 0], .int .i64 0, .int .i64 2]) ?_ rfl ?_
    · rw [results_cell_tmp2 (P := Tryz.prog) rfl]
      go_simp
    · refine ret_badM HE.out ?_
      repeat' (first | with_reducible exact gV.trans g1 | with_reducible refine Grow.set ?_ (by simp) _)
  | true =>
    have HM := Lib.hid hm
    rw [hm] at cM1
    clear hm
    go_wp2_with fail
    refine cM1.mono ?_
    rintro e w1 ⟨rfl, g1⟩
    have cN1 := cN w1 (gV.trans g1)
    clear cM1 p0 p1 p2 p3 p4
    obtain ⟨⟨p0, p1, p2, p3, p4⟩, hpz⟩ := n5 (g1.blk HBX.out)
    cases hn : mayB t with
    | false =>
      have HN := Lib.hid hn
      rw [hn] at cN1
      clear hn cO cB
      go_wp2_with fail
      refine cN1.mono ?_
      rintro e w2 ⟨rfl, g2⟩
      have gg := g1.trans g2
      clear cN1 p0 p1 p2 p3 p4
      have HE := Lib.hid (show makeR s t = bad 6 from res_bad (by unfold makeE; rw [if_neg (by rw [HM.out]; simp), if_pos HN.out]) (by decide) _ _)
      obtain ⟨⟨e0, e1, e2, e3, e4⟩, hez⟩ := n5 (gg.blk HRX.out)
      have f0 := frozen_of_row _ (w.heap.size + 1) 0 _ _ (gg.blk HRX.out)
      have f1 := frozen_of_row _ (w.heap.size + 1) 1 _ _ (gg.blk HRX.out)
      have f2 := frozen_of_row _ (w.heap.size + 1) 2 _ _ (gg.blk HRX.out)
      have f3 := frozen_of_row _ (w.heap.size + 1) 3 _ _ (gg.blk HRX.out)
      have f4 := frozen_of_row _ (w.heap.size + 1) 4 _ _ (gg.blk HRX.out)
      go_wp2_with fail
      refine bodyPost_ret (v := .tuple #[.agg #[.int .i64 0, .int .i64 0, .int .i64 0, .slice none 0 0, .slice none 0 0], .int .i64 0, .int .i64 6]) ?_ rfl ?_
      · rw [results_cell_tmp2 (P := Tryz.prog) rfl]
        go_simp
      · refine ret_badM HE.out ?_
        repeat' (first | with_reducible exact gV.trans gg | with_reducible refine Grow.set ?_ (by simp) _)
    | true =>
      have HN := Lib.hid hn
      rw [hn] at cN1
      clear hn
      go_wp2_with fail
      refine cN1.mono ?_
      rintro e w2 ⟨rfl, g2⟩
      have gg := g1.trans g2
      have cB1 := cB w2 (gV.trans gg)
      clear cN1 g1 g2 p0 p1 p2 p3 p4
      obtain ⟨⟨p0, p1, p2, p3, p4⟩, hpz⟩ := n5 (gg.blk HBX.out)
      by_cases hi : 0 ≤ nameIx s.books t
      · have HI := Lib.hid hi
        go_wp2_with fail
        refine cB1.mono ?_
        rintro e wb ⟨rfl, gb⟩
        have gh := gg.trans gb
        clear cB1 cO p0 p1 p2 p3 p4
        have HE := Lib.hid (show makeR s t = bad 7 from res_bad (by unfold makeE; rw [if_neg (by rw [HM.out]; simp), if_neg (by rw [HN.out]; simp), if_pos (by have := HI.out; omega)]) (by decide) _ _)
        obtain ⟨⟨e0, e1, e2, e3, e4⟩, hez⟩ := n5 (gh.blk HRX.out)
        have f0 := frozen_of_row _ (w.heap.size + 1) 0 _ _ (gh.blk HRX.out)
        have f1 := frozen_of_row _ (w.heap.size + 1) 1 _ _ (gh.blk HRX.out)
        have f2 := frozen_of_row _ (w.heap.size + 1) 2 _ _ (gh.blk HRX.out)
        have f3 := frozen_of_row _ (w.heap.size + 1) 3 _ _ (gh.blk HRX.out)
        have f4 := frozen_of_row _ (w.heap.size + 1) 4 _ _ (gh.blk HRX.out)
        go_wp2_with fail
        refine bodyPost_ret (v := .tuple #[.agg #[.int .i64 0, .int .i64 0, .int .i64 0, .slice none 0 0, .slice none 0 0], .int .i64 0, .int .i64 7]) ?_ rfl ?_
        · rw [results_cell_tmp2 (P := Tryz.prog) rfl]
          go_simp
        · refine ret_badM HE.out ?_
          repeat' (first | with_reducible exact gV.trans gh | with_reducible refine Grow.set ?_ (by simp) _)
      · have HI := Lib.hid hi
        go_wp2_with fail
        refine cB1.mono ?_
        rintro e wb ⟨rfl, gb⟩
        have gh := gg.trans gb
        clear cB1 gg gb p0 p1 p2 p3 p4
        obtain ⟨⟨p0, p1, p2, p3, p4⟩, hpz⟩ := n5 (gh.blk HBX.out)
        by_cases hl : 6 ≤ (s.books.length : Int)
        · have HL := Lib.hid hl
          clear cO
          have HE := Lib.hid (show makeR s t = bad 3 from res_bad (by unfold makeE; rw [if_neg (by rw [HM.out]; simp), if_neg (by rw [HN.out]; simp), if_neg (by have := HI.out; omega), if_pos (.inl (by have := HL.out; omega))]) (by decide) _ _)
          obtain ⟨⟨e0, e1, e2, e3, e4⟩, hez⟩ := n5 (gh.blk HRX.out)
          have f0 := frozen_of_row _ (w.heap.size + 1) 0 _ _ (gh.blk HRX.out)
          have f1 := frozen_of_row _ (w.heap.size + 1) 1 _ _ (gh.blk HRX.out)
          have f2 := frozen_of_row _ (w.heap.size + 1) 2 _ _ (gh.blk HRX.out)
          have f3 := frozen_of_row _ (w.heap.size + 1) 3 _ _ (gh.blk HRX.out)
          have f4 := frozen_of_row _ (w.heap.size + 1) 4 _ _ (gh.blk HRX.out)
          go_wp2_with fail
          refine bodyPost_ret (v := .tuple #[.agg #[.int .i64 0, .int .i64 0, .int .i64 0, .slice none 0 0, .slice none 0 0], .int .i64 0, .int .i64 3]) ?_ rfl ?_
          · rw [results_cell_tmp2 (P := Tryz.prog) rfl]
            go_simp
          · refine ret_badM HE.out ?_
            repeat' (first | with_reducible exact gV.trans gh | with_reducible refine Grow.set ?_ (by simp) _)
        · by_cases hk : 65536 ≤ s.nb
          · have HL := Lib.hid hk
            clear cO
            have HE := Lib.hid (show makeR s t = bad 3 from res_bad (by unfold makeE; rw [if_neg (by rw [HM.out]; simp), if_neg (by rw [HN.out]; simp), if_neg (by have := HI.out; omega), if_pos (.inr (by have := HL.out; omega))]) (by decide) _ _)
            obtain ⟨⟨e0, e1, e2, e3, e4⟩, hez⟩ := n5 (gh.blk HRX.out)
            have f0 := frozen_of_row _ (w.heap.size + 1) 0 _ _ (gh.blk HRX.out)
            have f1 := frozen_of_row _ (w.heap.size + 1) 1 _ _ (gh.blk HRX.out)
            have f2 := frozen_of_row _ (w.heap.size + 1) 2 _ _ (gh.blk HRX.out)
            have f3 := frozen_of_row _ (w.heap.size + 1) 3 _ _ (gh.blk HRX.out)
            have f4 := frozen_of_row _ (w.heap.size + 1) 4 _ _ (gh.blk HRX.out)
            go_wp2_with fail
            refine bodyPost_ret (v := .tuple #[.agg #[.int .i64 0, .int .i64 0, .int .i64 0, .slice none 0 0, .slice none 0 0], .int .i64 0, .int .i64 3]) ?_ rfl ?_
            · rw [results_cell_tmp2 (P := Tryz.prog) rfl]
              go_simp
            · refine ret_badM HE.out ?_
              repeat' (first | with_reducible exact gV.trans gh | with_reducible refine Grow.set ?_ (by simp) _)
          · have HE := Lib.hid (show makeR s t = ⟨{ s with nb := s.nb + 1, books := s.books ++ [⟨s.nb, t⟩] }, s.nb, 0⟩ from resOf_ok (makeE_zero.2 ⟨HM.out, HN.out, by omega, by omega, by omega⟩) _ _)
            have hnb := (mayS_iff.1 HM.out).nb
            have cO1 := cO _ (gV.trans gh)
            go_wp2_with fail
            refine cO1.mono ?_
            rintro e w3 ⟨bv', nv', Y, rfl, ho, hmap, g3⟩
            have hs : StB w w.heap.size (w.heap.size + 1) s.nb s.nn s.ns bv' nv' s.books Y (((((w3.setCell ⟨w.heap.size, 0, none⟩ (.int .i64 s.nb)).setCell ⟨w.heap.size, 1, none⟩ (.int .i64 s.nn)).setCell ⟨w.heap.size, 2, none⟩ (.int .i64 s.ns)).setCell ⟨w.heap.size, 3, none⟩ bv').setCell ⟨w.heap.size, 4, none⟩ nv') := StB.start (s := s) (D := w.heap.size + 1) gV HBX.out HRX.out gh g3 ho ⟨Nat.le_refl _, by omega, by omega⟩
            obtain ⟨ba, bc, ebv, -⟩ := ho.books.slice
            obtain ⟨na, nc, env, -⟩ := ho.notes.slice
            have hYl : Y.length = s.notes.length := by rw [← hmap, List.length_map]
            rw [hYl] at env
            have HMAP := Lib.hid hmap
            have HYL := Lib.hid hYl
            subst ebv env
            obtain ⟨⟨p0', p1', p2', p3', p4'⟩, hpz'⟩ := n5 ((gh.trans g3).blk HBX.out)
            have HF3 := Lib.hid (frozen_of_row w3 w.heap.size 0 _ _ ((gh.trans g3).blk HBX.out))
            have ff : ∀ j, w3.frozen? ⟨w.heap.size, j, none⟩ = false := fun j => frozen_of_row w3 w.heap.size j _ _ ((gh.trans g3).blk HBX.out)
            have ff0 := ff 0
            have ff1 := ff 1
            have ff2 := ff 2
            have ff3 := ff 3
            have ff4 := ff 4
            have HOW3 := Lib.hid ho
            have HG3 := Lib.hid (gh.trans g3)
            have hw3 : w.heap.size < w3.heap.size := hpz'
            clear cO1 cO ho hmap g3 hYl p0 p1 p2 p3 p4 ff
            unfold shelfV
            go_upto_region 10 with (fail)
            generalize ((((w3.setCell ⟨w.heap.size, 0, none⟩ (.int .i64 s.nb)).setCell ⟨w.heap.size, 1, none⟩ (.int .i64 s.nn)).setCell ⟨w.heap.size, 2, none⟩ (.int .i64 s.ns)).setCell ⟨w.heap.size, 3, none⟩ (.slice ba s.books.length bc)).setCell ⟨w.heap.size, 4, none⟩ (.slice na s.notes.length nc) = W at *
            have HS := Lib.hid hs
            obtain ⟨⟨p0, p1, p2, p3, p4⟩, hpz⟩ := hs.five
            have hb3 := hs.boxF 3
            have hb4 := hs.boxF 4
            clear hs p0' p1' p2' p3' p4' ff0 ff1 ff2 ff3 ff4 hpz'
            go_upto_region 11 with (at_builtin; refine app_R (by rfl) _ _ 22 (by rfl) 58 ib _ 2 24 Tryz.underlying22 hib hbz0 hbz1 hbz2 (by rfl) (by decide) (.slice ba s.books.length bc) s.books.length (s.books.flatMap bookC) (by rfl) _ HS.out.own.books HS.out.grow.size (bookC ⟨s.nb, t⟩) rfl ?_ (by rfl) ?_ (by decide) ?_; (intro u hu; simp at hu; rcases hu with rfl | rfl <;> rfl); omega; intro v' w4 ra; obtain ⟨va, vc, e3, -⟩ := ra.1.slice; subst e3; obtain ⟨k3, f3, z3, hs4⟩ := HS.out.book ra; have HS4 := Lib.hid hs4; clear hs4 ra)
            generalize w4.setCell ⟨w.heap.size, 3, none⟩ (.slice va (s.books.length + 1) vc) = W4 at *
            clear p0 p1 p2 p3 p4 hpz hb3 hb4 k3 f3 z3 HS
            obtain ⟨⟨p0, p1, p2, p3, p4⟩, hpz⟩ := HS4.out.five
            have hb0 := HS4.out.boxF 0
            have HS5 := Lib.hid (HS4.out.num0 (s.nb + 1))
            go_upto_region 12 with (fail)
            generalize W4.setCell ⟨w.heap.size, 0, none⟩ (.int .i64 (s.nb + 1)) = W5 at *
            clear p0 p1 p2 p3 p4 hpz hb0 HS4
            obtain ⟨⟨p0, p1, p2, p3, p4⟩, hpz⟩ := HS5.out.five
            obtain ⟨⟨e0, e1, e2, e3, e4⟩, hez⟩ := HS5.out.res5
            have f0 := HS5.out.resF 0
            have f1 := HS5.out.resF 1
            have f2 := HS5.out.resF 2
            have f3 := HS5.out.resF 3
            have f4 := HS5.out.resF 4
            have HOD := Lib.hid HS5.out.fin
            go_region
            go_wp2_with fail
            refine bodyPost_ret (v := .tuple #[.agg #[.int .i64 (s.nb + 1), .int .i64 s.nn, .int .i64 s.ns, .slice va (s.books.length + 1) vc, .slice na s.notes.length nc], .int .i64 (s.nb), .int .i64 0]) ?_ rfl ?_
            · rw [results_cell_tmp2 (P := Tryz.prog) rfl]
              go_simp
            · refine ret_okM (D := w.heap.size + 1) HE.out ?_ HMAP.out
              repeat' (first | with_reducible exact HOD.out | with_reducible refine OwnD2.drew ?_ | with_reducible refine OwnD2.set ?_ (by omega) _ _)
end Go.Proofs.YtnajccljdjllgaaGreatDoor
set_option linter.unusedVariables false
set_option linter.unusedSimpArgs false
namespace Go.Proofs.YtnajccljdjllgaaGreatDoor
open Go.RowKit Go.Lib
set_option maxRecDepth 100000 in
set_option maxHeartbeats 4000000 in
theorem rename_any (s : Shelf) (bv nv : Value) (id : Int) (t : ByteArray) (w : World) (h : ShelfR w s bv nv) (hz : TameS s) (ht : t.size ≤ 1000000000) (hT : Tabs w) :
    Calls Tryz.prog 29 #[shelfV s bv nv, .int .i64 id, .string t] w (RetC (renameR s id t) w) := by
  have cM := fun W (g : Grow w W) => mayS_any s bv nv W (h.grow g) hz (hT.below g)
  have cN := fun W (g : Grow w W) => may_any t W ht (hT.below g)
  have cO := fun W (g : Grow w W) => own_any s bv nv W (h.grow g) hz.1
  have cB : ∀ W, Grow w W → Calls Tryz.prog 51 #[shelfV s bv nv, .int .i64 id] W fun e w' => e = .returned (.int .i64 (bookIx s id)) ∧ Grow W w' := fun W g => book_any s bv nv id W (h.grow g) (by have := hz.1.1; omega)
  have cX : ∀ W, Grow w W → Calls Tryz.prog 43 #[bv, .string t] W fun e w' => e = .returned (.int .i64 (nameIx s.books t)) ∧ Grow W w' := fun W g => named_any bv s.books t W (h.1.grow g) (by have := hz.1.1; omega)
  have hbl := hz.1.1
  have hnl := hz.1.2.1
  have hbd := idx_bd (fun x : Book => x.id == id) s.books
  have hnd := idx_bd (fun x : Note => x.id == id) s.notes
  rw [show idx (fun x : Book => x.id == id) s.books = bookIx s id from rfl] at hbd
  rw [show idx (fun x : Note => x.id == id) s.notes = noteIx s id from rfl] at hnd
  obtain ⟨a1, c1, rfl⟩ := h.1.mk
  obtain ⟨a2, c2, rfl⟩ := h.2.mk
  have HXX := Lib.hid (two_boxes2 w (shB s (.slice a1 s.books.length c1) (.slice a2 s.notes.length c2)) (shB ⟨0, 0, 0, [], []⟩ (.slice none 0 0) (.slice none 0 0)))
  clear h hz hT
  unfold shelfV at *
  go_enter Tryz.func29, Tryz.ntmps29
  go_upto_region 1 with (fail)
  generalize hV : (w.alloc (.cells #[.int .i64 s.nb, .int .i64 s.nn, .int .i64 s.ns, .slice a1 s.books.length c1, .slice a2 s.notes.length c2] 25)).alloc (.cells #[.int .i64 0, .int .i64 0, .int .i64 0, .slice none 0 0, .slice none 0 0] 25) = V
  have gV : Grow w V := by rw [← hV]; exact ((Grow.refl w).alloc _).alloc _
  have HBX : Hid (V.heap[w.heap.size]? = some (shB s (.slice a1 s.books.length c1) (.slice a2 s.notes.length c2))) := by rw [← hV]; exact Lib.hid HXX.out.1
  have HRX : Hid (V.heap[w.heap.size + 1]? = some (shB ⟨0, 0, 0, [], []⟩ (.slice none 0 0) (.slice none 0 0))) := by rw [← hV]; exact Lib.hid HXX.out.2
  obtain ⟨⟨p0, p1, p2, p3, p4⟩, hpz⟩ := n5 HBX.out
  clear hV
  have cM1 := cM V gV
  cases hm : mayS s with
  | false =>
    have HM := Lib.hid hm
    rw [hm] at cM1
    clear hm cO
    go_wp2_with fail
    refine cM1.mono ?_
    rintro e w1 ⟨rfl, g1⟩
    clear cM1 p0 p1 p2 p3 p4
    have HE := Lib.hid (show renameR s id t = bad 2 from res_bad (by unfold renameE; rw [if_pos HM.out]) (by decide) _ _)
    obtain ⟨⟨e0, e1, e2, e3, e4⟩, hez⟩ := n5 (g1.blk HRX.out)
    have f0 := frozen_of_row _ (w.heap.size + 1) 0 _ _ (g1.blk HRX.out)
    have f1 := frozen_of_row _ (w.heap.size + 1) 1 _ _ (g1.blk HRX.out)
    have f2 := frozen_of_row _ (w.heap.size + 1) 2 _ _ (g1.blk HRX.out)
    have f3 := frozen_of_row _ (w.heap.size + 1) 3 _ _ (g1.blk HRX.out)
    have f4 := frozen_of_row _ (w.heap.size + 1) 4 _ _ (g1.blk HRX.out)
    go_wp2_with fail
    refine bodyPost_ret (v := .tuple #[.agg #[.int .i64 0, .int .i64 0, .int .i64 0, .slice none 0 0, .slice none 0 0], .int .i64 2]) ?_ rfl ?_
    · rw [results_cell_tmp rfl]
      go_simp
    · refine ret_badC HE.out ?_
      repeat' (first | with_reducible exact gV.trans g1 | with_reducible refine Grow.set ?_ (by simp) _)
  | true =>
    have HM := Lib.hid hm
    rw [hm] at cM1
    clear hm
    go_wp2_with fail
    refine cM1.mono ?_
    rintro e w1 ⟨rfl, g1⟩
    clear cM1 p0 p1 p2 p3 p4
    obtain ⟨⟨p0, p1, p2, p3, p4⟩, hpz⟩ := n5 (g1.blk HBX.out)
    have kB := fun y : Gr w1 => cB y.W ((gV.trans g1).trans y.g)
    have kX := fun y : Gr w1 => cX y.W ((gV.trans g1).trans y.g)
    have hz1 : w.heap.size < w1.heap.size := (Array.getElem?_eq_some_iff.1 (g1.blk HBX.out)).1
    go_upto_region 3 with (fail)
    refine wp_region_gr (by kernel_rfl) (by kernel_rfl) ?_
    repeat (go_big_quiet_step (first | (go_at_call 51; exact Calls.gr (kB _)) | (go_at_call 43; exact Calls.gr (kX _))))
    refine wpQuiet_nil ?_
    rintro _ ⟨y, rfl⟩
    have gy := g1.trans y.g
    generalize y.W = wy at *
    clear cB cX kB kX p0 p1 p2 p3 p4 y
    obtain ⟨⟨p0, p1, p2, p3, p4⟩, hpz⟩ := n5 (gy.blk HBX.out)
    by_cases hi : bookIx s id < 0
    · have HI := Lib.hid hi
      clear cO cN
      have HE := Lib.hid (show renameR s id t = bad 4 from res_bad (by unfold renameE; rw [if_neg (by rw [HM.out]; simp), if_pos HI.out]) (by decide) _ _)
      obtain ⟨⟨e0, e1, e2, e3, e4⟩, hez⟩ := n5 (gy.blk HRX.out)
      have f0 := frozen_of_row _ (w.heap.size + 1) 0 _ _ (gy.blk HRX.out)
      have f1 := frozen_of_row _ (w.heap.size + 1) 1 _ _ (gy.blk HRX.out)
      have f2 := frozen_of_row _ (w.heap.size + 1) 2 _ _ (gy.blk HRX.out)
      have f3 := frozen_of_row _ (w.heap.size + 1) 3 _ _ (gy.blk HRX.out)
      have f4 := frozen_of_row _ (w.heap.size + 1) 4 _ _ (gy.blk HRX.out)
      go_wp2_with fail
      refine bodyPost_ret (v := .tuple #[.agg #[.int .i64 0, .int .i64 0, .int .i64 0, .slice none 0 0, .slice none 0 0], .int .i64 4]) ?_ rfl ?_
      · rw [results_cell_tmp rfl]
        go_simp
      · refine ret_badC HE.out ?_
        repeat' (first | with_reducible exact gV.trans gy | with_reducible refine Grow.set ?_ (by simp) _)
    · have HI := Lib.hid hi
      have cN1 := cN _ (gV.trans gy)
      cases hn : mayB t with
      | false =>
        have HN := Lib.hid hn
        rw [hn] at cN1
        clear hn cO
        go_wp2_with fail
        refine cN1.mono ?_
        rintro e wz ⟨rfl, g2⟩
        have gz := gy.trans g2
        clear cN1 p0 p1 p2 p3 p4
        have HE := Lib.hid (show renameR s id t = bad 6 from res_bad (by unfold renameE; rw [if_neg (by rw [HM.out]; simp), if_neg (by have := HI.out; omega), if_pos HN.out]) (by decide) _ _)
        obtain ⟨⟨e0, e1, e2, e3, e4⟩, hez⟩ := n5 (gz.blk HRX.out)
        have f0 := frozen_of_row _ (w.heap.size + 1) 0 _ _ (gz.blk HRX.out)
        have f1 := frozen_of_row _ (w.heap.size + 1) 1 _ _ (gz.blk HRX.out)
        have f2 := frozen_of_row _ (w.heap.size + 1) 2 _ _ (gz.blk HRX.out)
        have f3 := frozen_of_row _ (w.heap.size + 1) 3 _ _ (gz.blk HRX.out)
        have f4 := frozen_of_row _ (w.heap.size + 1) 4 _ _ (gz.blk HRX.out)
        go_wp2_with fail
        refine bodyPost_ret (v := .tuple #[.agg #[.int .i64 0, .int .i64 0, .int .i64 0, .slice none 0 0, .slice none 0 0], .int .i64 6]) ?_ rfl ?_
        · rw [results_cell_tmp rfl]
          go_simp
        · refine ret_badC HE.out ?_
          repeat' (first | with_reducible exact gV.trans gz | with_reducible refine Grow.set ?_ (by simp) _)
      | true =>
        have HN := Lib.hid hn
        rw [hn] at cN1
        clear hn
        go_wp2_with fail
        refine cN1.mono ?_
        rintro e wz ⟨rfl, g2⟩
        have gz := gy.trans g2
        clear cN1 g2 p0 p1 p2 p3 p4
        obtain ⟨⟨p0, p1, p2, p3, p4⟩, hpz⟩ := n5 (gz.blk HBX.out)
        by_cases hk : 0 ≤ nameIx s.books t ∧ nameIx s.books t ≠ bookIx s id
        · have HK := Lib.hid hk
          have hk1 := hk.1
          have hk2 : (nameIx s.books t == bookIx s id) = false := beq_eq_false_iff_ne.2 hk.2
          clear hk cO
          have HE := Lib.hid (show renameR s id t = bad 7 from res_bad (by unfold renameE; rw [if_neg (by rw [HM.out]; simp), if_neg (by have := HI.out; omega), if_neg (by rw [HN.out]; simp), if_pos HK.out]) (by decide) _ _)
          obtain ⟨⟨e0, e1, e2, e3, e4⟩, hez⟩ := n5 (gz.blk HRX.out)
          have f0 := frozen_of_row _ (w.heap.size + 1) 0 _ _ (gz.blk HRX.out)
          have f1 := frozen_of_row _ (w.heap.size + 1) 1 _ _ (gz.blk HRX.out)
          have f2 := frozen_of_row _ (w.heap.size + 1) 2 _ _ (gz.blk HRX.out)
          have f3 := frozen_of_row _ (w.heap.size + 1) 3 _ _ (gz.blk HRX.out)
          have f4 := frozen_of_row _ (w.heap.size + 1) 4 _ _ (gz.blk HRX.out)
          go_wp2_with fail
          refine bodyPost_ret (v := .tuple #[.agg #[.int .i64 0, .int .i64 0, .int .i64 0, .slice none 0 0, .slice none 0 0], .int .i64 7]) ?_ rfl ?_
          · rw [results_cell_tmp rfl]
            go_simp
          · refine ret_badC HE.out ?_
            repeat' (first | with_reducible exact gV.trans gz | with_reducible refine Grow.set ?_ (by simp) _)
        · have hez : renameE s id t = 0 := renameE_zero.2 ⟨HM.out, by omega, HN.out, by omega⟩
          have HM2 := Lib.hid (mayS_iff.1 HM.out)
          obtain ⟨i, hii⟩ : ∃ i : Nat, bookIx s id = i := ⟨(bookIx s id).toNat, by omega⟩
          obtain ⟨x, hx, hxp⟩ := idx_get (p := fun x : Book => x.id == id) (l := s.books) (i := bookIx s id) rfl (by omega)
          rw [hii, Int.toNat_natCast] at hx
          have hxid : x.id = id := by simpa using hxp
          have HE := Lib.hid (show renameR s id t = ⟨{ s with books := s.books.set i { x with name := t } }, 0, 0⟩ by
            rw [renameR, resOf_ok hez, ← hxid, ← set_updB HM2.out.binc hx t])
          have HX := Lib.hid hx
          have hil : (i : Int) < s.books.length := by have := (List.getElem?_eq_some_iff.1 hx).1; omega
          rw [hii] at hi hbd hk
          rw [hii]
          have hcase : nameIx s.books t < 0 ∨ (nameIx s.books t == (i : Int)) = true := by
            by_cases h0 : nameIx s.books t < 0
            · exact .inl h0
            · exact .inr (by rw [beq_iff_eq]; omega)
          have hkk : 0 ≤ nameIx s.books t ∨ nameIx s.books t < 0 := by omega
          clear hez hx hxp hxid hii hk
          rcases hcase with hk1 | hk1
          all_goals
            try have hk2 : 0 ≤ nameIx s.books t := by rw [beq_iff_eq] at hk1; omega
            clear hkk
            have cO1 := cO _ (gV.trans gz)
            go_wp2_with fail
            refine cO1.mono ?_
            rintro e w3 ⟨bv', nv', Y, rfl, ho, hmap, g3⟩
            have hs : StB w w.heap.size (w.heap.size + 1) s.nb s.nn s.ns bv' nv' s.books Y (((((w3.setCell ⟨w.heap.size, 0, none⟩ (.int .i64 s.nb)).setCell ⟨w.heap.size, 1, none⟩ (.int .i64 s.nn)).setCell ⟨w.heap.size, 2, none⟩ (.int .i64 s.ns)).setCell ⟨w.heap.size, 3, none⟩ bv').setCell ⟨w.heap.size, 4, none⟩ nv') := StB.start (s := s) (D := w.heap.size + 1) gV HBX.out HRX.out gz g3 ho ⟨Nat.le_refl _, by omega, by omega⟩
            obtain ⟨ba, bc, ebv, -⟩ := ho.books.slice
            obtain ⟨na, nc, env, -⟩ := ho.notes.slice
            have hYl : Y.length = s.notes.length := by rw [← hmap, List.length_map]
            rw [hYl] at env
            have HMAP := Lib.hid hmap
            have HYL := Lib.hid hYl
            subst ebv env
            obtain ⟨⟨p0', p1', p2', p3', p4'⟩, hpz'⟩ := n5 ((gz.trans g3).blk HBX.out)
            have HF3 := Lib.hid (frozen_of_row w3 w.heap.size 0 _ _ ((gz.trans g3).blk HBX.out))
            have ff : ∀ j, w3.frozen? ⟨w.heap.size, j, none⟩ = false := fun j => frozen_of_row w3 w.heap.size j _ _ ((gz.trans g3).blk HBX.out)
            have ff0 := ff 0
            have ff1 := ff 1
            have ff2 := ff 2
            have ff3 := ff 3
            have ff4 := ff 4
            have HOW3 := Lib.hid ho
            have HG3 := Lib.hid (gz.trans g3)
            have hw3 : w.heap.size < w3.heap.size := hpz'
            clear cO1 cO ho hmap g3 hYl p0 p1 p2 p3 p4 ff
            unfold shelfV
            go_upto_region 11 with (fail)
            generalize ((((w3.setCell ⟨w.heap.size, 0, none⟩ (.int .i64 s.nb)).setCell ⟨w.heap.size, 1, none⟩ (.int .i64 s.nn)).setCell ⟨w.heap.size, 2, none⟩ (.int .i64 s.ns)).setCell ⟨w.heap.size, 3, none⟩ (.slice ba s.books.length bc)).setCell ⟨w.heap.size, 4, none⟩ (.slice na s.notes.length nc) = W at *
            have HS := Lib.hid hs
            obtain ⟨⟨p0, p1, p2, p3, p4⟩, hpz⟩ := hs.five
            have hb3 := hs.boxF 3
            have hb4 := hs.boxF 4
            clear hs p0' p1' p2' p3' p4' ff0 ff1 ff2 ff3 ff4 hpz'
            obtain ⟨b, cc, ebb, hbz, -, -, hcl⟩ := HS.out.own.book HX.out
            injection ebb with eb1 eb2 eb3
            subst eb1 eb3
            have q1 := (hcl 1 _ rfl).1
            have qf := (hcl 1 _ rfl).2
            have HS2 := Lib.hid (HS.out.setB HX.out t rfl)
            clear hcl
            go_upto_region 12 with (fail)
            generalize W.setCell ⟨b, i * 2 + 1, none⟩ (.string t) = W2 at *
            clear p0 p1 p2 p3 p4 hpz hb3 hb4 HS q1 qf
            obtain ⟨⟨p0, p1, p2, p3, p4⟩, hpz⟩ := HS2.out.five
            obtain ⟨⟨e0, e1, e2, e3, e4⟩, hez⟩ := HS2.out.res5
            have f0 := HS2.out.resF 0
            have f1 := HS2.out.resF 1
            have f2 := HS2.out.resF 2
            have f3 := HS2.out.resF 3
            have f4 := HS2.out.resF 4
            have HOD := Lib.hid HS2.out.fin
            go_wp2_with fail
            refine bodyPost_ret (v := .tuple #[.agg #[.int .i64 s.nb, .int .i64 s.nn, .int .i64 s.ns, .slice (some ⟨b, 0, none⟩) s.books.length bc, .slice na s.notes.length nc], .int .i64 0]) ?_ rfl ?_
            · rw [results_cell_tmp rfl]
              go_simp
            · refine ret_okC (D := w.heap.size + 1) (s := { s with books := s.books.set i { x with name := t } }) HE.out ?_ HMAP.out
              repeat' (first | with_reducible exact HOD.out | with_reducible refine OwnD2.drew ?_ | with_reducible refine OwnD2.set ?_ (by omega) _ _)
end Go.Proofs.YtnajccljdjllgaaGreatDoor
set_option linter.unusedVariables false
set_option linter.unusedSimpArgs false
namespace Go.Proofs.YtnajccljdjllgaaGreatDoor
open Go.RowKit Go.Lib
theorem setCells_blk (b : Nat) : ∀ (vs : List Value) (o : Nat) (w : World) (cs : Array Value) (t : TypeId), w.heap[b]? = some (.cells cs t (0, 0)) →
    ∃ cs' : Array Value, (w.setCells b o vs).heap[b]? = some (.cells cs' t (0, 0)) ∧ cs'.size = cs.size ∧ (∀ j, j < o → cs'[j]? = cs[j]?) ∧ Turned b w (w.setCells b o vs)
  | [], o, w, cs, t, h => ⟨cs, h, rfl, fun _ _ => rfl, Turned.refl _ _⟩
  | v :: r, o, w, cs, t, h => by
    obtain ⟨cs', h1, h2, h3, h4⟩ := setCells_blk b r (o + 1) _ _ t (heap_setCell_same w b o cs t v h)
    have ht : Turned b w (w.setCell ⟨b, o, none⟩ v) := ⟨rfl, rfl, rfl, by simp, fun i _ hb => heap_setCell_other w ⟨b, o, none⟩ i v hb⟩
    refine ⟨cs', h1, by rw [h2]; simp, fun j hj => ?_, ht.trans h4⟩
    rw [h3 j (by omega), Array.getElem?_setIfInBounds_ne (by omega)]
section
variable {P : Program}
theorem run_clear {t e : TypeId} {z : Value} {k : Nat} (ht : P.underlying t = some (.slice e)) (hv : ∀ w, (zeroValue e).run P w = .ok z w) (hzs : z.cells.size = k) (hk : 0 < k) (h1 : ∀ u ∈ z.cells, u.oneCell' = true)
    (w : World) {b o n : Nat} (c : Nat) (hn : 0 < n) {cs : Array Value} {e' : TypeId} (hb : w.heap[b]? = some (.cells cs e' (0, 0))) (hs : o + n * k ≤ cs.size) :
    ∃ w' cs', (∀ ty, (Builtin.clear_ #[t] ty #[.slice (some ⟨b, o, none⟩) n c]).run P w = .ok (.tuple #[]) w') ∧ w'.heap[b]? = some (.cells cs' e' (0, 0)) ∧ cs'.size = cs.size ∧ (∀ j, j < o → cs'[j]? = cs[j]?) ∧ Turned b w w' := by
  have hl : (Builtin.zeroCells z.cells n).toList.length = n * k := by simp [Builtin.zeroCells, hzs]
  have hone : ∀ v ∈ (Builtin.zeroCells z.cells n).toList, v.oneCell' = true := fun v hm => by
    unfold Builtin.zeroCells at hm
    rw [Array.toList_map, List.mem_map] at hm
    obtain ⟨i, -, rfl⟩ := hm
    have hlt : i % z.cells.size < z.cells.size := Nat.mod_lt _ (by omega)
    have e : z.cells[i % z.cells.size]! = z.cells[i % z.cells.size]'hlt := by simp [hlt]
    rw [e]
    exact h1 _ (Array.getElem_mem hlt)
  have hst := run_storeCells_cells (P := P) b o (Builtin.zeroCells z.cells n).toList 0 w (fun j hj => by
    rw [cell_of_row w b _ _ _ _ hb, Array.getElem?_eq_getElem (by omega)]; rfl) (fun j hj => frozen_of_row w b _ _ _ hb) hone
  obtain ⟨cs', c1, c2, c3, c4⟩ := setCells_blk b (Builtin.zeroCells z.cells n).toList o w cs e' hb
  simp only [Nat.add_zero] at hst
  refine ⟨_, cs', fun ty => ?_, c1, c2, c3, c4⟩
  obtain ⟨m, rfl⟩ : ∃ m, n = m + 1 := ⟨n - 1, by omega⟩
  simp [Builtin.clear_, run_underlying ht, hv, hst]
end
/-- A row cut short, what lies behind it turned. -/
theorem RowO.cut {base b n c k i : Nat} {e : TypeId} {xs : List Value} {w w' : World} (h : RowO base e k (.slice (some ⟨b, 0, none⟩) n (c + 1)) n xs w) {cs cs' : Array Value} (hb : w.heap[b]? = some (.cells cs e (0, 0))) (hb' : w'.heap[b]? = some (.cells cs' e (0, 0))) (hs : cs'.size = cs.size) (hi : i ≤ n) (hj : ∀ j, j < i * k → cs'[j]? = cs[j]?) :
    RowO base e k (.slice (some ⟨b, 0, none⟩) i (c + 1)) i (xs.take (i * k)) w' := by
  have hlen := h.len
  rcases h with ⟨h1, ⟨h2, -⟩ | ⟨g, cap, cur, e2, h3, h4, h5, h6, h7, h8⟩⟩ | ⟨-, -, a, e2⟩
  · cases h2
  · injection e2 with e2 e3 e4
    injection e2 with e2
    injection e2 with e2
    subst e2 e4
    rw [hb] at h4
    injection h4 with h4
    injection h4 with h4
    subst h4
    have hm : i * k ≤ n * k := Nat.mul_le_mul_right k hi
    refine .inl ⟨by rw [List.length_take]; omega, .inr ⟨b, c + 1, cs', rfl, h3, hb', by omega, h6, by omega, ?_⟩⟩
    rw [← h8, List.take_take, Nat.min_eq_left hm]
    apply List.ext_getElem?
    intro j
    rw [List.getElem?_take, List.getElem?_take]
    split
    · rename_i hlt
      rw [Array.getElem?_toList, Array.getElem?_toList, hj j hlt]
    · rfl
  · injection e2 with _ _ e2
    omega
theorem flat_take {α : Type} (enc : α → List Value) {k : Nat} (hk : ∀ x, (enc x).length = k) : ∀ (l : List α) (i : Nat), (l.flatMap enc).take (i * k) = (l.take i).flatMap enc
  | [], i => by simp
  | x :: l, 0 => by simp
  | x :: l, i + 1 => by
    rw [List.take_succ_cons, List.flatMap_cons, List.flatMap_cons, ← flat_take enc hk l i, List.take_append, hk, List.take_of_length_le (by rw [hk, Nat.add_mul]; omega), show (i + 1) * k - k = i * k by rw [Nat.add_mul]; omega]
theorem idx_before {α : Type} {p : α → Bool} : ∀ {l : List α} {i : Nat}, idx p l = i → (l.take i).filter (fun x => !p x) = l.take i
  | [], i, h => by simp
  | x :: l, i, h => by
    unfold idx at h
    split at h
    · have : i = 0 := by omega
      subst this; simp
    · rename_i hp
      split at h
      · omega
      · cases i with
        | zero => simp
        | succ i =>
          rw [List.take_succ_cons, List.filter_cons_of_pos (by simpa using hp), idx_before (l := l) (p := p) (by omega)]
theorem filter_all {α : Type} {p : α → Bool} {l : List α} (h : idx p l < 0) : l.filter (fun x => !p x) = l := by
  rw [List.filter_eq_self]
  intro x hx
  rw [idx_neg.1 h x hx]; rfl
theorem filter_next {α : Type} {q : α → Bool} {l : List α} {j : Nat} {x : α} (hx : l[j]? = some x) : (l.take (j + 1)).filter q = (l.take j).filter q ++ (if q x then [x] else []) := by
  rw [List.take_add_one, hx, List.filter_append]
  congr 1
  cases h : q x <;> simp [h]
/-- What is kept and what is not yet looked at. -/
structure Mid {α : Type} (q : α → Bool) (l l' : List α) (i j : Nat) : Prop where
  len : l'.length = l.length
  le : i ≤ j
  jl : j ≤ l.length
  kept : l'.take i = (l.take j).filter q
  rest : l'.drop j = l.drop j
theorem Mid.get {α : Type} {q : α → Bool} {l l' : List α} {i j : Nat} (h : Mid q l l' i j) {x : α} (hx : l[j]? = some x) : l'[j]? = some x := by
  have h1 := congrArg (fun m => m[0]?) h.rest
  simp only [List.getElem?_drop, Nat.add_zero] at h1
  rw [h1, hx]
theorem Mid.skip {α : Type} {q : α → Bool} {l l' : List α} {i j : Nat} (h : Mid q l l' i j) {x : α} (hx : l[j]? = some x) (hq : q x = false) : Mid q l l' i (j + 1) := by
  have hj := (List.getElem?_eq_some_iff.1 hx).1
  have hr := congrArg (List.drop 1) h.rest
  rw [List.drop_drop, List.drop_drop] at hr
  refine ⟨h.len, by have := h.le; omega, hj, ?_, hr⟩
  rw [filter_next hx, hq, if_neg (by simp), List.append_nil]; exact h.kept
theorem Mid.keep {α : Type} {q : α → Bool} {l l' : List α} {i j : Nat} (h : Mid q l l' i j) {x : α} (hx : l[j]? = some x) (hq : q x = true) : Mid q l (l'.set i x) (i + 1) (j + 1) := by
  have hj := (List.getElem?_eq_some_iff.1 hx).1
  have hle := h.le
  have hlen := h.len
  have hr := congrArg (List.drop 1) h.rest
  rw [List.drop_drop, List.drop_drop] at hr
  refine ⟨by rw [List.length_set]; exact hlen, by omega, hj, ?_, ?_⟩
  · rw [filter_next hx, if_pos hq, ← h.kept, List.take_add_one, List.getElem?_set_self (by omega), List.take_set_of_le (Nat.le_refl _)]; rfl
  · rw [List.drop_set_of_lt (by omega)]; exact hr
theorem Mid.done {α : Type} {q : α → Bool} {l l' : List α} {i : Nat} (h : Mid q l l' i l.length) : l'.take i = l.filter q := by
  rw [h.kept, List.take_length]
theorem Mid.start {α : Type} {p : α → Bool} {l : List α} {i : Nat} (h : idx p l = i) : Mid (fun x => !p x) l l i (i + 1) := by
  obtain ⟨x, hx, hp⟩ := idx_get h (by omega)
  rw [Int.toNat_natCast] at hx
  have hi := (List.getElem?_eq_some_iff.1 hx).1
  refine ⟨rfl, by omega, hi, ?_, rfl⟩
  rw [filter_next hx, hp]
  simp [idx_before h]
theorem setCells_get (b : Nat) : ∀ (vs : List Value) (o : Nat) (w : World) (cs : Array Value) (t : TypeId), w.heap[b]? = some (.cells cs t (0, 0)) → o + vs.length ≤ cs.size →
    ∃ cs' : Array Value, (w.setCells b o vs).heap[b]? = some (.cells cs' t (0, 0)) ∧ cs'.size = cs.size ∧ (∀ j, j < o ∨ o + vs.length ≤ j → cs'[j]? = cs[j]?) ∧ (∀ j, j < vs.length → cs'[o + j]? = vs[j]?) ∧ Turned b w (w.setCells b o vs)
  | [], o, w, cs, t, h, _ => ⟨cs, h, rfl, fun _ _ => rfl, fun j hj => absurd hj (Nat.not_lt_zero _), Turned.refl _ _⟩
  | v :: r, o, w, cs, t, h, hs => by
    rw [List.length_cons] at hs
    obtain ⟨cs', h1, h2, h3, h4, h5⟩ := setCells_get b r (o + 1) _ _ t (heap_setCell_same w b o cs t v h) (by simp; omega)
    have ht : Turned b w (w.setCell ⟨b, o, none⟩ v) := ⟨rfl, rfl, rfl, by simp, fun i _ hb => heap_setCell_other w ⟨b, o, none⟩ i v hb⟩
    refine ⟨cs', h1, by rw [h2]; simp, fun j hj => ?_, fun j hj => ?_, ht.trans h5⟩
    · rw [List.length_cons] at hj
      rw [h3 j (by omega), Array.getElem?_setIfInBounds_ne (by omega)]
    · cases j with
      | zero => rw [Nat.add_zero, h3 o (by omega), Array.getElem?_setIfInBounds_self_of_lt (by omega)]; rfl
      | succ j =>
        rw [List.length_cons] at hj
        rw [show o + (j + 1) = o + 1 + j by omega, h4 j (by omega)]; rfl
/-- An element is stored, cell by cell. -/
theorem put_row {α : Type} (enc : α → List Value) {k : Nat} (hk : ∀ x, (enc x).length = k) (h0 : 0 < k) {base b n c : Nat} {e : TypeId} {l : List α} {w : World} (h : RowO base e k (.slice (some ⟨b, 0, none⟩) n (c + 1)) n (l.flatMap enc) w) (hn : l.length = n) {i : Nat} (hi : i < n) (x : α) :
    RowO base e k (.slice (some ⟨b, 0, none⟩) n (c + 1)) n ((l.set i x).flatMap enc) (w.setCells b (i * k) (enc x)) ∧ Turned b w (w.setCells b (i * k) (enc x)) := by
  rcases h with ⟨h1, ⟨h2, -⟩ | ⟨g, cap, cur, e2, h3, h4, h5, h6, h7, h8⟩⟩ | ⟨-, -, a, e2⟩
  · cases h2
  · injection e2 with e2 e3 e4
    injection e2 with e2
    injection e2 with e2
    subst e2 e4
    have hm : (i + 1) * k ≤ n * k := Nat.mul_le_mul_right k hi
    have hm2 : n * k ≤ (c + 1) * k := Nat.mul_le_mul_right k h5
    rw [Nat.add_mul, Nat.one_mul] at hm
    obtain ⟨cs', c1, c2, c3, c4, c5⟩ := setCells_get b (enc x) (i * k) w cur e h4 (by rw [hk]; omega)
    refine ⟨.inl ⟨by rw [flat_len enc hk, List.length_set, hn], .inr ⟨b, c + 1, cs', rfl, h3, c1, h5, h6, by omega, ?_⟩⟩, c5⟩
    apply List.ext_getElem?
    intro j
    rw [List.getElem?_take]
    split
    · rename_i hj
      rw [Array.getElem?_toList]
      have hd : j = j / k * k + j % k := by rw [Nat.mul_comm]; exact (Nat.div_add_mod j k).symm
      have hmod : j % k < k := Nat.mod_lt _ h0
      have hq : j / k < n := Nat.div_lt_of_lt_mul (by rw [Nat.mul_comm]; exact hj)
      obtain ⟨z, hz, -⟩ := lt_get (l := l.set i x) (i := j / k) (by rw [List.length_set]; omega)
      have g1 := flat_get enc hk _ (j / k) (j % k) z hz hmod
      rw [← hd] at g1
      rw [g1]
      by_cases e1 : j / k = i
      · rw [← e1, List.getElem?_set_self (by omega)] at hz
        obtain rfl := Option.some.inj hz
        have := c4 (j % k) (by rw [hk]; exact hmod)
        rw [← e1, ← hd] at this
        exact this
      · rw [List.getElem?_set_ne (Ne.symm e1)] at hz
        have g2 := flat_get enc hk _ (j / k) (j % k) z hz hmod
        rw [← hd, ← h8, List.getElem?_take_of_lt hj, Array.getElem?_toList] at g2
        rw [← g2]
        refine c3 j ?_
        rw [hk]
        apply Classical.byContradiction
        intro hcon
        have : j / k = i := Nat.div_eq_of_lt_le (by omega) (by rw [Nat.add_mul]; omega)
        exact e1 this
    · rename_i hj
      rw [List.getElem?_eq_none (by rw [flat_len enc hk, List.length_set, hn]; omega)]
  · injection e2 with _ _ e2
    omega
theorem row_cells {α : Type} (enc : α → List Value) {k : Nat} (hk : ∀ x, (enc x).length = k) {base b n c : Nat} {e : TypeId} {l : List α} {w : World} (h : RowO base e k (.slice (some ⟨b, 0, none⟩) n c) n (l.flatMap enc) w) {i : Nat} {y : α} (hy : l[i]? = some y) (f : Nat) (u : Value) (hu : (enc y)[f]? = some u) :
    w.cell? ⟨b, i * k + f, none⟩ = some u ∧ w.frozen? ⟨b, i * k + f, none⟩ = false ∧ b < w.heap.size := by
  have hf : f < k := by have := (List.getElem?_eq_some_iff.1 hu).1; rw [hk] at this; exact this
  have hc : (l.flatMap enc)[i * k + f]? = some u := by rw [flat_get enc hk l i f y hy hf]; exact hu
  obtain ⟨b1, c1, e1, h1, h2, h3, -⟩ := h.cell hc
  injection e1 with e1
  injection e1 with e1
  injection e1 with e1
  subst e1
  exact ⟨h1, h2, h3⟩
end Go.Proofs.YtnajccljdjllgaaGreatDoor
set_option linter.unusedVariables false
set_option linter.unusedSimpArgs false
namespace Go.Proofs.YtnajccljdjllgaaGreatDoor
open Go.RowKit Go.Lib
set_option maxRecDepth 100000 in
set_option maxHeartbeats 4000000 in
theorem delNotes (base : Nat) (v : Value) (X : List NV) (g : Nat) (lb : Array Value) (p : NV → Bool) (w : World) (h : RowO base 46 5 v X.length (X.flatMap noteC) w) (hz : X.length ≤ 1000000) (hb0 : base ≤ w.heap.size) (eg : ∀ args w, (callFunc g args).run Tryz.prog w = .ok (.enter g args) w)
    (hsl : ∀ x ∈ X, ∃ ta tn tc sa sn sc, x.tv = .slice ta tn tc ∧ x.sv = .slice sa sn sc)
    (hp : ∀ W x, Kept 46 w W → w.heap.size ≤ W.heap.size → x ∈ X → Calls Tryz.prog g (#[.agg #[.int .i64 x.n.id, .int .i64 x.n.book, .string x.n.name, x.tv, x.sv]] ++ lb) W fun e w' => e = .returned (.bool (p x)) ∧ Grow W w')
    (hix : Calls Tryz.prog 81 #[v, .func (.func g) #[] lb] w fun e w' => e = .returned (.int .i64 (idx p X)) ∧ Grow w w') :
    Calls Tryz.prog 63 #[v, .func (.func g) #[] lb] w fun e w' => ∃ v', e = .returned v' ∧ RowO base 46 5 v' (X.filter fun x => !p x).length ((X.filter fun x => !p x).flatMap noteC) w' ∧ w.grownBy w' (blkOf v) ∧ blkOf v' = blkOf v := by
  obtain ⟨a, c, rfl, hc⟩ := h.slice
  have HH := Lib.hid h
  have HP := Lib.hid hp
  have hbd := idx_bd p X
  clear hp
  by_cases hneg : idx p X < 0
  · have HF := Lib.hid (filter_all hneg)
    have e1 : idx p X = -1 := by omega
    rw [e1] at hix
    clear h hneg e1 hbd
    go_enter Tryz.func63, Tryz.ntmps63
    go_wp2_with fail
    refine hix.mono ?_
    rintro e w1 ⟨rfl, g1⟩
    go_wp2_with fail
    go_ret
    exact ⟨_, rfl, by rw [HF.out]; exact HH.out.grow g1, ⟨g1.os, g1.tape, g1.output, g1.size, fun k hk _ => g1.block k hk⟩, rfl⟩
  · obtain ⟨i0, hi0⟩ : ∃ i0 : Nat, idx p X = i0 := ⟨(idx p X).toNat, by omega⟩
    have HM0 := Lib.hid (Mid.start hi0)
    obtain ⟨x0, hx0, -⟩ := idx_get hi0 (by omega)
    have hi0l : i0 < X.length := by have := (List.getElem?_eq_some_iff.1 hx0).1; simpa using this
    obtain ⟨b, cc, hbc⟩ : ∃ b cc, (Value.slice a X.length c) = .slice (some ⟨b, 0, none⟩) X.length (cc + 1) := by
      obtain ⟨x, hx, -⟩ := lt_get hi0l
      obtain ⟨u, hu⟩ : ∃ u, (X.flatMap noteC)[i0 * 5 + 0]? = some u := ⟨_, (flat_get noteC (fun _ => rfl) X i0 0 x hx (by decide)).trans rfl⟩
      obtain ⟨b, c', e, -⟩ := h.cell hu
      injection e with e1 e2 e3
      cases c with
      | zero => omega
      | succ c => exact ⟨b, c, by rw [e1]⟩
    injection hbc with e1 e2 e3
    subst e1 e3
    rw [hi0] at hix
    clear h hneg hbd hi0 hx0
    have HB := Lib.hid (HH.out.blk (g := b) rfl)
    have hi00 : ((i0 : Int) == -1) = false := by rw [beq_eq_false_iff_ne]; omega
    go_enter Tryz.func63, Tryz.ntmps63
    go_wp2_with fail
    refine hix.mono ?_
    rintro e w1 ⟨rfl, g1⟩
    have HG1 := Lib.hid g1
    clear hix g1
    go_wp2_with fail
    go_loopw [5, 6] (fun v5 v6 wx => ∃ (i j : Nat) (l' : List NV), v5 = .int .i64 i ∧ v6 = .int .i64 j ∧ Mid (fun x => !p x) X l' i j ∧ i < j ∧ RowO base 46 5 (.slice (some ⟨b, 0, none⟩) X.length (cc + 1)) X.length (l'.flatMap noteC) wx ∧ Turned b w wx) (fun _ v6 _ => X.length - (Go.RowKit.intOf v6).toNat)
    case atStart => exact ⟨i0, i0 + 1, X, rfl, by go_num, HM0.out, by omega, HH.out.grow HG1.out, Turned.of_grow HG1.out⟩
    case round =>
      obtain ⟨i, j, l', rfl, rfl, hm, hij, hr, ht⟩ := hrel
      have HM := Lib.hid hm
      have HR := Lib.hid hr
      have HT := Lib.hid ht
      have hjl := hm.jl
      have hll := hm.len
      by_cases hlt : j < X.length
      · have hlt' : (j : Int) < X.length := by omega
        obtain ⟨x, hx, -⟩ := lt_get hlt
        have hx' := hm.get hx
        obtain ⟨ta, tn, tc, sa, sn, sc, etv, esv⟩ := hsl x (List.mem_of_getElem? hx)
        have q0 : wr.cell? ⟨b, j * 5, none⟩ = some (.int .i64 x.n.id) := (row_cells noteC (fun _ => rfl) hr hx' 0 _ rfl).1
        have q1 : wr.cell? ⟨b, j * 5 + 1, none⟩ = some (.int .i64 x.n.book) := (row_cells noteC (fun _ => rfl) hr hx' 1 _ rfl).1
        have q2 : wr.cell? ⟨b, j * 5 + 2, none⟩ = some (.string x.n.name) := (row_cells noteC (fun _ => rfl) hr hx' 2 _ rfl).1
        have q3 : wr.cell? ⟨b, j * 5 + 3, none⟩ = some (.slice ta tn tc) := etv ▸ (row_cells noteC (fun _ => rfl) hr hx' 3 _ rfl).1
        have q4 : wr.cell? ⟨b, j * 5 + 4, none⟩ = some (.slice sa sn sc) := esv ▸ (row_cells noteC (fun _ => rfl) hr hx' 4 _ rfl).1
        have hbw := (row_cells noteC (fun _ => rfl) hr hx' 0 _ rfl).2.2
        have hkp : Kept 46 w wr := by
          obtain ⟨cur, hcur⟩ := HB.out.2
          exact kept_of_turned hcur ht
        have cP := HP.out (wr.alloc (.cells #[.int .i64 x.n.id, .int .i64 x.n.book, .string x.n.name, .slice ta tn tc, .slice sa sn sc] 46)) x (hkp.alloc _) (by simp; have := ht.size; omega) (List.mem_of_getElem? hx)
        have HX := Lib.hid hx
        obtain ⟨y, hy, -⟩ := lt_get (l := l') (i := i) (by omega)
        have HY := Lib.hid hy
        rw [etv, esv] at cP
        clear hm hr ht hx hx' hkp hy
        cases hpx : p x
        · rw [hpx] at cP
          have HPX := Lib.hid (show (fun x => !p x) x = true by simp [hpx])
          clear hpx
          go_wp2_with fail
          refine cP.mono ?_
          rintro e w2 ⟨rfl, g2⟩
          have hbx := g2.blk (heap_alloc_new wr (.cells #[.int .i64 x.n.id, .int .i64 x.n.book, .string x.n.name, .slice ta tn tc, .slice sa sn sc] 46))
          replace g2 := ((Grow.refl wr).alloc _).trans g2
          have x0 : w2.cell? ⟨wr.heap.size, 0, none⟩ = some (.int .i64 x.n.id) := cell_of_row w2 _ 0 _ _ _ hbx
          have x1 : w2.cell? ⟨wr.heap.size, 1, none⟩ = some (.int .i64 x.n.book) := cell_of_row w2 _ 1 _ _ _ hbx
          have x2 : w2.cell? ⟨wr.heap.size, 2, none⟩ = some (.string x.n.name) := cell_of_row w2 _ 2 _ _ _ hbx
          have x3 : w2.cell? ⟨wr.heap.size, 3, none⟩ = some (.slice ta tn tc) := cell_of_row w2 _ 3 _ _ _ hbx
          have x4 : w2.cell? ⟨wr.heap.size, 4, none⟩ = some (.slice sa sn sc) := cell_of_row w2 _ 4 _ _ _ hbx
          have hbz : wr.heap.size < w2.heap.size := (Array.getElem?_eq_some_iff.1 hbx).1
          clear hbx
          have HR2 := Lib.hid (HR.out.grow g2)
          have hbw2 : b < w2.heap.size := Nat.lt_of_lt_of_le hbw g2.size
          have s0 : w2.cell? ⟨b, i * 5, none⟩ = some (.int .i64 y.n.id) := (row_cells noteC (fun _ => rfl) HR2.out HY.out 0 _ rfl).1
          have f0 : w2.frozen? ⟨b, i * 5, none⟩ = false := (row_cells noteC (fun _ => rfl) HR2.out HY.out 0 _ rfl).2.1
          have s1 : w2.cell? ⟨b, i * 5 + 1, none⟩ = some (.int .i64 y.n.book) := (row_cells noteC (fun _ => rfl) HR2.out HY.out 1 _ rfl).1
          have f1 : w2.frozen? ⟨b, i * 5 + 1, none⟩ = false := (row_cells noteC (fun _ => rfl) HR2.out HY.out 1 _ rfl).2.1
          have s2 : w2.cell? ⟨b, i * 5 + 2, none⟩ = some (.string y.n.name) := (row_cells noteC (fun _ => rfl) HR2.out HY.out 2 _ rfl).1
          have f2 : w2.frozen? ⟨b, i * 5 + 2, none⟩ = false := (row_cells noteC (fun _ => rfl) HR2.out HY.out 2 _ rfl).2.1
          have s3 : w2.cell? ⟨b, i * 5 + 3, none⟩ = some (y.tv) := (row_cells noteC (fun _ => rfl) HR2.out HY.out 3 _ rfl).1
          have f3 : w2.frozen? ⟨b, i * 5 + 3, none⟩ = false := (row_cells noteC (fun _ => rfl) HR2.out HY.out 3 _ rfl).2.1
          have s4 : w2.cell? ⟨b, i * 5 + 4, none⟩ = some (y.sv) := (row_cells noteC (fun _ => rfl) HR2.out HY.out 4 _ rfl).1
          have f4 : w2.frozen? ⟨b, i * 5 + 4, none⟩ = false := (row_cells noteC (fun _ => rfl) HR2.out HY.out 4 _ rfl).2.1
          have HPT := Lib.hid (put_row noteC (fun _ => rfl) (by decide) HR2.out (by omega) (show i < X.length by omega) x)
          have HT2 := Lib.hid (HT.out.trans (Turned.of_grow g2))
          clear cP g2
          go_wp2_with fail
          go_roundw
          case rel => exact ⟨i + 1, j + 1, l'.set i x, by go_num, by go_num, HM.out.keep HX.out HPX.out, by omega, by have := HPT.out.1; unfold noteC at this; rw [etv, esv] at this; exact this, by have := HT2.out.trans HPT.out.2; unfold noteC at this; rw [etv, esv] at this; exact this⟩
          case measure => simp [Go.RowKit.intOf]; omega
        · rw [hpx] at cP
          have HPX := Lib.hid (show (fun x => !p x) x = false by simp [hpx])
          clear hpx
          go_wp2_with fail
          refine cP.mono ?_
          rintro e w2 ⟨rfl, g2⟩
          replace g2 := ((Grow.refl wr).alloc _).trans g2
          have HR2 := Lib.hid (HR.out.grow g2)
          have HT2 := Lib.hid (HT.out.trans (Turned.of_grow g2))
          clear cP g2
          go_wp2_with fail
          go_roundw
          case rel => exact ⟨i, j + 1, l', rfl, by go_num, HM.out.skip HX.out HPX.out, by omega, HR2.out, HT2.out⟩
          case measure => simp [Go.RowKit.intOf]; omega
      · have hlt' : ¬ (j : Int) < X.length := by omega
        obtain rfl : j = X.length := by omega
        obtain ⟨-, cur, hcur⟩ := hr.blk (g := b) rfl
        have hsz : cur.size = (cc + 1) * 5 ∧ X.length ≤ cc + 1 := by
          rcases hr with ⟨-, ⟨h2, -⟩ | ⟨g, cap, cur2, e2, h3, h4, h5, h6, h7, h8⟩⟩ | ⟨-, -, a, e2⟩
          · cases h2
          · injection e2 with e2 e3 e4
            injection e2 with e2
            injection e2 with e2
            subst e2 e4
            rw [hcur] at h4
            injection h4 with h4
            injection h4 with h4
            subst h4
            exact ⟨h7, h5⟩
          · injection e2 with _ _ e2
            omega
        obtain ⟨wz, cs', hcl, hbz, hsz', hkz, htz⟩ := run_clear (P := Tryz.prog) (t := 23) (k := 5) Tryz.underlying23 (z := .agg #[.int .i64 0, .int .i64 0, .string ⟨#[]⟩, .slice none 0 0, .slice none 0 0]) (fun _ => by kernel_rfl) rfl (by decide) (by decide) wr (b := b) (o := i * 5) (n := X.length - i) (cc + 1 - i) (by omega) hcur (by rw [hsz.1, ← Nat.add_mul]; exact Nat.mul_le_mul_right _ (by omega))
        have HRZ := Lib.hid (hr.cut hcur hbz hsz' (by omega) hkz)
        have HDN := Lib.hid hm.done
        have HTZ := Lib.hid (ht.trans htz)
        have hi1 : (i : Int) ≤ X.length := by omega
        have hi2 : (i : Int) ≤ ((cc : Int) + 1) := by omega
        have hsz2 := hsz.2
        clear hr ht hm hcur hsz hbz hsz' hkz htz
        go_wp2_with fail
        go_ret
        refine ⟨_, rfl, ?_, ⟨HTZ.out.os, HTZ.out.tape, HTZ.out.output, HTZ.out.size, fun k hk hne => HTZ.out.block k hk fun e => hne (by rw [e]; rfl)⟩, rfl⟩
        have := HRZ.out
        rw [flat_take noteC (fun _ => rfl), HDN.out] at this
        have hl2 : (X.filter fun x => !p x).length = i := by rw [← HDN.out, List.length_take]; omega
        rw [hl2]
        exact this
end Go.Proofs.YtnajccljdjllgaaGreatDoor
set_option linter.unusedVariables false
set_option linter.unusedSimpArgs false
namespace Go.Proofs.YtnajccljdjllgaaGreatDoor
open Go.RowKit Go.Lib
set_option maxRecDepth 100000 in
set_option maxHeartbeats 4000000 in
theorem delBooks (base : Nat) (v : Value) (X : List Book) (g : Nat) (lb : Array Value) (p : Book → Bool) (w : World) (h : RowO base 58 2 v X.length (X.flatMap bookC) w) (hz : X.length ≤ 1000000) (hb0 : base ≤ w.heap.size) (eg : ∀ args w, (callFunc g args).run Tryz.prog w = .ok (.enter g args) w)
    (hp : ∀ W x, Kept 58 w W → w.heap.size ≤ W.heap.size → x ∈ X → Calls Tryz.prog g (#[.agg #[.int .i64 x.id, .string x.name]] ++ lb) W fun e w' => e = .returned (.bool (p x)) ∧ Grow W w')
    (hix : Calls Tryz.prog 71 #[v, .func (.func g) #[] lb] w fun e w' => e = .returned (.int .i64 (idx p X)) ∧ Grow w w') :
    Calls Tryz.prog 61 #[v, .func (.func g) #[] lb] w fun e w' => ∃ v', e = .returned v' ∧ RowO base 58 2 v' (X.filter fun x => !p x).length ((X.filter fun x => !p x).flatMap bookC) w' ∧ w.grownBy w' (blkOf v) ∧ blkOf v' = blkOf v := by
  obtain ⟨a, c, rfl, hc⟩ := h.slice
  have HH := Lib.hid h
  have HP := Lib.hid hp
  have hbd := idx_bd p X
  clear hp
  by_cases hneg : idx p X < 0
  · have HF := Lib.hid (filter_all hneg)
    have e1 : idx p X = -1 := by omega
    rw [e1] at hix
    clear h hneg e1 hbd
    go_enter Tryz.func61, Tryz.ntmps61
    go_wp2_with fail
    refine hix.mono ?_
    rintro e w1 ⟨rfl, g1⟩
    go_wp2_with fail
    go_ret
    exact ⟨_, rfl, by rw [HF.out]; exact HH.out.grow g1, ⟨g1.os, g1.tape, g1.output, g1.size, fun k hk _ => g1.block k hk⟩, rfl⟩
  · obtain ⟨i0, hi0⟩ : ∃ i0 : Nat, idx p X = i0 := ⟨(idx p X).toNat, by omega⟩
    have HM0 := Lib.hid (Mid.start hi0)
    obtain ⟨x0, hx0, -⟩ := idx_get hi0 (by omega)
    have hi0l : i0 < X.length := by have := (List.getElem?_eq_some_iff.1 hx0).1; simpa using this
    obtain ⟨b, cc, hbc⟩ : ∃ b cc, (Value.slice a X.length c) = .slice (some ⟨b, 0, none⟩) X.length (cc + 1) := by
      obtain ⟨x, hx, -⟩ := lt_get hi0l
      obtain ⟨u, hu⟩ : ∃ u, (X.flatMap bookC)[i0 * 2 + 0]? = some u := ⟨_, (flat_get bookC (fun _ => rfl) X i0 0 x hx (by decide)).trans rfl⟩
      obtain ⟨b, c', e, -⟩ := h.cell hu
      injection e with e1 e2 e3
      cases c with
      | zero => omega
      | succ c => exact ⟨b, c, by rw [e1]⟩
    injection hbc with e1 e2 e3
    subst e1 e3
    rw [hi0] at hix
    clear h hneg hbd hi0 hx0
    have HB := Lib.hid (HH.out.blk (g := b) rfl)
    have hi00 : ((i0 : Int) == -1) = false := by rw [beq_eq_false_iff_ne]; omega
    go_enter Tryz.func61, Tryz.ntmps61
    go_wp2_with fail
    refine hix.mono ?_
    rintro e w1 ⟨rfl, g1⟩
    have HG1 := Lib.hid g1
    clear hix g1
    go_wp2_with fail
    go_loopw [5, 6] (fun v5 v6 wx => ∃ (i j : Nat) (l' : List Book), v5 = .int .i64 i ∧ v6 = .int .i64 j ∧ Mid (fun x => !p x) X l' i j ∧ i < j ∧ RowO base 58 2 (.slice (some ⟨b, 0, none⟩) X.length (cc + 1)) X.length (l'.flatMap bookC) wx ∧ Turned b w wx) (fun _ v6 _ => X.length - (Go.RowKit.intOf v6).toNat)
    case atStart => exact ⟨i0, i0 + 1, X, rfl, by go_num, HM0.out, by omega, HH.out.grow HG1.out, Turned.of_grow HG1.out⟩
    case round =>
      obtain ⟨i, j, l', rfl, rfl, hm, hij, hr, ht⟩ := hrel
      have HM := Lib.hid hm
      have HR := Lib.hid hr
      have HT := Lib.hid ht
      have hjl := hm.jl
      have hll := hm.len
      by_cases hlt : j < X.length
      · have hlt' : (j : Int) < X.length := by omega
        obtain ⟨x, hx, -⟩ := lt_get hlt
        have hx' := hm.get hx
        have q0 : wr.cell? ⟨b, j * 2, none⟩ = some (.int .i64 x.id) := (row_cells bookC (fun _ => rfl) hr hx' 0 _ rfl).1
        have q1 : wr.cell? ⟨b, j * 2 + 1, none⟩ = some (.string x.name) := (row_cells bookC (fun _ => rfl) hr hx' 1 _ rfl).1
        have hbw := (row_cells bookC (fun _ => rfl) hr hx' 0 _ rfl).2.2
        have hkp : Kept 58 w wr := by
          obtain ⟨cur, hcur⟩ := HB.out.2
          exact kept_of_turned hcur ht
        have cP := HP.out (wr.alloc (.cells #[.int .i64 x.id, .string x.name] 58)) x (hkp.alloc _) (by simp; have := ht.size; omega) (List.mem_of_getElem? hx)
        have HX := Lib.hid hx
        obtain ⟨y, hy, -⟩ := lt_get (l := l') (i := i) (by omega)
        have HY := Lib.hid hy
        clear hm hr ht hx hx' hkp hy
        cases hpx : p x
        · rw [hpx] at cP
          have HPX := Lib.hid (show (fun x => !p x) x = true by simp [hpx])
          clear hpx
          go_wp2_with fail
          refine cP.mono ?_
          rintro e w2 ⟨rfl, g2⟩
          have hbx := g2.blk (heap_alloc_new wr (.cells #[.int .i64 x.id, .string x.name] 58))
          replace g2 := ((Grow.refl wr).alloc _).trans g2
          have x0 : w2.cell? ⟨wr.heap.size, 0, none⟩ = some (.int .i64 x.id) := cell_of_row w2 _ 0 _ _ _ hbx
          have x1 : w2.cell? ⟨wr.heap.size, 1, none⟩ = some (.string x.name) := cell_of_row w2 _ 1 _ _ _ hbx
          have hbz : wr.heap.size < w2.heap.size := (Array.getElem?_eq_some_iff.1 hbx).1
          clear hbx
          have HR2 := Lib.hid (HR.out.grow g2)
          have hbw2 : b < w2.heap.size := Nat.lt_of_lt_of_le hbw g2.size
          have s0 : w2.cell? ⟨b, i * 2, none⟩ = some (.int .i64 y.id) := (row_cells bookC (fun _ => rfl) HR2.out HY.out 0 _ rfl).1
          have f0 : w2.frozen? ⟨b, i * 2, none⟩ = false := (row_cells bookC (fun _ => rfl) HR2.out HY.out 0 _ rfl).2.1
          have s1 : w2.cell? ⟨b, i * 2 + 1, none⟩ = some (.string y.name) := (row_cells bookC (fun _ => rfl) HR2.out HY.out 1 _ rfl).1
          have f1 : w2.frozen? ⟨b, i * 2 + 1, none⟩ = false := (row_cells bookC (fun _ => rfl) HR2.out HY.out 1 _ rfl).2.1
          have HPT := Lib.hid (put_row bookC (fun _ => rfl) (by decide) HR2.out (by omega) (show i < X.length by omega) x)
          have HT2 := Lib.hid (HT.out.trans (Turned.of_grow g2))
          clear cP g2
          go_wp2_with fail
          go_roundw
          case rel => exact ⟨i + 1, j + 1, l'.set i x, by go_num, by go_num, HM.out.keep HX.out HPX.out, by omega, HPT.out.1, HT2.out.trans HPT.out.2⟩
          case measure => simp [Go.RowKit.intOf]; omega
        · rw [hpx] at cP
          have HPX := Lib.hid (show (fun x => !p x) x = false by simp [hpx])
          clear hpx
          go_wp2_with fail
          refine cP.mono ?_
          rintro e w2 ⟨rfl, g2⟩
          replace g2 := ((Grow.refl wr).alloc _).trans g2
          have HR2 := Lib.hid (HR.out.grow g2)
          have HT2 := Lib.hid (HT.out.trans (Turned.of_grow g2))
          clear cP g2
          go_wp2_with fail
          go_roundw
          case rel => exact ⟨i, j + 1, l', rfl, by go_num, HM.out.skip HX.out HPX.out, by omega, HR2.out, HT2.out⟩
          case measure => simp [Go.RowKit.intOf]; omega
      · have hlt' : ¬ (j : Int) < X.length := by omega
        obtain rfl : j = X.length := by omega
        obtain ⟨-, cur, hcur⟩ := hr.blk (g := b) rfl
        have hsz : cur.size = (cc + 1) * 2 ∧ X.length ≤ cc + 1 := by
          rcases hr with ⟨-, ⟨h2, -⟩ | ⟨g, cap, cur2, e2, h3, h4, h5, h6, h7, h8⟩⟩ | ⟨-, -, a, e2⟩
          · cases h2
          · injection e2 with e2 e3 e4
            injection e2 with e2
            injection e2 with e2
            subst e2 e4
            rw [hcur] at h4
            injection h4 with h4
            injection h4 with h4
            subst h4
            exact ⟨h7, h5⟩
          · injection e2 with _ _ e2
            omega
        obtain ⟨wz, cs', hcl, hbz, hsz', hkz, htz⟩ := run_clear (P := Tryz.prog) (t := 22) (k := 2) Tryz.underlying22 (z := .agg #[.int .i64 0, .string ⟨#[]⟩]) (fun _ => by kernel_rfl) rfl (by decide) (by decide) wr (b := b) (o := i * 2) (n := X.length - i) (cc + 1 - i) (by omega) hcur (by rw [hsz.1, ← Nat.add_mul]; exact Nat.mul_le_mul_right _ (by omega))
        have HRZ := Lib.hid (hr.cut hcur hbz hsz' (by omega) hkz)
        have HDN := Lib.hid hm.done
        have HTZ := Lib.hid (ht.trans htz)
        have hi1 : (i : Int) ≤ X.length := by omega
        have hi2 : (i : Int) ≤ ((cc : Int) + 1) := by omega
        have hsz2 := hsz.2
        clear hr ht hm hcur hsz hbz hsz' hkz htz
        go_wp2_with fail
        go_ret
        refine ⟨_, rfl, ?_, ⟨HTZ.out.os, HTZ.out.tape, HTZ.out.output, HTZ.out.size, fun k hk hne => HTZ.out.block k hk fun e => hne (by rw [e]; rfl)⟩, rfl⟩
        have := HRZ.out
        rw [flat_take bookC (fun _ => rfl), HDN.out] at this
        have hl2 : (X.filter fun x => !p x).length = i := by rw [← HDN.out, List.length_take]; omega
        rw [hl2]
        exact this
end Go.Proofs.YtnajccljdjllgaaGreatDoor
set_option linter.unusedVariables false
set_option linter.unusedSimpArgs false
namespace Go.Proofs.YtnajccljdjllgaaGreatDoor
open Go.RowKit Go.Lib
set_option maxRecDepth 100000 in
theorem drop1_any (x : Book) (n : Int) (B : Nat) (w : World) (h : w.heap[B]? = some (.cells #[.int .i64 n] 3 (0, 0))) :
    Calls Tryz.prog 62 #[bookV x, .pointer (some ⟨B, 0, none⟩)] w fun e w' => e = .returned (.bool (x.id == n)) ∧ Grow w w' := by
  have hb : B < w.heap.size := (Array.getElem?_eq_some_iff.1 h).1
  have h0 : w.cell? ⟨B, 0, none⟩ = some (.int .i64 n) := (cell_of_row w B 0 _ _ _ h).trans rfl
  clear h
  unfold bookV
  go_enter Tryz.func62, Tryz.ntmps62
  go_wp2_with fail
  go_ret
  exact ⟨rfl, (Grow.refl w).alloc _⟩
set_option maxRecDepth 100000 in
theorem drop2_any (x : Note) (tv sv : Value) (n : Int) (B : Nat) (w : World) (h : w.heap[B]? = some (.cells #[.int .i64 n] 3 (0, 0))) :
    Calls Tryz.prog 64 #[noteV x tv sv, .pointer (some ⟨B, 0, none⟩)] w fun e w' => e = .returned (.bool (x.book == n)) ∧ Grow w w' := by
  have hb : B < w.heap.size := (Array.getElem?_eq_some_iff.1 h).1
  have h0 : w.cell? ⟨B, 0, none⟩ = some (.int .i64 n) := (cell_of_row w B 0 _ _ _ h).trans rfl
  clear h
  unfold noteV
  go_enter Tryz.func64, Tryz.ntmps64
  go_wp2_with fail
  go_ret
  exact ⟨rfl, (Grow.refl w).alloc _⟩
set_option maxRecDepth 100000 in
theorem disc1_any (x : Note) (tv sv : Value) (n : Int) (B : Nat) (w : World) (h : w.heap[B]? = some (.cells #[.int .i64 n] 3 (0, 0))) :
    Calls Tryz.prog 67 #[noteV x tv sv, .pointer (some ⟨B, 0, none⟩)] w fun e w' => e = .returned (.bool (x.id == n)) ∧ Grow w w' := by
  have hb : B < w.heap.size := (Array.getElem?_eq_some_iff.1 h).1
  have h0 : w.cell? ⟨B, 0, none⟩ = some (.int .i64 n) := (cell_of_row w B 0 _ _ _ h).trans rfl
  clear h
  unfold noteV
  go_enter Tryz.func67, Tryz.ntmps67
  go_wp2_with fail
  go_ret
  exact ⟨rfl, (Grow.refl w).alloc _⟩
theorem idx_map {α β : Type} (f : α → β) (p : β → Bool) : ∀ l : List α, idx p (l.map f) = idx (fun x => p (f x)) l
  | [] => rfl
  | x :: l => by
    rw [List.map_cons]
    unfold idx
    rw [idx_map f p l]
theorem nv_slices {base : Nat} {bv nv : Value} {X : List Book} {Y : List NV} {w : World} (h : OwnS base bv nv X Y w) : ∀ x ∈ Y, ∃ ta tn tc sa sn sc, x.tv = .slice ta tn tc ∧ x.sv = .slice sa sn sc := fun x hx => by
  obtain ⟨a, c, e, -⟩ := (h.tags x hx).slice
  obtain ⟨a', c', e', -⟩ := (h.sheets x hx).slice
  exact ⟨a, _, c, a', _, c', e, e'⟩
set_option maxRecDepth 100000 in
/-- DeleteFunc at the books of a shelf in work. -/
theorem dropB {w0 w : World} {B D : Nat} {nb nn ns : Int} {bv nv : Value} {X : List Book} {Y : List NV} (h : StB w0 B D nb nn ns bv nv X Y w) (hl : X.length ≤ 1000000) {I : Nat} {id : Int} (hI : w.heap[I]? = some (.cells #[.int .i64 id] 3 (0, 0))) :
    Calls Tryz.prog 61 #[bv, .func (.func 62) #[] #[.pointer (some ⟨I, 0, none⟩)]] w fun e w' => ∃ v', e = .returned v' ∧ RowO w0.heap.size 58 2 v' (X.filter fun x => !(x.id == id)).length ((X.filter fun x => !(x.id == id)).flatMap bookC) w' ∧ w.grownBy w' (blkOf bv) ∧ blkOf v' = blkOf bv := by
  have hp : ∀ W (x : Book), Kept 58 w W → w.heap.size ≤ W.heap.size → x ∈ X → Calls Tryz.prog 62 (#[.agg #[.int .i64 x.id, .string x.name]] ++ #[.pointer (some ⟨I, 0, none⟩)]) W fun e w' => e = .returned (.bool (x.id == id)) ∧ Grow W w' := fun W x k _ _ => drop1_any x id I W (k _ _ _ _ (by decide) hI)
  exact delBooks w0.heap.size bv X _ _ (fun x => x.id == id) w h.own.books hl h.grow.size (fun _ _ => rfl) hp (indexBooks bv X _ _ _ w h.own.reads.1 (by omega) (fun _ _ => rfl) fun W x g hx => hp W x (Kept.of_grow g) g.size hx)
set_option maxRecDepth 100000 in
theorem dropN {w0 w : World} {B D : Nat} {nb nn ns : Int} {bv nv : Value} {X : List Book} {Y : List NV} (h : StB w0 B D nb nn ns bv nv X Y w) (hl : Y.length ≤ 1000000) {I : Nat} {id : Int} (hI : w.heap[I]? = some (.cells #[.int .i64 id] 3 (0, 0))) :
    Calls Tryz.prog 63 #[nv, .func (.func 64) #[] #[.pointer (some ⟨I, 0, none⟩)]] w fun e w' => ∃ v', e = .returned v' ∧ RowO w0.heap.size 46 5 v' (Y.filter fun y => !(y.n.book == id)).length ((Y.filter fun y => !(y.n.book == id)).flatMap noteC) w' ∧ w.grownBy w' (blkOf nv) ∧ blkOf v' = blkOf nv := by
  have hp : ∀ W (x : Note) tv sv, Kept 46 w W → Calls Tryz.prog 64 (#[noteV x tv sv] ++ #[.pointer (some ⟨I, 0, none⟩)]) W fun e w' => e = .returned (.bool (x.book == id)) ∧ Grow W w' := fun W x tv sv k => drop2_any x tv sv id I W (k _ _ _ _ (by decide) hI)
  have hix := indexNotes nv (Y.map NV.n) 64 #[.pointer (some ⟨I, 0, none⟩)] (fun x => x.book == id) w h.own.reads.2 (by rw [List.length_map]; omega) (fun _ _ => rfl) fun W x _ _ _ _ g _ => hp W x _ _ (Kept.of_grow g)
  rw [idx_map] at hix
  exact delNotes w0.heap.size nv Y _ _ (fun y => y.n.book == id) w h.own.notes hl h.grow.size (fun _ _ => rfl) (nv_slices h.own) (fun W y k _ _ => hp W y.n y.tv y.sv k) hix
set_option maxRecDepth 100000 in
theorem discN {w0 w : World} {B D : Nat} {nb nn ns : Int} {bv nv : Value} {X : List Book} {Y : List NV} (h : StB w0 B D nb nn ns bv nv X Y w) (hl : Y.length ≤ 1000000) {I : Nat} {id : Int} (hI : w.heap[I]? = some (.cells #[.int .i64 id] 3 (0, 0))) :
    Calls Tryz.prog 63 #[nv, .func (.func 67) #[] #[.pointer (some ⟨I, 0, none⟩)]] w fun e w' => ∃ v', e = .returned v' ∧ RowO w0.heap.size 46 5 v' (Y.filter fun y => !(y.n.id == id)).length ((Y.filter fun y => !(y.n.id == id)).flatMap noteC) w' ∧ w.grownBy w' (blkOf nv) ∧ blkOf v' = blkOf nv := by
  have hp : ∀ W (x : Note) tv sv, Kept 46 w W → Calls Tryz.prog 67 (#[noteV x tv sv] ++ #[.pointer (some ⟨I, 0, none⟩)]) W fun e w' => e = .returned (.bool (x.id == id)) ∧ Grow W w' := fun W x tv sv k => disc1_any x tv sv id I W (k _ _ _ _ (by decide) hI)
  have hix := indexNotes nv (Y.map NV.n) 67 #[.pointer (some ⟨I, 0, none⟩)] (fun x => x.id == id) w h.own.reads.2 (by rw [List.length_map]; omega) (fun _ _ => rfl) fun W x _ _ _ _ g _ => hp W x _ _ (Kept.of_grow g)
  rw [idx_map] at hix
  exact delNotes w0.heap.size nv Y _ _ (fun y => y.n.id == id) w h.own.notes hl h.grow.size (fun _ _ => rfl) (nv_slices h.own) (fun W y k _ _ => hp W y.n y.tv y.sv k) hix
end Go.Proofs.YtnajccljdjllgaaGreatDoor
set_option linter.unusedVariables false
set_option linter.unusedSimpArgs false
namespace Go.Proofs.YtnajccljdjllgaaGreatDoor
open Go.RowKit Go.Lib
set_option maxRecDepth 100000 in
set_option maxHeartbeats 4000000 in
theorem drop_any (s : Shelf) (bv nv : Value) (id : Int) (w : World) (h : ShelfR w s bv nv) (hz : TameS s) (hT : Tabs w) :
    Calls Tryz.prog 31 #[shelfV s bv nv, .int .i64 id] w (RetC (dropR s id) w) := by
  have cM := fun W (g : Grow w W) => mayS_any s bv nv W (h.grow g) hz (hT.below g)
  have cO := fun W (g : Grow w W) => own_any s bv nv W (h.grow g) hz.1
  have cB : ∀ W, Grow w W → Calls Tryz.prog 51 #[shelfV s bv nv, .int .i64 id] W fun e w' => e = .returned (.int .i64 (bookIx s id)) ∧ Grow W w' := fun W g => book_any s bv nv id W (h.grow g) (by have := hz.1.1; omega)
  have hbl := hz.1.1
  have hnl := hz.1.2.1
  have hbd := idx_bd (fun x : Book => x.id == id) s.books
  have hnd := idx_bd (fun x : Note => x.id == id) s.notes
  rw [show idx (fun x : Book => x.id == id) s.books = bookIx s id from rfl] at hbd
  rw [show idx (fun x : Note => x.id == id) s.notes = noteIx s id from rfl] at hnd
  obtain ⟨a1, c1, rfl⟩ := h.1.mk
  obtain ⟨a2, c2, rfl⟩ := h.2.mk
  have HXX := Lib.hid (three_boxes w (shB s (.slice a1 s.books.length c1) (.slice a2 s.notes.length c2)) (.cells #[.int .i64 id] 3) (shB ⟨0, 0, 0, [], []⟩ (.slice none 0 0) (.slice none 0 0)))
  clear h hz hT
  unfold shelfV at *
  go_enter Tryz.func31, Tryz.ntmps31
  go_upto_region 1 with (fail)
  generalize hV : ((w.alloc (.cells #[.int .i64 s.nb, .int .i64 s.nn, .int .i64 s.ns, .slice a1 s.books.length c1, .slice a2 s.notes.length c2] 25)).alloc (.cells #[.int .i64 id] 3)).alloc (.cells #[.int .i64 0, .int .i64 0, .int .i64 0, .slice none 0 0, .slice none 0 0] 25) = V
  have gV : Grow w V := by rw [← hV]; exact (((Grow.refl w).alloc _).alloc _).alloc _
  have HBX : Hid (V.heap[w.heap.size]? = some (shB s (.slice a1 s.books.length c1) (.slice a2 s.notes.length c2))) := by rw [← hV]; exact Lib.hid HXX.out.1
  have HB1 : Hid (V.heap[w.heap.size + 1]? = some (.cells #[.int .i64 id] 3)) := by rw [← hV]; exact Lib.hid HXX.out.2.1
  have HRX : Hid (V.heap[w.heap.size + 1 + 1]? = some (shB ⟨0, 0, 0, [], []⟩ (.slice none 0 0) (.slice none 0 0))) := by rw [← hV]; exact Lib.hid HXX.out.2.2
  obtain ⟨⟨p0, p1, p2, p3, p4⟩, hpz⟩ := n5 HBX.out
  clear hV
  have cM1 := cM V gV
  cases hm : mayS s with
  | false =>
    have HM := Lib.hid hm
    rw [hm] at cM1
    clear hm cO
    go_wp2_with fail
    refine cM1.mono ?_
    rintro e w1 ⟨rfl, g1⟩
    clear cM1 p0 p1 p2 p3 p4
    have HE := Lib.hid (show dropR s id = bad 2 from res_bad (by unfold dropE; rw [if_pos HM.out]) (by decide) _ _)
    obtain ⟨⟨e0, e1, e2, e3, e4⟩, hez⟩ := n5 (g1.blk HRX.out)
    have f0 := frozen_of_row _ (w.heap.size + 1 + 1) 0 _ _ (g1.blk HRX.out)
    have f1 := frozen_of_row _ (w.heap.size + 1 + 1) 1 _ _ (g1.blk HRX.out)
    have f2 := frozen_of_row _ (w.heap.size + 1 + 1) 2 _ _ (g1.blk HRX.out)
    have f3 := frozen_of_row _ (w.heap.size + 1 + 1) 3 _ _ (g1.blk HRX.out)
    have f4 := frozen_of_row _ (w.heap.size + 1 + 1) 4 _ _ (g1.blk HRX.out)
    go_wp2_with fail
    refine bodyPost_ret (v := .tuple #[.agg #[.int .i64 0, .int .i64 0, .int .i64 0, .slice none 0 0, .slice none 0 0], .int .i64 2]) ?_ rfl ?_
    · rw [results_cell_tmp rfl]
      go_simp
    · refine ret_badC HE.out ?_
      repeat' (first | with_reducible exact gV.trans g1 | with_reducible refine Grow.set ?_ (by first | (simp; done) | (simp; omega)) _)
  | true =>
    have HM := Lib.hid hm
    rw [hm] at cM1
    clear hm
    go_wp2_with fail
    refine cM1.mono ?_
    rintro e w1 ⟨rfl, g1⟩
    clear cM1 p0 p1 p2 p3 p4
    obtain ⟨⟨p0, p1, p2, p3, p4⟩, hpz⟩ := n5 (g1.blk HBX.out)
    have cB1 := cB _ (gV.trans g1)
    have ib1 : w1.cell? ⟨w.heap.size + 1, 0, none⟩ = some (.int .i64 id) := (cell_of_row w1 _ 0 _ _ _ (g1.blk HB1.out)).trans rfl
    have ibz : w.heap.size + 1 < w1.heap.size := (Array.getElem?_eq_some_iff.1 (g1.blk HB1.out)).1
    by_cases hi : bookIx s id < 0
    · have HI := Lib.hid hi
      clear cO
      go_wp2_with fail
      refine cB1.mono ?_
      rintro e w2 ⟨rfl, g2⟩
      have gg := g1.trans g2
      clear cB1 g2 p0 p1 p2 p3 p4 ib1 ibz hpz
      have HE := Lib.hid (show dropR s id = bad 4 from res_bad (by unfold dropE; rw [if_neg (by rw [HM.out]; simp), if_pos (by have := HI.out; omega)]) (by decide) _ _)
      obtain ⟨⟨e0, e1, e2, e3, e4⟩, hez⟩ := n5 (gg.blk HRX.out)
      have f0 := frozen_of_row _ (w.heap.size + 1 + 1) 0 _ _ (gg.blk HRX.out)
      have f1 := frozen_of_row _ (w.heap.size + 1 + 1) 1 _ _ (gg.blk HRX.out)
      have f2 := frozen_of_row _ (w.heap.size + 1 + 1) 2 _ _ (gg.blk HRX.out)
      have f3 := frozen_of_row _ (w.heap.size + 1 + 1) 3 _ _ (gg.blk HRX.out)
      have f4 := frozen_of_row _ (w.heap.size + 1 + 1) 4 _ _ (gg.blk HRX.out)
      go_wp2_with fail
      refine bodyPost_ret (v := .tuple #[.agg #[.int .i64 0, .int .i64 0, .int .i64 0, .slice none 0 0, .slice none 0 0], .int .i64 4]) ?_ rfl ?_
      · rw [results_cell_tmp rfl]
        go_simp
      · refine ret_badC HE.out ?_
        repeat' (first | with_reducible exact gV.trans gg | with_reducible refine Grow.set ?_ (by first | (simp; done) | (simp; omega)) _)
    · have HI := Lib.hid hi
      go_wp2_with fail
      refine cB1.mono ?_
      rintro e w2 ⟨rfl, g2⟩
      have gg := g1.trans g2
      clear cB1 g2 p0 p1 p2 p3 p4 ib1 ibz hpz
      obtain ⟨⟨p0, p1, p2, p3, p4⟩, hpz⟩ := n5 (gg.blk HBX.out)
      have HE := Lib.hid (show dropR s id = ⟨{ s with books := s.books.filter (fun b => !(b.id == id)), notes := s.notes.filter (fun n => !(n.book == id)) }, 0, 0⟩ from resOf_ok (dropE_zero.2 ⟨HM.out, by omega⟩) _ _)
      have cO1 := cO _ (gV.trans gg)
      go_wp2_with fail
      refine cO1.mono ?_
      rintro e w3 ⟨bv', nv', Y, rfl, ho, hmap, g3⟩
      have hs : StB w w.heap.size (w.heap.size + 1 + 1) s.nb s.nn s.ns bv' nv' s.books Y (((((w3.setCell ⟨w.heap.size, 0, none⟩ (.int .i64 s.nb)).setCell ⟨w.heap.size, 1, none⟩ (.int .i64 s.nn)).setCell ⟨w.heap.size, 2, none⟩ (.int .i64 s.ns)).setCell ⟨w.heap.size, 3, none⟩ bv').setCell ⟨w.heap.size, 4, none⟩ nv') := StB.start (s := s) (D := w.heap.size + 1 + 1) gV HBX.out HRX.out gg g3 ho ⟨Nat.le_refl _, by omega, by omega⟩
      have hI1 : (((((w3.setCell ⟨w.heap.size, 0, none⟩ (.int .i64 s.nb)).setCell ⟨w.heap.size, 1, none⟩ (.int .i64 s.nn)).setCell ⟨w.heap.size, 2, none⟩ (.int .i64 s.ns)).setCell ⟨w.heap.size, 3, none⟩ bv').setCell ⟨w.heap.size, 4, none⟩ nv').heap[w.heap.size + 1]? = some (.cells #[.int .i64 id] 3) := set5_other _ _ _ _ _ (by omega) ((gg.trans g3).blk HB1.out)
      obtain ⟨ba, bc, ebv, -⟩ := ho.books.slice
      obtain ⟨na, nc, env, -⟩ := ho.notes.slice
      have hYl : Y.length = s.notes.length := by rw [← hmap, List.length_map]
      rw [hYl] at env
      have HMAP := Lib.hid hmap
      have HYL := Lib.hid hYl
      subst ebv env
      obtain ⟨⟨p0', p1', p2', p3', p4'⟩, hpz'⟩ := n5 ((gg.trans g3).blk HBX.out)
      have HF3 := Lib.hid (frozen_of_row w3 w.heap.size 0 _ _ ((gg.trans g3).blk HBX.out))
      have ff : ∀ j, w3.frozen? ⟨w.heap.size, j, none⟩ = false := fun j => frozen_of_row w3 w.heap.size j _ _ ((gg.trans g3).blk HBX.out)
      have ff0 := ff 0
      have ff1 := ff 1
      have ff2 := ff 2
      have ff3 := ff 3
      have ff4 := ff 4
      have HOW3 := Lib.hid ho
      have HG3 := Lib.hid (gg.trans g3)
      have hw3 : w.heap.size < w3.heap.size := hpz'
      clear cO1 cO ho hmap g3 hYl p0 p1 p2 p3 p4 ff
      unfold shelfV
      go_upto_region 6 with (fail)
      generalize ((((w3.setCell ⟨w.heap.size, 0, none⟩ (.int .i64 s.nb)).setCell ⟨w.heap.size, 1, none⟩ (.int .i64 s.nn)).setCell ⟨w.heap.size, 2, none⟩ (.int .i64 s.ns)).setCell ⟨w.heap.size, 3, none⟩ (.slice ba s.books.length bc)).setCell ⟨w.heap.size, 4, none⟩ (.slice na s.notes.length nc) = W at *
      have HS := Lib.hid hs
      have HI1 := Lib.hid hI1
      clear hI1
      obtain ⟨⟨p0, p1, p2, p3, p4⟩, hpz⟩ := hs.five
      have hb3 := hs.boxF 3
      have hb4 := hs.boxF 4
      clear hs p0' p1' p2' p3' p4' ff0 ff1 ff2 ff3 ff4 hpz'
      have hIz : w.heap.size + 1 < W.heap.size := (Array.getElem?_eq_some_iff.1 HI1.out).1
      have hIc : W.cell? ⟨w.heap.size + 1, 0, none⟩ = some (.int .i64 id) := (cell_of_row W _ 0 _ _ _ HI1.out).trans rfl
      have cD := dropB HS.out hbl HI1.out
      have HLF := Lib.hid (List.length_filter_le (fun b : Book => !(b.id == id)) s.books)
      go_wp2_with fail
      refine cD.mono ?_
      rintro e w5 ⟨v5, rfl, hr, hg, -⟩
      obtain ⟨xa, xc, e5, -⟩ := hr.slice
      subst e5
      have hI5 := ((HS.out.own.books.keeps hg) _ _ _ _ (by decide) HI1.out)
      obtain ⟨k3, f3, z3, hs4⟩ := HS.out.toB hr hg
      have HS2 := Lib.hid hs4
      have hI6 : (w5.setCell ⟨w.heap.size, 3, none⟩ (.slice xa (s.books.filter (fun b => !(b.id == id))).length xc)).heap[w.heap.size + 1]? = some (.cells #[.int .i64 id] 3 (0, 0)) := ((turned_cell w5 _ 3 _).block _ (Array.getElem?_eq_some_iff.1 hI5).1 (by omega)).trans hI5
      clear cD hr hg hs4 p0 p1 p2 p3 p4 hpz hb3 hb4 hIz hIc hI5
      go_upto_region 7 with (fail)
      generalize w5.setCell ⟨w.heap.size, 3, none⟩ (.slice xa (s.books.filter (fun b => !(b.id == id))).length xc) = W2 at *
      clear k3 f3 z3 HS
      have HI6 := Lib.hid hI6
      obtain ⟨⟨p0, p1, p2, p3, p4⟩, hpz⟩ := HS2.out.five
      have hb4 := HS2.out.boxF 4
      have hIz : w.heap.size + 1 < W2.heap.size := (Array.getElem?_eq_some_iff.1 hI6).1
      have cD := dropN HS2.out (by rw [HYL.out]; exact hnl) hI6
      clear hI6
      go_wp2_with fail
      refine cD.mono ?_
      rintro e w7 ⟨v7, rfl, hr, hg, -⟩
      obtain ⟨ya, yc, e7, -⟩ := hr.slice
      subst e7
      have HMF := Lib.hid (map_filterN HMAP.out (fun n => !(n.book == id)))
      obtain ⟨k3, f3, z3, hs4⟩ := HS2.out.subN (List.filter_sublist (p := fun y : NV => !(y.n.book == id))) hr hg
      have HS3 := Lib.hid hs4
      clear cD hr hg hs4 p0 p1 p2 p3 p4 hpz hb4 hIz
      go_upto_region 8 with (fail)
      generalize w7.setCell ⟨w.heap.size, 4, none⟩ (.slice ya (Y.filter fun y => !(y.n.book == id)).length yc) = W3 at *
      clear k3 f3 z3 HS2
      obtain ⟨⟨p0, p1, p2, p3, p4⟩, hpz⟩ := HS3.out.five
      obtain ⟨⟨e0, e1, e2, e3, e4⟩, hez⟩ := HS3.out.res5
      have f0 := HS3.out.resF 0
      have f1 := HS3.out.resF 1
      have f2 := HS3.out.resF 2
      have f3 := HS3.out.resF 3
      have f4 := HS3.out.resF 4
      have HOD := Lib.hid HS3.out.fin
      go_wp2_with fail
      refine bodyPost_ret (v := .tuple #[.agg #[.int .i64 s.nb, .int .i64 s.nn, .int .i64 s.ns, .slice xa (s.books.filter (fun b => !(b.id == id))).length xc, .slice ya (Y.filter fun y => !(y.n.book == id)).length yc], .int .i64 0]) ?_ rfl ?_
      · rw [results_cell_tmp rfl]
        go_simp
      · refine ret_okC (D := w.heap.size + 1 + 1) (s := { s with books := s.books.filter (fun b => !(b.id == id)), notes := s.notes.filter (fun n => !(n.book == id)) }) HE.out ?_ HMF.out
        repeat' (first | with_reducible exact HOD.out | with_reducible refine OwnD2.drew ?_ | with_reducible refine OwnD2.set ?_ (by omega) _ _)
end Go.Proofs.YtnajccljdjllgaaGreatDoor
set_option linter.unusedVariables false
set_option linter.unusedSimpArgs false
namespace Go.Proofs.YtnajccljdjllgaaGreatDoor
open Go.RowKit Go.Lib
set_option maxRecDepth 100000 in
theorem titled1_any (x : Note) (tv sv : Value) (q : Int) (t : ByteArray) (but : Int) (B : Nat) (w : World) (hb : B + 2 < w.heap.size) (h0 : w.cell? ⟨B, 0, none⟩ = some (.int .i64 q)) (h1 : w.cell? ⟨B + 1, 0, none⟩ = some (.string t)) (h2 : w.cell? ⟨B + 2, 0, none⟩ = some (.int .i64 but)) :
    Calls Tryz.prog 88 #[noteV x tv sv, .pointer (some ⟨B, 0, none⟩), .pointer (some ⟨B + 1, 0, none⟩), .pointer (some ⟨B + 2, 0, none⟩)] w fun e w' => e = .returned (.bool (titleB q t but x)) ∧ Grow w w' := by
  unfold noteV
  have hb0 : B < w.heap.size := by omega
  have hb1 : B + 1 < w.heap.size := by omega
  cases e1 : (x.book == q)
  · have HR := Lib.hid (show titleB q t but x = false by unfold titleB; rw [e1]; rfl)
    go_enter Tryz.func88, Tryz.ntmps88
    go_wp2_with fail
    go_ret
    exact ⟨ret_bool HR.out.symm, (Grow.refl w).alloc _⟩
  · cases e2 : (x.name.toList == t.toList)
    · have HR := Lib.hid (show titleB q t but x = false by unfold titleB; rw [e1, e2]; rfl)
      go_enter Tryz.func88, Tryz.ntmps88
      go_wp2_with fail
      go_ret
      exact ⟨ret_bool HR.out.symm, (Grow.refl w).alloc _⟩
    · have HR := Lib.hid (show titleB q t but x = (x.id != but) by unfold titleB; rw [e1, e2]; rfl)
      go_enter Tryz.func88, Tryz.ntmps88
      go_wp2_with fail
      go_ret
      exact ⟨ret_bool HR.out.symm, (Grow.refl w).alloc _⟩
set_option maxRecDepth 100000 in
theorem containsNotes (v : Value) (l : List Note) (g : Nat) (lb : Array Value) (p : Note → Bool) (w : World) (h : Notes w v l) (hz : l.length ≤ 1000000000) (eg : ∀ args w, (callFunc g args).run Tryz.prog w = .ok (.enter g args) w)
    (hp : ∀ W x at' ct as' cs', Grow w W → x ∈ l → Calls Tryz.prog g (#[noteV x (.slice at' x.tags.length ct) (.slice as' x.sheets.length cs')] ++ lb) W fun e w' => e = .returned (.bool (p x)) ∧ Grow W w') :
    Calls Tryz.prog 87 #[v, .func (.func g) #[] lb] w fun e w' => e = .returned (.bool (l.any p)) ∧ Grow w w' := by
  have cI := indexNotes v l g lb p w h hz eg hp
  have HR := Lib.hid (idx_any p l)
  obtain ⟨a, c, rfl⟩ := h.mk
  have hb := idx_bd p l
  generalize idx p l = i at *
  clear h hp
  by_cases hi : 0 ≤ i
  · go_enter Tryz.func87, Tryz.ntmps87
    go_wp2_with fail
    refine cI.mono ?_
    rintro e w1 ⟨rfl, g1⟩
    go_wp2_with fail
    go_ret
    exact ⟨by rw [← HR.out]; first | rfl | exact ret_bool (by simp [hi]), g1⟩
  · go_enter Tryz.func87, Tryz.ntmps87
    go_wp2_with fail
    refine cI.mono ?_
    rintro e w1 ⟨rfl, g1⟩
    go_wp2_with fail
    go_ret
    exact ⟨by rw [← HR.out]; first | rfl | exact ret_bool (by simp [hi]), g1⟩
set_option maxRecDepth 100000 in
theorem titled_any (s : Shelf) (bv nv : Value) (q : Int) (t : ByteArray) (but : Int) (w : World) (h : ShelfR w s bv nv) (hz : s.notes.length ≤ 1000000000) :
    Calls Tryz.prog 65 #[shelfV s bv nv, .int .i64 q, .string t, .int .i64 but] w fun e w' => e = .returned (.bool (s.notes.any (titleB q t but))) ∧ Grow w w' := by
  obtain ⟨-, hb⟩ := h
  have g0 : Grow w ((((w.alloc (.cells #[.int .i64 s.nb, .int .i64 s.nn, .int .i64 s.ns, bv, nv] 25)).alloc (.cells #[.int .i64 q] 3)).alloc (.cells #[.string t] 9)).alloc (.cells #[.int .i64 but] 3)) := ((((Grow.refl w).alloc _).alloc _).alloc _).alloc _
  have cI := containsNotes nv s.notes 88 #[.pointer (some ⟨w.heap.size + 1, 0, none⟩), .pointer (some ⟨w.heap.size + 1 + 1, 0, none⟩), .pointer (some ⟨w.heap.size + 1 + 2, 0, none⟩)] (titleB q t but) _ (Notes.grow hb g0) hz (fun _ _ => rfl)
    (fun W x _ _ _ _ g _ => titled1_any x _ _ q t but (w.heap.size + 1) W (by have := g.size; simp at this; omega) (by rw [g.cells _ _ (by simp)]; simp [go_sem]) (by rw [g.cells _ _ (by simp)]; simp [go_sem]) (by rw [g.cells _ _ (by simp)]; simp [go_sem]))
  obtain ⟨a, c, rfl⟩ := hb.mk
  clear hb
  unfold shelfV
  go_enter Tryz.func65, Tryz.ntmps65
  go_wp2_with fail
  refine cI.mono ?_
  rintro e w1 ⟨rfl, g1⟩
  go_wp2_with fail
  go_ret
  exact ⟨rfl, g0.trans g1⟩
end Go.Proofs.YtnajccljdjllgaaGreatDoor
set_option linter.unusedVariables false
set_option linter.unusedSimpArgs false
namespace Go.Proofs.YtnajccljdjllgaaGreatDoor
open Go.RowKit Go.Lib
set_option maxRecDepth 100000 in
set_option maxHeartbeats 4000000 in
theorem add_any (s : Shelf) (bv nv : Value) (id : Int) (t : ByteArray) (w : World) (h : ShelfR w s bv nv) (hz : TameS s) (ht : t.size ≤ 1000000000) (hT : Tabs w) :
    Calls Tryz.prog 33 #[shelfV s bv nv, .int .i64 id, .string t] w (RetM (addR s id t) w) := by
  have cM := fun W (g : Grow w W) => mayS_any s bv nv W (h.grow g) hz (hT.below g)
  obtain ⟨ib, hib, hbz0, hbz1, hbz2⟩ := info_parts info_note
  have cN := fun W (g : Grow w W) => may_any t W ht (hT.below g)
  have cO := fun W (g : Grow w W) => own_any s bv nv W (h.grow g) hz.1
  have cB : ∀ W, Grow w W → Calls Tryz.prog 51 #[shelfV s bv nv, .int .i64 id] W fun e w' => e = .returned (.int .i64 (bookIx s id)) ∧ Grow W w' := fun W g => book_any s bv nv id W (h.grow g) (by have := hz.1.1; omega)
  have cT := fun W (g : Grow w W) => titled_any s bv nv id t 0 W (h.grow g) (by have := hz.1.2.1; omega)
  have hbl := hz.1.1
  have hnl := hz.1.2.1
  have hbd := idx_bd (fun x : Book => x.id == id) s.books
  have hnd := idx_bd (fun x : Note => x.id == id) s.notes
  rw [show idx (fun x : Book => x.id == id) s.books = bookIx s id from rfl] at hbd
  rw [show idx (fun x : Note => x.id == id) s.notes = noteIx s id from rfl] at hnd
  obtain ⟨a1, c1, rfl⟩ := h.1.mk
  obtain ⟨a2, c2, rfl⟩ := h.2.mk
  have HXX := Lib.hid (two_boxes2 w (shB s (.slice a1 s.books.length c1) (.slice a2 s.notes.length c2)) (shB ⟨0, 0, 0, [], []⟩ (.slice none 0 0) (.slice none 0 0)))
  clear h hz hT
  unfold shelfV at *
  go_enter Tryz.func33, Tryz.ntmps33
  go_upto_region 1 with (fail)
  generalize hV : (w.alloc (.cells #[.int .i64 s.nb, .int .i64 s.nn, .int .i64 s.ns, .slice a1 s.books.length c1, .slice a2 s.notes.length c2] 25)).alloc (.cells #[.int .i64 0, .int .i64 0, .int .i64 0, .slice none 0 0, .slice none 0 0] 25) = V
  have gV : Grow w V := by rw [← hV]; exact ((Grow.refl w).alloc _).alloc _
  have HBX : Hid (V.heap[w.heap.size]? = some (shB s (.slice a1 s.books.length c1) (.slice a2 s.notes.length c2))) := by rw [← hV]; exact Lib.hid HXX.out.1
  have HRX : Hid (V.heap[w.heap.size + 1]? = some (shB ⟨0, 0, 0, [], []⟩ (.slice none 0 0) (.slice none 0 0))) := by rw [← hV]; exact Lib.hid HXX.out.2
  obtain ⟨⟨p0, p1, p2, p3, p4⟩, hpz⟩ := n5 HBX.out
  clear hV
  have cM1 := cM V gV
  cases hm : mayS s with
  | false =>
    have HM := Lib.hid hm
    rw [hm] at cM1
    clear hm cO
    go_wp2_with fail
    refine cM1.mono ?_
    rintro e w1 ⟨rfl, g1⟩
    clear cM1 p0 p1 p2 p3 p4
    have HE := Lib.hid (show addR s id t = bad 2 from res_bad (by unfold addE; rw [if_pos HM.out]) (by decide) _ _)
    obtain ⟨⟨e0, e1, e2, e3, e4⟩, hez⟩ := n5 (g1.blk HRX.out)
    have f0 := frozen_of_row _ (w.heap.size + 1) 0 _ _ (g1.blk HRX.out)
    have f1 := frozen_of_row _ (w.heap.size + 1) 1 _ _ (g1.blk HRX.out)
    have f2 := frozen_of_row _ (w.heap.size + 1) 2 _ _ (g1.blk HRX.out)
    have f3 := frozen_of_row _ (w.heap.size + 1) 3 _ _ (g1.blk HRX.out)
    have f4 := frozen_of_row _ (w.heap.size + 1) 4 _ _ (g1.blk HRX.out)
    go_wp2_with fail
    refine bodyPost_ret (v := .tuple #[.agg #[.int .i64 0, .int .i64 0, .int .i64 0, .slice none 0 0, .slice none 0 0], .int .i64 0, .int .i64 2]) ?_ rfl ?_
    · rw [results_cell_tmp2 (P := Tryz.prog) rfl]
      go_simp
    · refine ret_badM HE.out ?_
      repeat' (first | with_reducible exact gV.trans g1 | with_reducible refine Grow.set ?_ (by first | (simp; done) | (simp; omega)) _)
  | true =>
    have HM := Lib.hid hm
    rw [hm] at cM1
    clear hm
    go_wp2_with fail
    refine cM1.mono ?_
    rintro e w1 ⟨rfl, g1⟩
    clear cM1 p0 p1 p2 p3 p4
    obtain ⟨⟨p0, p1, p2, p3, p4⟩, hpz⟩ := n5 (g1.blk HBX.out)
    have cB1 := cB _ (gV.trans g1)
    by_cases hi : bookIx s id < 0
    · have HI := Lib.hid hi
      clear cO cN cT
      go_wp2_with fail
      refine cB1.mono ?_
      rintro e w2 ⟨rfl, g2⟩
      have gg := g1.trans g2
      clear cB1 g2 p0 p1 p2 p3 p4 hpz
      have HE := Lib.hid (show addR s id t = bad 4 from res_bad (by unfold addE; rw [if_neg (by rw [HM.out]; simp), if_pos HI.out]) (by decide) _ _)
      obtain ⟨⟨e0, e1, e2, e3, e4⟩, hez⟩ := n5 (gg.blk HRX.out)
      have f0 := frozen_of_row _ (w.heap.size + 1) 0 _ _ (gg.blk HRX.out)
      have f1 := frozen_of_row _ (w.heap.size + 1) 1 _ _ (gg.blk HRX.out)
      have f2 := frozen_of_row _ (w.heap.size + 1) 2 _ _ (gg.blk HRX.out)
      have f3 := frozen_of_row _ (w.heap.size + 1) 3 _ _ (gg.blk HRX.out)
      have f4 := frozen_of_row _ (w.heap.size + 1) 4 _ _ (gg.blk HRX.out)
      go_wp2_with fail
      refine bodyPost_ret (v := .tuple #[.agg #[.int .i64 0, .int .i64 0, .int .i64 0, .slice none 0 0, .slice none 0 0], .int .i64 0, .int .i64 4]) ?_ rfl ?_
      · rw [results_cell_tmp2 (P := Tryz.prog) rfl]
        go_simp
      · refine ret_badM HE.out ?_
        repeat' (first | with_reducible exact gV.trans gg | with_reducible refine Grow.set ?_ (by first | (simp; done) | (simp; omega)) _)
    · have HI := Lib.hid hi
      go_wp2_with fail
      refine cB1.mono ?_
      rintro e w2 ⟨rfl, g2⟩
      have gg := g1.trans g2
      clear cB1 g2 p0 p1 p2 p3 p4 hpz
      obtain ⟨⟨p0, p1, p2, p3, p4⟩, hpz⟩ := n5 (gg.blk HBX.out)
      have cN1 := cN _ (gV.trans gg)
      cases hn : mayB t with
      | false =>
        have HN := Lib.hid hn
        rw [hn] at cN1
        clear hn cO
        go_wp2_with fail
        refine cN1.mono ?_
        rintro e wn ⟨rfl, g2⟩
        have gh := gg.trans g2
        clear cN1 p0 p1 p2 p3 p4
        have HE := Lib.hid (show addR s id t = bad 6 from res_bad (by unfold addE; rw [if_neg (by rw [HM.out]; simp), if_neg (by have := HI.out; omega), if_pos HN.out]) (by decide) _ _)
        obtain ⟨⟨e0, e1, e2, e3, e4⟩, hez⟩ := n5 (gh.blk HRX.out)
        have f0 := frozen_of_row _ (w.heap.size + 1) 0 _ _ (gh.blk HRX.out)
        have f1 := frozen_of_row _ (w.heap.size + 1) 1 _ _ (gh.blk HRX.out)
        have f2 := frozen_of_row _ (w.heap.size + 1) 2 _ _ (gh.blk HRX.out)
        have f3 := frozen_of_row _ (w.heap.size + 1) 3 _ _ (gh.blk HRX.out)
        have f4 := frozen_of_row _ (w.heap.size + 1) 4 _ _ (gh.blk HRX.out)
        go_wp2_with fail
        refine bodyPost_ret (v := .tuple #[.agg #[.int .i64 0, .int .i64 0, .int .i64 0, .slice none 0 0, .slice none 0 0], .int .i64 0, .int .i64 6]) ?_ rfl ?_
        · rw [results_cell_tmp2 (P := Tryz.prog) rfl]
          go_simp
        · refine ret_badM HE.out ?_
          repeat' (first | with_reducible exact gV.trans gh | with_reducible refine Grow.set ?_ (by first | (simp; done) | (simp; omega)) _)
      | true =>
        have HN := Lib.hid hn
        rw [hn] at cN1
        clear hn
        go_wp2_with fail
        refine cN1.mono ?_
        rintro e wn ⟨rfl, g2⟩
        have gh := gg.trans g2
        clear cN1 g2 p0 p1 p2 p3 p4
        obtain ⟨⟨p0, p1, p2, p3, p4⟩, hpz⟩ := n5 (gh.blk HBX.out)
        have cT1 := cT _ (gV.trans gh)
        cases htt : s.notes.any (titleB id t 0) with
        | true =>
          have HTT := Lib.hid htt
          rw [htt] at cT1
          clear htt cO
          go_wp2_with fail
          refine cT1.mono ?_
          rintro e wt ⟨rfl, g3⟩
          have gi := gh.trans g3
          clear cT1 g3 p0 p1 p2 p3 p4 hpz
          have HE := Lib.hid (show addR s id t = bad 7 from res_bad (by unfold addE; rw [if_neg (by rw [HM.out]; simp), if_neg (by have := HI.out; omega), if_neg (by rw [HN.out]; simp), if_pos HTT.out]) (by decide) _ _)
          obtain ⟨⟨e0, e1, e2, e3, e4⟩, hez⟩ := n5 (gi.blk HRX.out)
          have f0 := frozen_of_row _ (w.heap.size + 1) 0 _ _ (gi.blk HRX.out)
          have f1 := frozen_of_row _ (w.heap.size + 1) 1 _ _ (gi.blk HRX.out)
          have f2 := frozen_of_row _ (w.heap.size + 1) 2 _ _ (gi.blk HRX.out)
          have f3 := frozen_of_row _ (w.heap.size + 1) 3 _ _ (gi.blk HRX.out)
          have f4 := frozen_of_row _ (w.heap.size + 1) 4 _ _ (gi.blk HRX.out)
          go_wp2_with fail
          refine bodyPost_ret (v := .tuple #[.agg #[.int .i64 0, .int .i64 0, .int .i64 0, .slice none 0 0, .slice none 0 0], .int .i64 0, .int .i64 7]) ?_ rfl ?_
          · rw [results_cell_tmp2 (P := Tryz.prog) rfl]
            go_simp
          · refine ret_badM HE.out ?_
            repeat' (first | with_reducible exact gV.trans gi | with_reducible refine Grow.set ?_ (by first | (simp; done) | (simp; omega)) _)
        | false =>
          have HTT := Lib.hid htt
          rw [htt] at cT1
          clear htt
          go_wp2_with fail
          refine cT1.mono ?_
          rintro e wt ⟨rfl, g3⟩
          have gi := gh.trans g3
          clear cT1 g3 p0 p1 p2 p3 p4 hpz
          obtain ⟨⟨p0, p1, p2, p3, p4⟩, hpz⟩ := n5 (gi.blk HBX.out)
          by_cases hl : 12 ≤ (s.notes.length : Int)
          · have HL := Lib.hid hl
            clear cO
            have HE := Lib.hid (show addR s id t = bad 3 from res_bad (by unfold addE; rw [if_neg (by rw [HM.out]; simp), if_neg (by have := HI.out; omega), if_neg (by rw [HN.out]; simp), if_neg (by rw [HTT.out]; simp), if_pos (.inl HL.out)]) (by decide) _ _)
            obtain ⟨⟨e0, e1, e2, e3, e4⟩, hez⟩ := n5 (gi.blk HRX.out)
            have f0 := frozen_of_row _ (w.heap.size + 1) 0 _ _ (gi.blk HRX.out)
            have f1 := frozen_of_row _ (w.heap.size + 1) 1 _ _ (gi.blk HRX.out)
            have f2 := frozen_of_row _ (w.heap.size + 1) 2 _ _ (gi.blk HRX.out)
            have f3 := frozen_of_row _ (w.heap.size + 1) 3 _ _ (gi.blk HRX.out)
            have f4 := frozen_of_row _ (w.heap.size + 1) 4 _ _ (gi.blk HRX.out)
            go_wp2_with fail
            refine bodyPost_ret (v := .tuple #[.agg #[.int .i64 0, .int .i64 0, .int .i64 0, .slice none 0 0, .slice none 0 0], .int .i64 0, .int .i64 3]) ?_ rfl ?_
            · rw [results_cell_tmp2 (P := Tryz.prog) rfl]
              go_simp
            · refine ret_badM HE.out ?_
              repeat' (first | with_reducible exact gV.trans gi | with_reducible refine Grow.set ?_ (by first | (simp; done) | (simp; omega)) _)
          · by_cases hk : 65536 ≤ s.nn
            · have HL := Lib.hid hk
              clear cO
              have HE := Lib.hid (show addR s id t = bad 3 from res_bad (by unfold addE; rw [if_neg (by rw [HM.out]; simp), if_neg (by have := HI.out; omega), if_neg (by rw [HN.out]; simp), if_neg (by rw [HTT.out]; simp), if_pos (.inr HL.out)]) (by decide) _ _)
              obtain ⟨⟨e0, e1, e2, e3, e4⟩, hez⟩ := n5 (gi.blk HRX.out)
              have f0 := frozen_of_row _ (w.heap.size + 1) 0 _ _ (gi.blk HRX.out)
              have f1 := frozen_of_row _ (w.heap.size + 1) 1 _ _ (gi.blk HRX.out)
              have f2 := frozen_of_row _ (w.heap.size + 1) 2 _ _ (gi.blk HRX.out)
              have f3 := frozen_of_row _ (w.heap.size + 1) 3 _ _ (gi.blk HRX.out)
              have f4 := frozen_of_row _ (w.heap.size + 1) 4 _ _ (gi.blk HRX.out)
              go_wp2_with fail
              refine bodyPost_ret (v := .tuple #[.agg #[.int .i64 0, .int .i64 0, .int .i64 0, .slice none 0 0, .slice none 0 0], .int .i64 0, .int .i64 3]) ?_ rfl ?_
              · rw [results_cell_tmp2 (P := Tryz.prog) rfl]
                go_simp
              · refine ret_badM HE.out ?_
                repeat' (first | with_reducible exact gV.trans gi | with_reducible refine Grow.set ?_ (by first | (simp; done) | (simp; omega)) _)
            · have HE := Lib.hid (show addR s id t = ⟨{ s with nn := s.nn + 1, notes := s.notes ++ [⟨s.nn, id, t, [], []⟩] }, s.nn, 0⟩ from resOf_ok (addE_zero.2 ⟨HM.out, by have := HI.out; omega, HN.out, HTT.out, by omega, by omega⟩) _ _)
              have hnb := (mayS_iff.1 HM.out).nn
              have cO1 := cO _ (gV.trans gi)
              go_wp2_with fail
              refine cO1.mono ?_
              rintro e w3 ⟨bv', nv', Y, rfl, ho, hmap, g3⟩
              have hs : StB w w.heap.size (w.heap.size + 1) s.nb s.nn s.ns bv' nv' s.books Y (((((w3.setCell ⟨w.heap.size, 0, none⟩ (.int .i64 s.nb)).setCell ⟨w.heap.size, 1, none⟩ (.int .i64 s.nn)).setCell ⟨w.heap.size, 2, none⟩ (.int .i64 s.ns)).setCell ⟨w.heap.size, 3, none⟩ bv').setCell ⟨w.heap.size, 4, none⟩ nv') := StB.start (s := s) (D := w.heap.size + 1) gV HBX.out HRX.out gi g3 ho ⟨Nat.le_refl _, by omega, by omega⟩
              obtain ⟨ba, bc, ebv, -⟩ := ho.books.slice
              obtain ⟨na, nc, env, -⟩ := ho.notes.slice
              have hYl : Y.length = s.notes.length := by rw [← hmap, List.length_map]
              rw [hYl] at env
              have HMAP := Lib.hid hmap
              have HYL := Lib.hid hYl
              subst ebv env
              obtain ⟨⟨p0', p1', p2', p3', p4'⟩, hpz'⟩ := n5 ((gi.trans g3).blk HBX.out)
              have HF3 := Lib.hid (frozen_of_row w3 w.heap.size 0 _ _ ((gi.trans g3).blk HBX.out))
              have ff : ∀ j, w3.frozen? ⟨w.heap.size, j, none⟩ = false := fun j => frozen_of_row w3 w.heap.size j _ _ ((gi.trans g3).blk HBX.out)
              have ff0 := ff 0
              have ff1 := ff 1
              have ff2 := ff 2
              have ff3 := ff 3
              have ff4 := ff 4
              have HOW3 := Lib.hid ho
              have HG3 := Lib.hid (gi.trans g3)
              have hw3 : w.heap.size < w3.heap.size := hpz'
              clear cO1 cO ho hmap g3 hYl p0 p1 p2 p3 p4 ff
              unfold shelfV
              go_upto_region 12 with (fail)
              generalize ((((w3.setCell ⟨w.heap.size, 0, none⟩ (.int .i64 s.nb)).setCell ⟨w.heap.size, 1, none⟩ (.int .i64 s.nn)).setCell ⟨w.heap.size, 2, none⟩ (.int .i64 s.ns)).setCell ⟨w.heap.size, 3, none⟩ (.slice ba s.books.length bc)).setCell ⟨w.heap.size, 4, none⟩ (.slice na s.notes.length nc) = W at *
              have HS := Lib.hid hs
              obtain ⟨⟨p0, p1, p2, p3, p4⟩, hpz⟩ := hs.five
              have hb3 := hs.boxF 3
              have hb4 := hs.boxF 4
              clear hs p0' p1' p2' p3' p4' ff0 ff1 ff2 ff3 ff4 hpz'
              have HSR := Lib.hid HS.out.own.notes
              go_upto_region 13 with (at_builtin; refine app_R (by rfl) _ _ 23 (by rfl) 46 ib _ 5 80 Tryz.underlying23 hib hbz0 hbz1 hbz2 (by rfl) (by decide) (.slice na s.notes.length nc) s.notes.length (Y.flatMap noteC) (by rfl) _ (by have h9 := HS.out.own.notes; rw [HYL.out] at h9; exact h9) HS.out.grow.size (noteC ⟨⟨s.nn, id, t, [], []⟩, .slice none 0 0, .slice none 0 0⟩) rfl ?_ (by rfl) ?_ (by decide) ?_; (intro u hu; simp at hu; rcases hu with rfl | rfl | rfl | rfl | rfl <;> rfl); omega; intro v' w4 ra; obtain ⟨va, vc, e3, -⟩ := ra.1.slice; subst e3; obtain ⟨k3, f3, z3, hs4⟩ := HS.out.note (x := ⟨⟨s.nn, id, t, [], []⟩, .slice none 0 0, .slice none 0 0⟩) ⟨rfl, rfl⟩ ⟨rfl, rfl⟩ (by rw [HYL.out]; exact ra); have HS4 := Lib.hid hs4; clear hs4 ra)
              generalize w4.setCell ⟨w.heap.size, 4, none⟩ (.slice va (s.notes.length + 1) vc) = W4 at *
              clear p0 p1 p2 p3 p4 hpz hb3 hb4 k3 f3 z3 HS
              obtain ⟨⟨p0, p1, p2, p3, p4⟩, hpz⟩ := HS4.out.five
              have hb0 := HS4.out.boxF 1
              have HS5 := Lib.hid (HS4.out.num1 (s.nn + 1))
              have HMQ := Lib.hid (show (Y ++ [(⟨⟨s.nn, id, t, [], []⟩, .slice none 0 0, .slice none 0 0⟩ : NV)]).map NV.n = s.notes ++ [⟨s.nn, id, t, [], []⟩] by rw [List.map_append, HMAP.out]; rfl)
              go_upto_region 14 with (fail)
              generalize W4.setCell ⟨w.heap.size, 1, none⟩ (.int .i64 (s.nn + 1)) = W5 at *
              clear p0 p1 p2 p3 p4 hpz hb0 HS4
              obtain ⟨⟨p0, p1, p2, p3, p4⟩, hpz⟩ := HS5.out.five
              obtain ⟨⟨e0, e1, e2, e3, e4⟩, hez⟩ := HS5.out.res5
              have f0 := HS5.out.resF 0
              have f1 := HS5.out.resF 1
              have f2 := HS5.out.resF 2
              have f3 := HS5.out.resF 3
              have f4 := HS5.out.resF 4
              have HOD := Lib.hid HS5.out.fin
              go_region
              go_wp2_with fail
              refine bodyPost_ret (v := .tuple #[.agg #[.int .i64 s.nb, .int .i64 (s.nn + 1), .int .i64 s.ns, .slice ba s.books.length bc, .slice va (s.notes.length + 1) vc], .int .i64 (s.nn), .int .i64 0]) ?_ rfl ?_
              · rw [results_cell_tmp2 (P := Tryz.prog) rfl]
                go_simp
              · refine ret_okM (D := w.heap.size + 1) (s := { s with nn := s.nn + 1, notes := s.notes ++ [⟨s.nn, id, t, [], []⟩] }) HE.out ?_ HMQ.out
                repeat' (first | with_reducible exact HOD.out | with_reducible refine OwnD2.drew ?_ | with_reducible refine OwnD2.set ?_ (by omega) _ _)
end Go.Proofs.YtnajccljdjllgaaGreatDoor
