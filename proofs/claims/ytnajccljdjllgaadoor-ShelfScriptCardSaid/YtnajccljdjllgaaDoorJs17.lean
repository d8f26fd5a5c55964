/- The walks of jotterref17.Note, bookName, noteName. A copy of a shelf in work, tags and sheets counted apart (jotterref17.Copy). The walk of jotterref17.Copy. An element taken out of a row of the call's own: append(l[:i], l[i+1:]..). jotterref17.Make. jotterref17.Rename. jotterref17.Drop. jotterref17.Add. jotterref17.Retitle. jotterref17.Move. jotterref17.Discard. -/
import Derived.Test.YtnajccljdjllgaaDoorRefMay
import Derived.Test.YtnajccljdjllgaaDoorSt
import Derived.Test.YtnajccljdjllgaaDoorOwnW
import Derived.Test.YtnajccljdjllgaaDoorDelG
import Derived.Test.YtnajccljdjllgaaDoorGr
import Derived.Deep.RegionLaw
set_option linter.unusedVariables false
set_option linter.unusedSimpArgs false
namespace Go.Proofs.YtnajccljdjllgaaDoor
open Go.RowKit Go.Lib
def dupB (id : Int) (t : ByteArray) (x : Book) : Bool := (x.name.toList == t.toList) && (x.id != id)
def bookNE (s : Shelf) (id : Int) (t : ByteArray) : Int := if mayB t = false then 6 else if s.books.any (dupB id t) = true then 7 else 0
def noteNE (s : Shelf) (q id : Int) (t : ByteArray) : Int := if mayB t = false then 6 else if s.notes.any (titleB q t id) = true then 7 else 0
theorem bookNE_cases (s : Shelf) (id : Int) (t : ByteArray) : (bookNE s id t = 6 ∧ mayB t = false) ∨ (bookNE s id t = 7 ∧ mayB t = true ∧ s.books.any (dupB id t) = true) ∨ (bookNE s id t = 0 ∧ mayB t = true ∧ s.books.any (dupB id t) = false) := by
  unfold bookNE; cases mayB t <;> cases s.books.any (dupB id t) <;> simp
theorem noteNE_cases (s : Shelf) (q id : Int) (t : ByteArray) : (noteNE s q id t = 6 ∧ mayB t = false) ∨ (noteNE s q id t = 7 ∧ mayB t = true ∧ s.notes.any (titleB q t id) = true) ∨ (noteNE s q id t = 0 ∧ mayB t = true ∧ s.notes.any (titleB q t id) = false) := by
  unfold noteNE; cases mayB t <;> cases s.notes.any (titleB q t id) <;> simp
theorem any_new {s : Shelf} (h : MayP s) (t : ByteArray) : s.books.any (dupB 0 t) = decide (0 ≤ nameIx s.books t) := by
  rw [Bool.eq_iff_iff, List.any_eq_true, decide_eq_true_eq]
  unfold nameIx
  rw [idx_nonneg]
  constructor
  · rintro ⟨x, hx, h2⟩
    unfold dupB at h2
    rw [Bool.and_eq_true] at h2
    exact ⟨x, hx, h2.1⟩
  · rintro ⟨x, hx, h2⟩
    refine ⟨x, hx, ?_⟩
    have := (h.bid x hx).1
    unfold dupB
    rw [Bool.and_eq_true]
    exact ⟨h2, by simp; omega⟩
theorem any_ren {s : Shelf} (h : MayP s) (t : ByteArray) {id : Int} (hi : 0 ≤ bookIx s id) : s.books.any (dupB id t) = decide (0 ≤ nameIx s.books t ∧ nameIx s.books t ≠ bookIx s id) := by
  rw [Bool.eq_iff_iff, List.any_eq_true, decide_eq_true_eq]
  obtain ⟨y, hy, hyp⟩ := idx_get (p := fun x : Book => x.id == id) (l := s.books) (i := bookIx s id) rfl hi
  have hyid : y.id = id := by simpa using hyp
  constructor
  · rintro ⟨x, hx, h2⟩
    unfold dupB at h2
    rw [Bool.and_eq_true] at h2
    have h0 : 0 ≤ nameIx s.books t := by unfold nameIx; rw [idx_nonneg]; exact ⟨x, hx, h2.1⟩
    refine ⟨h0, fun e => ?_⟩
    obtain ⟨z, hz, hzp⟩ := idx_get (p := fun x : Book => x.name.toList == t.toList) (l := s.books) (i := nameIx s.books t) rfl h0
    rw [e, hy] at hz
    obtain rfl := Option.some.inj hz
    have e1 : y.name = x.name := by rw [toList_eq.1 hzp, toList_eq.1 h2.1]
    have e2 : y = x := by
      obtain ⟨i, hi2⟩ := List.getElem?_of_mem hx
      rcases Nat.lt_trichotomy i (bookIx s id).toNat with h3 | h3 | h3
      · exact absurd e1.symm (pair_get h.bnew hi2 hy h3)
      · rw [h3, hy] at hi2; exact Option.some.inj hi2
      · exact absurd e1 (pair_get h.bnew hy hi2 h3)
    rw [← e2] at h2
    have := h2.2
    simp [hyid] at this
  · rintro ⟨h0, hne⟩
    obtain ⟨z, hz, hzp⟩ := idx_get (p := fun x : Book => x.name.toList == t.toList) (l := s.books) (i := nameIx s.books t) rfl h0
    refine ⟨z, List.mem_of_getElem? hz, ?_⟩
    unfold dupB
    rw [Bool.and_eq_true]
    refine ⟨hzp, ?_⟩
    rw [bne_iff_ne]
    intro e
    have e3 : z = y := h.book_eq (List.mem_of_getElem? hz) (List.mem_of_getElem? hy) (by rw [e, hyid])
    subst e3
    rcases Nat.lt_trichotomy (nameIx s.books t).toNat (bookIx s id).toNat with h3 | h3 | h3
    · have := pair_get h.binc hz hy h3; omega
    · omega
    · have := pair_get h.binc hy hz h3; omega
set_option maxRecDepth 100000 in
set_option maxHeartbeats 2000000 in
theorem refBookName_any (s : Shelf) (bv nv : Value) (id : Int) (t : ByteArray) (w : World) (h : ShelfR w s bv nv) (hz : s.books.length ≤ 1000000) (ht : t.size ≤ 1000000000) :
    Calls Tryd.prog 66 #[shelfV s bv nv, .int .i64 id, .string t] w fun e w' => e = .returned (.int .i64 (bookNE s id t)) ∧ Grow w w' := by
  obtain ⟨a1, c1, rfl⟩ := h.1.mk
  obtain ⟨a2, c2, rfl⟩ := h.2.mk
  have HH := Lib.hid h
  clear h
  have cM := fun W => ref_may t W ht
  unfold shelfV
  go_enter Tryd.func66, Tryd.ntmps66
  go_upto_region 1 with (fail)
  generalize hV : w.alloc (.cells #[.int .i64 s.nb, .int .i64 s.nn, .int .i64 s.ns, .slice a1 s.books.length c1, .slice a2 s.notes.length c2] 28) = V
  have gV : Grow w V := by rw [← hV]; exact (Grow.refl w).alloc _
  have q3 : V.cell? ⟨w.heap.size, 3, none⟩ = some (.slice a1 s.books.length c1) := by rw [← hV]; simp [go_sem]
  have hsz : w.heap.size < V.heap.size := by rw [← hV]; simp
  clear hV
  have c := cM V
  cases hm : mayB t with
  | false =>
    rw [hm] at c
    have HE := Lib.hid (show bookNE s id t = 6 by unfold bookNE; rw [if_pos hm])
    clear hm
    go_wp2_with fail
    refine c.mono ?_
    rintro e w1 ⟨rfl, g1⟩
    subst g1
    go_wp2_with fail
    go_ret
    exact ⟨ret_int HE.out.symm, gV⟩
  | true =>
    rw [hm] at c
    have HM := Lib.hid hm
    clear hm
    go_wp2_with fail
    refine c.mono ?_
    rintro e w1 ⟨rfl, g1⟩
    subst g1
    have gW := gV
    go_wp2_with fail
    go_loop [7] (fun v => ∃ j : Nat, v = .int .i64 j ∧ j ≤ s.books.length ∧ ∀ (k : Nat) x, k < j → s.books[k]? = some x → (dupB id t) x = false) (fun v => s.books.length - (intOf v).toNat)
    case atStart => exact ⟨0, rfl, by omega, fun k x h => absurd h (by omega)⟩
    case round =>
      obtain ⟨j, rfl, hj, hall⟩ := hrel
      have HA := Lib.hid hall
      clear hall
      by_cases hlt : j < s.books.length
      · have hlt' : (j : Int) < s.books.length := by omega
        obtain ⟨x, hx, -⟩ := lt_get hlt
        obtain ⟨bb, off, rfl, hbb, p0, p1⟩ := (HH.out.1.grow gW).at hx
        have HX := Lib.hid hx
        clear hx
        cases h1 : (x.name.toList == t.toList) with
        | false =>
          have HP := Lib.hid (show (dupB id t) x = false by unfold dupB; rw [h1]; rfl)
          go_wp2_with fail
          go_round
          case rel => exact ⟨j + 1, by go_num, by omega, fun k y hk hy => by
            rcases (by omega : k < j ∨ k = j) with h3 | rfl
            · exact HA.out k y h3 hy
            · rw [HX.out] at hy; injection hy with hy; rw [← hy]; exact HP.out⟩
          case measure => simp [intOf]; omega
        | true =>
          cases h2 : (x.id != id) with
          | false =>
            have HP := Lib.hid (show (dupB id t) x = false by unfold dupB; rw [h1, h2]; rfl)
            go_wp2_with fail
            go_round
            case rel => exact ⟨j + 1, by go_num, by omega, fun k y hk hy => by
              rcases (by omega : k < j ∨ k = j) with h3 | rfl
              · exact HA.out k y h3 hy
              · rw [HX.out] at hy; injection hy with hy; rw [← hy]; exact HP.out⟩
            case measure => simp [intOf]; omega
          | true =>
            have HP := Lib.hid (show s.books.any (dupB id t) = true from List.any_eq_true.2 ⟨x, List.mem_of_getElem? HX.out, by unfold dupB; rw [h1, h2]; rfl⟩)
            have HE := Lib.hid (show bookNE s id t = 7 by unfold bookNE; rw [if_neg (by rw [HM.out]; simp), if_pos HP.out])
            go_wp2_with fail
            go_ret
            exact ⟨ret_int HE.out.symm, gW⟩
      · have HP := Lib.hid (show s.books.any (dupB id t) = false from List.any_eq_false.2 fun x hx => by
          obtain ⟨k, hk⟩ := List.getElem?_of_mem hx
          rw [HA.out k x (by have := (List.getElem?_eq_some_iff.1 hk).1; omega) hk]; simp)
        have HE := Lib.hid (show bookNE s id t = 0 by unfold bookNE; rw [if_neg (by rw [HM.out]; simp), if_neg (by rw [HP.out]; simp)])
        have hlt' : ¬ (j : Int) < s.books.length := by omega
        go_wp2_with fail
        go_ret
        exact ⟨ret_int HE.out.symm, gW⟩
set_option maxRecDepth 100000 in
set_option maxHeartbeats 2000000 in
theorem refNoteName_any (s : Shelf) (bv nv : Value) (q : Int) (id : Int) (t : ByteArray) (w : World) (h : ShelfR w s bv nv) (hz : s.notes.length ≤ 1000000) (ht : t.size ≤ 1000000000) :
    Calls Tryd.prog 74 #[shelfV s bv nv, .int .i64 q, .int .i64 id, .string t] w fun e w' => e = .returned (.int .i64 (noteNE s q id t)) ∧ Grow w w' := by
  obtain ⟨a1, c1, rfl⟩ := h.1.mk
  obtain ⟨a2, c2, rfl⟩ := h.2.mk
  have HH := Lib.hid h
  clear h
  have cM := fun W => ref_may t W ht
  unfold shelfV
  go_enter Tryd.func74, Tryd.ntmps74
  go_upto_region 1 with (fail)
  generalize hV : w.alloc (.cells #[.int .i64 s.nb, .int .i64 s.nn, .int .i64 s.ns, .slice a1 s.books.length c1, .slice a2 s.notes.length c2] 28) = V
  have gV : Grow w V := by rw [← hV]; exact (Grow.refl w).alloc _
  have q3 : V.cell? ⟨w.heap.size, 4, none⟩ = some (.slice a2 s.notes.length c2) := by rw [← hV]; simp [go_sem]
  have hsz : w.heap.size < V.heap.size := by rw [← hV]; simp
  clear hV
  have c := cM V
  cases hm : mayB t with
  | false =>
    rw [hm] at c
    have HE := Lib.hid (show noteNE s q id t = 6 by unfold noteNE; rw [if_pos hm])
    clear hm
    go_wp2_with fail
    refine c.mono ?_
    rintro e w1 ⟨rfl, g1⟩
    subst g1
    go_wp2_with fail
    go_ret
    exact ⟨ret_int HE.out.symm, gV⟩
  | true =>
    rw [hm] at c
    have HM := Lib.hid hm
    clear hm
    go_wp2_with fail
    refine c.mono ?_
    rintro e w1 ⟨rfl, g1⟩
    subst g1
    have gW := gV
    go_wp2_with fail
    go_loop [9] (fun v => ∃ j : Nat, v = .int .i64 j ∧ j ≤ s.notes.length ∧ ∀ (k : Nat) x, k < j → s.notes[k]? = some x → (titleB q t id) x = false) (fun v => s.notes.length - (intOf v).toNat)
    case atStart => exact ⟨0, rfl, by omega, fun k x h => absurd h (by omega)⟩
    case round =>
      obtain ⟨j, rfl, hj, hall⟩ := hrel
      have HA := Lib.hid hall
      clear hall
      by_cases hlt : j < s.notes.length
      · have hlt' : (j : Int) < s.notes.length := by omega
        obtain ⟨x, hx, -⟩ := lt_get hlt
        obtain ⟨bb, off, tv, sv, rfl, hbb, p0, p1, p2, -, -, -, -⟩ := (Notes.grow HH.out.2 gW).at hx
        have HX := Lib.hid hx
        clear hx
        cases h1 : (x.name.toList == t.toList) with
        | false =>
          have HP := Lib.hid (show (titleB q t id) x = false by unfold titleB; rw [h1, Bool.and_false, Bool.false_and])
          go_wp2_with fail
          go_round
          case rel => exact ⟨j + 1, by go_num, by omega, fun k y hk hy => by
            rcases (by omega : k < j ∨ k = j) with h3 | rfl
            · exact HA.out k y h3 hy
            · rw [HX.out] at hy; injection hy with hy; rw [← hy]; exact HP.out⟩
          case measure => simp [intOf]; omega
        | true =>
          cases h2 : (x.book == q) with
          | false =>
            have HP := Lib.hid (show (titleB q t id) x = false by unfold titleB; rw [h2, Bool.false_and, Bool.false_and])
            go_wp2_with fail
            go_round
            case rel => exact ⟨j + 1, by go_num, by omega, fun k y hk hy => by
              rcases (by omega : k < j ∨ k = j) with h3 | rfl
              · exact HA.out k y h3 hy
              · rw [HX.out] at hy; injection hy with hy; rw [← hy]; exact HP.out⟩
            case measure => simp [intOf]; omega
          | true =>
            cases h3 : (x.id != id) with
            | false =>
              have HP := Lib.hid (show (titleB q t id) x = false by unfold titleB; rw [h3, Bool.and_false])
              go_wp2_with fail
              go_round
              case rel => exact ⟨j + 1, by go_num, by omega, fun k y hk hy => by
                rcases (by omega : k < j ∨ k = j) with h3 | rfl
                · exact HA.out k y h3 hy
                · rw [HX.out] at hy; injection hy with hy; rw [← hy]; exact HP.out⟩
              case measure => simp [intOf]; omega
            | true =>
              have HP := Lib.hid (show s.notes.any (titleB q t id) = true from List.any_eq_true.2 ⟨x, List.mem_of_getElem? HX.out, by unfold titleB; rw [h1, h2, h3]; rfl⟩)
              have HE := Lib.hid (show noteNE s q id t = 7 by unfold noteNE; rw [if_neg (by rw [HM.out]; simp), if_pos HP.out])
              go_wp2_with fail
              go_ret
              exact ⟨ret_int HE.out.symm, gW⟩
      · have HP := Lib.hid (show s.notes.any (titleB q t id) = false from List.any_eq_false.2 fun x hx => by
          obtain ⟨k, hk⟩ := List.getElem?_of_mem hx
          rw [HA.out k x (by have := (List.getElem?_eq_some_iff.1 hk).1; omega) hk]; simp)
        have HE := Lib.hid (show noteNE s q id t = 0 by unfold noteNE; rw [if_neg (by rw [HM.out]; simp), if_neg (by rw [HP.out]; simp)])
        have hlt' : ¬ (j : Int) < s.notes.length := by omega
        go_wp2_with fail
        go_ret
        exact ⟨ret_int HE.out.symm, gW⟩
set_option maxRecDepth 100000 in
set_option maxHeartbeats 1000000 in
theorem refNote_any (s : Shelf) (bv nv : Value) (n : Int) (w : World) (h : ShelfR w s bv nv) (hz : s.notes.length ≤ 1000000) :
    Calls Tryd.prog 76 #[shelfV s bv nv, .int .i64 n] w fun e w' => e = .returned (.int .i64 (idx (fun b => b.id == n) s.notes)) ∧ Grow w w' := by
  obtain ⟨a1, c1, rfl⟩ := h.1.mk
  obtain ⟨a2, c2, rfl⟩ := h.2.mk
  have HH := Lib.hid h
  clear h
  unfold shelfV
  go_enter Tryd.func76, Tryd.ntmps76
  go_upto_region 1 with (fail)
  generalize hV : w.alloc (.cells #[.int .i64 s.nb, .int .i64 s.nn, .int .i64 s.ns, .slice a1 s.books.length c1, .slice a2 s.notes.length c2] 28) = V
  have gV : Grow w V := by rw [← hV]; exact (Grow.refl w).alloc _
  have q3 : V.cell? ⟨w.heap.size, 4, none⟩ = some (.slice a2 s.notes.length c2) := by rw [← hV]; simp [go_sem]
  clear hV
  go_wp2_with fail
  go_loop [5] (fun v5 => ∃ j : Nat, v5 = .int .i64 j ∧ j ≤ s.notes.length ∧ ∀ (k : Nat) x, k < j → s.notes[k]? = some x → (x.id == n) = false) (fun v5 => s.notes.length - (intOf v5).toNat)
  case atStart => exact ⟨0, rfl, by omega, fun k x h => absurd h (by omega)⟩
  case round =>
    obtain ⟨j, rfl, hj, hall⟩ := hrel
    have HA := Lib.hid hall
    clear hall
    by_cases hlt : j < s.notes.length
    · have hlt' : (j : Int) < s.notes.length := by omega
      obtain ⟨x, hx, -⟩ := lt_get hlt
      obtain ⟨bb, off, tv, sv, rfl, hbb, p0, -, -, -, -, -, -⟩ := (Notes.grow HH.out.2 gV).at hx
      have HX := Lib.hid hx
      clear hx
      cases hp : (x.id == n)
      · have HP := Lib.hid hp
        go_wp2_with fail
        go_round
        case rel => exact ⟨j + 1, by go_num, by omega, fun k y hk hy => by
          rcases (by omega : k < j ∨ k = j) with h3 | rfl
          · exact HA.out k y h3 hy
          · rw [HX.out] at hy; injection hy with hy; rw [← hy]; exact HP.out⟩
        case measure => simp [intOf]; omega
      · have HR := Lib.hid (idx_some (p := fun b : Note => b.id == n) HX.out hp HA.out)
        go_wp2_with fail
        go_ret
        exact ⟨ret_int HR.out.symm, gV⟩
    · have HR := Lib.hid (idx_none (p := fun b : Note => b.id == n) (l := s.notes) (fun k x hx => HA.out k x (by have := (List.getElem?_eq_some_iff.1 hx).1; omega) hx))
      have hlt' : ¬ (j : Int) < s.notes.length := by omega
      go_wp2_with fail
      go_ret
      exact ⟨ret_int HR.out.symm, gV⟩
end Go.Proofs.YtnajccljdjllgaaDoor
set_option linter.unusedVariables false
set_option linter.unusedSimpArgs false
namespace Go.Proofs.YtnajccljdjllgaaDoor
open Go.RowKit Go.Lib
theorem step_Rd {P : Program} {α : Type} {R : World → α → List Value → Prop} {base : Nat} {ops : Array Oper} {o : Oper} {a : Act} {K : Act → World → Prop} {Q : Exit → Act → World → Prop} {E : Prop} (hgd : o.guard = none) (s x : Operand) (t : TypeId)
    (ho : o.op = .call { callee := .builtin .append, args := #[s, x], argTypes := #[t, t] })
    (e : TypeId) (i : TypeInfo) (z : Value) (k bytes : Nat) (ht : P.underlying t = some (.slice e)) (hi : P.info? e = some i) (hz : i.zero = some z) (hsize : i.size = k) (hby : i.bytes = bytes) (hzs : z.cells.size = k) (hk : 0 < k)
    (v u : Value) (n : Nat) (xs : List Value) (hs : a.eval s = v) (w : World) (h : RowO base e k v n xs w) (hbase : base ≤ w.heap.size) {l : List α} (hx : a.eval x = u) (hr : Reads R k w u l) (h1 : ∀ a cs, R w a cs → ∀ u ∈ cs, u.oneCell' = true) (hn : n + l.length ≤ 1000000000000) (hbytes : bytes ≤ 100)
    (hk' : ∀ v' w', AppRd R base e k w v n xs l v' w' → K (a.put o.dst v') w') : if Region.wanted o (yielded ops a.tmps) = true then Oper.wp P o a w K Q else E := by
  have hw : Region.wanted o (yielded ops a.tmps) = true := by simp [Region.wanted, hgd]
  rw [if_pos hw]
  obtain ⟨v', w', hrun, h2⟩ := run_rd (P := P) (ty := o.type) ht hi hz hsize hby hzs hk h hbase hr h1 hn hbytes
  unfold Oper.wp execOp
  simp only [ho, resolve, invoke, builtin, Sem.run_bind, Sem.run_pure, Result.andThen_ok, List.map_toArray, List.map_cons, List.map_nil, hs, hx, hrun]
  exact hk' _ _ h2
/-- The first i notes' tags, and the first k notes' sheets, are the call's own; the others as they were in w0. -/
structure OwnQ (base : Nat) (bv nv : Value) (X : List Book) (Y : List NV) (i k : Nat) (w0 w : World) : Prop where
  books : RowO base 37 2 bv X.length (X.flatMap bookC) w
  notes : RowO base 41 5 nv Y.length (Y.flatMap noteC) w
  tdone : ∀ (j : Nat) y, j < i → Y[j]? = some y → RowO base 9 1 y.tv y.n.tags.length (strC y.n.tags) w
  sdone : ∀ (j : Nat) y, j < k → Y[j]? = some y → RowO base 3 1 y.sv y.n.sheets.length (intC y.n.sheets) w
  trest : ∀ (j : Nat) y, i ≤ j → Y[j]? = some y → Texts w0 y.tv y.n.tags
  srest : ∀ (j : Nat) y, k ≤ j → Y[j]? = some y → Ints w0 y.sv y.n.sheets
  tsep : ∀ (j q : Nat) y z, j < q → q < i → Y[j]? = some y → Y[q]? = some z → ∀ b, blkOf y.tv = some b → blkOf z.tv ≠ some b
  ssep : ∀ (j q : Nat) y z, j < q → q < k → Y[j]? = some y → Y[q]? = some z → ∀ b, blkOf y.sv = some b → blkOf z.sv ≠ some b
section
variable {base : Nat} {bv nv : Value} {X : List Book} {Y : List NV} {i k : Nat} {w0 w w' : World}
theorem OwnQ.kept (h : OwnQ base bv nv X Y i k w0 w) (kk : KeptS w w') : OwnQ base bv nv X Y i k w0 w' := by
  have one : ∀ {e : TypeId} {c : Nat} {v : Value} {n : Nat} {xs : List Value}, (e = 37 ∨ e = 41 ∨ e = 9 ∨ e = 3) → RowO base e c v n xs w → RowO base e c v n xs w' := fun he hr =>
    hr.kept_of fun g hg => by obtain ⟨-, cur, hc⟩ := hr.blk hg; rw [hc]; exact kk g cur _ he hc
  exact ⟨one (.inl rfl) h.books, one (.inr (.inl rfl)) h.notes, fun j y hj hy => one (.inr (.inr (.inl rfl))) (h.tdone j y hj hy), fun j y hj hy => one (.inr (.inr (.inr rfl))) (h.sdone j y hj hy), h.trest, h.srest, h.tsep, h.ssep⟩
theorem OwnQ.all (h : OwnQ base bv nv X Y i k w0 w) (hi : Y.length ≤ i) (hk : Y.length ≤ k) : OwnS base bv nv X Y w := by
  refine ⟨h.books, h.notes, fun y hy => ?_, fun y hy => ?_, ?_, ?_⟩
  · obtain ⟨j, hj⟩ := List.getElem?_of_mem hy
    exact h.tdone j y (by have := (List.getElem?_eq_some_iff.1 hj).1; omega) hj
  · obtain ⟨j, hj⟩ := List.getElem?_of_mem hy
    exact h.sdone j y (by have := (List.getElem?_eq_some_iff.1 hj).1; omega) hj
  · rw [List.pairwise_iff_getElem]
    intro j q hj hq hjq
    exact h.tsep j q _ _ hjq (by omega) (List.getElem?_eq_getElem hj) (List.getElem?_eq_getElem hq)
  · rw [List.pairwise_iff_getElem]
    intro j q hj hq hjq
    exact h.ssep j q _ _ hjq (by omega) (List.getElem?_eq_getElem hj) (List.getElem?_eq_getElem hq)
/-- A note's cells. -/
theorem OwnQ.note (h : OwnQ base bv nv X Y i k w0 w) {j : Nat} {y : NV} (hy : Y[j]? = some y) {b c : Nat} (e : nv = .slice (some ⟨b, 0, none⟩) Y.length c) (p : Nat) (u : Value) (hu : (noteC y)[p]? = some u) : w.cell? ⟨b, j * 5 + p, none⟩ = some u ∧ w.frozen? ⟨b, j * 5 + p, none⟩ = false ∧ b < w.heap.size := by
  have hp : p < 5 := by have := (List.getElem?_eq_some_iff.1 hu).1; simpa using this
  have hc : (Y.flatMap noteC)[j * 5 + p]? = some u := by rw [flat_get noteC (fun _ => rfl) Y j p y hy hp]; exact hu
  obtain ⟨b', c', e1, h1, h2, h3, -⟩ := h.notes.cell hc
  rw [e] at e1
  injection e1 with e2
  injection e2 with e2
  injection e2 with e2
  subst e2
  exact ⟨h1, h2, h3⟩
theorem OwnQ.start {w1 : World} (hb : RowO base 37 2 bv X.length (X.flatMap bookC) w1) (hn : RowO base 41 5 nv Y.length (Y.flatMap noteC) w1) (hr : ∀ y ∈ Y, Texts w0 y.tv y.n.tags ∧ Ints w0 y.sv y.n.sheets) : OwnQ base bv nv X Y 0 0 w0 w1 :=
  ⟨hb, hn, fun j y hj => absurd hj (by omega), fun j y hj => absurd hj (by omega), fun j y _ hy => (hr y (List.mem_of_getElem? hy)).1, fun j y _ hy => (hr y (List.mem_of_getElem? hy)).2, fun j k y z _ hk => absurd hk (by omega), fun j k y z _ hk => absurd hk (by omega)⟩
theorem OwnQ.tag (h : OwnQ base bv nv X Y i k w0 w) {y : NV} (hy : Y[i]? = some y) (g : Grow w w') {v : Value} (hr : RowO w.heap.size 9 1 v y.n.tags.length (strC y.n.tags) w') (hbase : base ≤ w.heap.size)
    {b c : Nat} (e : nv = .slice (some ⟨b, 0, none⟩) Y.length c) :
    OwnQ base bv nv X (Y.set i { y with tv := v }) (i + 1) k w0 (w'.setCell ⟨b, i * 5 + 3, none⟩ v) ∧ Turned b w' (w'.setCell ⟨b, i * 5 + 3, none⟩ v) ∧ base ≤ b ∧ ∃ cur : Array Value, w'.heap[b]? = some (.cells cur 41 (0, 0)) := by
  have h' := h.kept (.of_grow g)
  have hi := (List.getElem?_eq_some_iff.1 hy).1
  have hc3 : (Y.flatMap noteC)[i * 5 + 3]? = some y.tv := by rw [flat_get noteC (fun _ => rfl) Y i 3 y hy (by decide)]; rfl
  obtain ⟨b1, c1, e1, hb1, hr1, t1, cur1, hcur1⟩ := h'.notes.stored hc3 v
  rw [e] at e1
  injection e1 with e2
  injection e2 with e2
  injection e2 with e2
  subst e2
  rw [flat_set noteC (fun _ => rfl) (y := { y with tv := v }) hy (by decide) rfl] at hr1
  have kk := kept_of_turned hcur1 t1
  have hst : ∀ (j : Nat) z, (Y.set i { y with tv := v })[j]? = some z → (j = i ∧ z = { y with tv := v }) ∨ (j ≠ i ∧ Y[j]? = some z) := fun j z hz => by
    rw [List.getElem?_set] at hz
    by_cases e : i = j
    · rw [if_pos e, if_pos (by omega)] at hz
      exact .inl ⟨e.symm, (Option.some.inj hz).symm⟩
    · rw [if_neg e] at hz; exact .inr ⟨fun e' => e e'.symm, hz⟩
  refine ⟨{ books := h'.books.kept (by decide) kk, notes := by rw [List.length_set]; exact hr1, tdone := fun j z hj hz => ?_, sdone := fun j z hj hz => ?_, trest := fun j z hj hz => ?_, srest := fun j z hj hz => ?_, tsep := fun j q p r hjk hk hp hq bb hb1 hb2' => ?_, ssep := fun j q p r hjk hk hp hq bb hb1 hb2' => ?_ }, t1, ?_, cur1, hcur1⟩
  · rcases hst j z hz with ⟨rfl, rfl⟩ | ⟨hne, hz⟩
    · exact (hr.base_mono hbase).kept (by decide) kk
    · exact (h'.tdone j z (by omega) hz).kept (by decide) kk
  · rcases hst j z hz with ⟨e7, rfl⟩ | ⟨hne, hz⟩
    · subst e7; exact (h'.sdone j y hj hy).kept (by decide) kk
    · exact (h'.sdone j z hj hz).kept (by decide) kk
  · rcases hst j z hz with ⟨rfl, rfl⟩ | ⟨hne, hz⟩
    · omega
    · exact h.trest j z (by omega) hz
  · rcases hst j z hz with ⟨e7, rfl⟩ | ⟨hne, hz⟩
    · subst e7; exact h.srest j y hj hy
    · exact h.srest j z hj hz
  · rcases hst j p hp with ⟨e7, -⟩ | ⟨hne, hp'⟩
    · omega
    rcases hst q r hq with ⟨e7, e8⟩ | ⟨hne2, hq'⟩
    · rw [e8] at hb2'
      have a1 := (h.tdone j p (by omega) hp').blk_lt hb1
      have a2 := (hr.blk hb2').1
      omega
    · exact h.tsep j q p r hjk (by omega) hp' hq' bb hb1 hb2'
  · have key : ∀ (j : Nat) z, (Y.set i { y with tv := v })[j]? = some z → ∃ z', Y[j]? = some z' ∧ z.sv = z'.sv := fun j z hz => by
      rcases hst j z hz with ⟨e7, rfl⟩ | ⟨hne, hz⟩
      · subst e7; exact ⟨y, hy, rfl⟩
      · exact ⟨z, hz, rfl⟩
    obtain ⟨p', hp', e8⟩ := key j p hp
    obtain ⟨r', hr', e9⟩ := key q r hq
    rw [e8] at hb1
    rw [e9] at hb2'
    exact h.ssep j q p' r' hjk hk hp' hr' bb hb1 hb2'
  · exact (h'.notes.blk hb1).1
theorem OwnQ.sheet (h : OwnQ base bv nv X Y i k w0 w) {y : NV} (hy : Y[k]? = some y) (g : Grow w w') {v : Value} (hr : RowO w.heap.size 3 1 v y.n.sheets.length (intC y.n.sheets) w') (hbase : base ≤ w.heap.size)
    {b c : Nat} (e : nv = .slice (some ⟨b, 0, none⟩) Y.length c) :
    OwnQ base bv nv X (Y.set k { y with sv := v }) i (k + 1) w0 (w'.setCell ⟨b, k * 5 + 4, none⟩ v) ∧ Turned b w' (w'.setCell ⟨b, k * 5 + 4, none⟩ v) ∧ base ≤ b ∧ ∃ cur : Array Value, w'.heap[b]? = some (.cells cur 41 (0, 0)) := by
  have h' := h.kept (.of_grow g)
  have hi := (List.getElem?_eq_some_iff.1 hy).1
  have hc3 : (Y.flatMap noteC)[k * 5 + 4]? = some y.sv := by rw [flat_get noteC (fun _ => rfl) Y k 4 y hy (by decide)]; rfl
  obtain ⟨b1, c1, e1, hb1, hr1, t1, cur1, hcur1⟩ := h'.notes.stored hc3 v
  rw [e] at e1
  injection e1 with e2
  injection e2 with e2
  injection e2 with e2
  subst e2
  rw [flat_set noteC (fun _ => rfl) (y := { y with sv := v }) hy (by decide) rfl] at hr1
  have kk := kept_of_turned hcur1 t1
  have hst : ∀ (j : Nat) z, (Y.set k { y with sv := v })[j]? = some z → (j = k ∧ z = { y with sv := v }) ∨ (j ≠ k ∧ Y[j]? = some z) := fun j z hz => by
    rw [List.getElem?_set] at hz
    by_cases e : k = j
    · rw [if_pos e, if_pos (by omega)] at hz
      exact .inl ⟨e.symm, (Option.some.inj hz).symm⟩
    · rw [if_neg e] at hz; exact .inr ⟨fun e' => e e'.symm, hz⟩
  refine ⟨{ books := h'.books.kept (by decide) kk, notes := by rw [List.length_set]; exact hr1, tdone := fun j z hj hz => ?_, sdone := fun j z hj hz => ?_, trest := fun j z hj hz => ?_, srest := fun j z hj hz => ?_, tsep := fun j q p r hjk hk hp hq bb hb1 hb2' => ?_, ssep := fun j q p r hjk hk hp hq bb hb1 hb2' => ?_ }, t1, ?_, cur1, hcur1⟩
  · rcases hst j z hz with ⟨e7, rfl⟩ | ⟨hne, hz⟩
    · subst e7; exact (h'.tdone j y hj hy).kept (by decide) kk
    · exact (h'.tdone j z hj hz).kept (by decide) kk
  · rcases hst j z hz with ⟨rfl, rfl⟩ | ⟨hne, hz⟩
    · exact (hr.base_mono hbase).kept (by decide) kk
    · exact (h'.sdone j z (by omega) hz).kept (by decide) kk
  · rcases hst j z hz with ⟨e7, rfl⟩ | ⟨hne, hz⟩
    · subst e7; exact h.trest j y hj hy
    · exact h.trest j z hj hz
  · rcases hst j z hz with ⟨rfl, rfl⟩ | ⟨hne, hz⟩
    · omega
    · exact h.srest j z (by omega) hz
  · have key : ∀ (j : Nat) z, (Y.set k { y with sv := v })[j]? = some z → ∃ z', Y[j]? = some z' ∧ z.tv = z'.tv := fun j z hz => by
      rcases hst j z hz with ⟨e7, rfl⟩ | ⟨hne, hz⟩
      · subst e7; exact ⟨y, hy, rfl⟩
      · exact ⟨z, hz, rfl⟩
    obtain ⟨p', hp', e8⟩ := key j p hp
    obtain ⟨r', hr', e9⟩ := key q r hq
    rw [e8] at hb1
    rw [e9] at hb2'
    exact h.tsep j q p' r' hjk hk hp' hr' bb hb1 hb2'
  · rcases hst j p hp with ⟨e7, -⟩ | ⟨hne, hp'⟩
    · omega
    rcases hst q r hq with ⟨e7, e8⟩ | ⟨hne2, hq'⟩
    · rw [e8] at hb2'
      have a1 := (h.sdone j p (by omega) hp').blk_lt hb1
      have a2 := (hr.blk hb2').1
      omega
    · exact h.ssep j q p r hjk (by omega) hp' hq' bb hb1 hb2'
  · exact (h'.notes.blk hb1).1
end
theorem turned_cell0 (w : World) (b j : Nat) (u : Value) : Turned b w (w.setCell ⟨b, j, none⟩ u) := ⟨rfl, rfl, rfl, by simp, fun i _ hb => heap_setCell_other w ⟨b, j, none⟩ i u hb⟩
theorem map_set_n {Y : List NV} {i : Nat} {y z : NV} (hy : Y[i]? = some y) (hz : z.n = y.n) : (Y.set i z).map NV.n = Y.map NV.n := by
  apply List.ext_getElem?
  intro j
  rw [List.getElem?_map, List.getElem?_map, List.getElem?_set]
  have hi := (List.getElem?_eq_some_iff.1 hy).1
  by_cases e : i = j
  · subst e; rw [if_pos rfl, if_pos hi, hy]; simp [hz]
  · rw [if_neg e]
structure OwnBQ (s : Shelf) (w : World) (bv nv : Value) (Y : List NV) (i k : Nat) (wx : World) : Prop where
  grow : Grow w wx
  box : wx.heap[w.heap.size]? = some (shB s bv nv)
  res : wx.heap[w.heap.size + 1]? = some (shB ⟨0, 0, 0, [], []⟩ (.slice none 0 0) (.slice none 0 0))
  own : OwnQ w.heap.size bv nv s.books Y i k w wx
  map : Y.map NV.n = s.notes
theorem OwnBQ.drew {s : Shelf} {w wx : World} {bv nv : Value} {Y : List NV} {i k : Nat} (h : OwnBQ s w bv nv Y i k wx) : OwnBQ s w bv nv Y i k wx.drew :=
  ⟨h.grow.drew, (Grow.refl wx).drew.blk h.box, (Grow.refl wx).drew.blk h.res, h.own.kept (.of_grow (Grow.refl wx).drew), h.map⟩
theorem grown_nil {w w' : World} {b : Option Nat} (hb : b = none) (g : w.grownBy w' b) : Grow w w' := by subst hb; exact Below.grown (Grow.refl _) g (Nat.le_refl _) (fun b hb => by cases hb)
theorem copy_begin {s : Shelf} {w V w1 w2 : World} {bv nv : Value} (h : ShelfR w s bv nv) (gV : Grow w V) (hb : V.heap[w.heap.size]? = some (shB s bv nv)) (hr : V.heap[w.heap.size + 1]? = some (shB ⟨0, 0, 0, [], []⟩ (.slice none 0 0) (.slice none 0 0)))
    {v1 v2 : Value} {xs1 xs2 : List Value} (r1 : RowO w.heap.size 37 2 v1 s.books.length xs1 w1) (g1 : Grow V w1) (l1 : xs1.length = s.books.length * 2) (c1 : ∀ (i : Nat) a, s.books[i]? = some a → BookR w a ((xs1.drop (i * 2)).take 2))
    (r2 : RowO w.heap.size 41 5 v2 s.notes.length xs2 w2) (g2 : Grow (w1.setCell ⟨w.heap.size, 3, none⟩ v1) w2) (l2 : xs2.length = s.notes.length * 5) (c2 : ∀ (i : Nat) a, s.notes[i]? = some a → NoteR w a ((xs2.drop (i * 5)).take 5)) :
    ∃ Y, OwnBQ s w v1 v2 Y 0 0 (w2.setCell ⟨w.heap.size, 4, none⟩ v2) := by
  obtain ⟨Y, h1, h2, h3⟩ := notes_cells s.notes xs2 l2 c2
  have e1 := books_cells s.books xs1 l1 c1
  subst e1 h2
  have hb1 := g1.blk hb
  have hr1 := g1.blk hr
  have t1 := turned_cell0 w1 w.heap.size 3 v1
  have hb2 := heap_setCell_same w1 w.heap.size 3 _ _ v1 hb1
  have hlt : w.heap.size + 1 < w1.heap.size := (Array.getElem?_eq_some_iff.1 hr1).1
  have hr2 := (t1.block _ hlt (by omega)).trans hr1
  have hb3 := g2.blk hb2
  have hr3 := g2.blk hr2
  have t2 := turned_cell0 w2 w.heap.size 4 v2
  have hb4 := heap_setCell_same w2 w.heap.size 4 _ _ v2 hb3
  have hlt2 : w.heap.size + 1 < w2.heap.size := (Array.getElem?_eq_some_iff.1 hr3).1
  have hr4 := (t2.block _ hlt2 (by omega)).trans hr3
  have hn : Y.length = s.notes.length := by rw [← h1, List.length_map]
  have k1 : KeptS w1 (w1.setCell ⟨w.heap.size, 3, none⟩ v1) := KeptS.of_turned t1 hb1 (by decide)
  have k2 : KeptS w2 (w2.setCell ⟨w.heap.size, 4, none⟩ v2) := KeptS.of_turned t2 hb3 (by decide)
  have kk := (k1.trans (.of_grow g2)).trans k2
  have one : ∀ {w w' : World} {e : TypeId} {base c : Nat} {v : Value} {n : Nat} {xs : List Value}, KeptS w w' → (e = 37 ∨ e = 41 ∨ e = 9 ∨ e = 3) → RowO base e c v n xs w → RowO base e c v n xs w' := fun k he hr =>
    hr.kept_of fun g hg => by obtain ⟨-, cur, hc⟩ := hr.blk hg; rw [hc]; exact k g cur _ he hc
  refine ⟨Y, t2.grow ((t1.grow (gV.trans g1) (Nat.le_refl _)).trans g2) (Nat.le_refl _), hb4.trans rfl, hr4, OwnQ.start (one kk (.inl rfl) r1) (one k2 (.inr (.inl rfl)) ?_) h3, h1⟩
  rw [hn]; exact r2
theorem copy_tags {s : Shelf} {w wr w1 : World} {bv : Value} {Y : List NV} {i k : Nat} {nb nc : Nat} (hB : OwnBQ s w bv (.slice (some ⟨nb, 0, none⟩) s.notes.length nc) Y i k wr) {y : NV} (hy : Y[i]? = some y) (hnv : (Value.slice (some ⟨nb, 0, none⟩) s.notes.length nc) = .slice (some ⟨nb, 0, none⟩) Y.length nc)
    {v : Value} {xs : List Value} (r : RowO wr.heap.size 9 1 v y.n.tags.length xs w1) (g : Grow wr w1) (l1 : xs.length = y.n.tags.length * 1) (c1 : ∀ (i : Nat) a, y.n.tags[i]? = some a → TextR w a ((xs.drop (i * 1)).take 1)) :
    OwnBQ s w bv (.slice (some ⟨nb, 0, none⟩) s.notes.length nc) (Y.set i { y with tv := v }) (i + 1) k (w1.setCell ⟨nb, i * 5 + 3, none⟩ v) := by
  have e1 := text_cells y.n.tags xs l1 c1
  subst e1
  obtain ⟨h1, h2, h3, cur, h4⟩ := hB.own.tag hy g r hB.grow.size hnv
  have hc := kept_of_turned h4 h2
  exact ⟨h2.grow (hB.grow.trans g) h3, hc _ _ _ _ (by decide) (g.blk hB.box), hc _ _ _ _ (by decide) (g.blk hB.res), h1, (map_set_n (z := { y with tv := v }) hy rfl).trans hB.map⟩
theorem copy_ints {s : Shelf} {w wr w1 : World} {bv : Value} {Y : List NV} {i k : Nat} {nb nc : Nat} (hB : OwnBQ s w bv (.slice (some ⟨nb, 0, none⟩) s.notes.length nc) Y i k wr) {y : NV} (hy : Y[k]? = some y) (hnv : (Value.slice (some ⟨nb, 0, none⟩) s.notes.length nc) = .slice (some ⟨nb, 0, none⟩) Y.length nc)
    {v : Value} {xs : List Value} (r : RowO wr.heap.size 3 1 v y.n.sheets.length xs w1) (g : Grow wr w1) (l1 : xs.length = y.n.sheets.length * 1) (c1 : ∀ (i : Nat) a, y.n.sheets[i]? = some a → IntR w a ((xs.drop (i * 1)).take 1)) :
    OwnBQ s w bv (.slice (some ⟨nb, 0, none⟩) s.notes.length nc) (Y.set k { y with sv := v }) i (k + 1) (w1.setCell ⟨nb, k * 5 + 4, none⟩ v) := by
  have e1 := int_cells y.n.sheets xs l1 c1
  subst e1
  obtain ⟨h1, h2, h3, cur, h4⟩ := hB.own.sheet hy g r hB.grow.size hnv
  have hc := kept_of_turned h4 h2
  exact ⟨h2.grow (hB.grow.trans g) h3, hc _ _ _ _ (by decide) (g.blk hB.box), hc _ _ _ _ (by decide) (g.blk hB.res), h1, (map_set_n (z := { y with sv := v }) hy rfl).trans hB.map⟩
end Go.Proofs.YtnajccljdjllgaaDoor
set_option linter.unusedVariables false
set_option linter.unusedSimpArgs false
namespace Go.Proofs.YtnajccljdjllgaaDoor
open Go.RowKit Go.Lib
set_option maxRecDepth 100000 in
set_option maxHeartbeats 4000000 in
theorem copy_any (s : Shelf) (bv nv : Value) (w : World) (h : ShelfR w s bv nv) (hz : Tame s) :
    Calls Tryd.prog 15 #[shelfV s bv nv] w (RetOwn s w) := by
  obtain ⟨ib, hib, ibz0, ibz1, ibz2⟩ := info_parts info_book
  obtain ⟨inn, hinn, innz0, innz1, innz2⟩ := info_parts info_note
  obtain ⟨it, hit, itz0, itz1, itz2⟩ := info_parts info_text
  obtain ⟨ii, hii, iiz0, iiz1, iiz2⟩ := info_parts info_int
  obtain ⟨a1, c1, rfl⟩ := h.1.mk
  obtain ⟨a2, c2, rfl⟩ := h.2.mk
  have HH := Lib.hid h
  have HZ := Lib.hid hz
  have hnl := hz.2.1
  have hbl := hz.1
  have HXX := Lib.hid (two_boxes2 w (shB s (.slice a1 s.books.length c1) (.slice a2 s.notes.length c2)) (shB ⟨0, 0, 0, [], []⟩ (.slice none 0 0) (.slice none 0 0)))
  clear h hz
  unfold shelfV
  go_enter Tryd.func15, Tryd.ntmps15
  go_upto_region 1 with (fail)
  generalize hV : (w.alloc (.cells #[.int .i64 s.nb, .int .i64 s.nn, .int .i64 s.ns, .slice a1 s.books.length c1, .slice a2 s.notes.length c2] 28)).alloc (.cells #[.int .i64 0, .int .i64 0, .int .i64 0, .slice none 0 0, .slice none 0 0] 28) = V
  have gV : Grow w V := by rw [← hV]; exact ((Grow.refl w).alloc _).alloc _
  have hbx : V.heap[w.heap.size]? = some (shB s (.slice a1 s.books.length c1) (.slice a2 s.notes.length c2)) := by rw [← hV]; exact HXX.out.1
  have hrx : V.heap[w.heap.size + 1]? = some (shB ⟨0, 0, 0, [], []⟩ (.slice none 0 0) (.slice none 0 0)) := by rw [← hV]; exact HXX.out.2
  have HBX := Lib.hid hbx
  have HRX := Lib.hid hrx
  have HGV := Lib.hid gV
  obtain ⟨p0, p1, p2, p3, p4⟩ := sh5 hbx
  have hsz : w.heap.size < V.heap.size := (Array.getElem?_eq_some_iff.1 hbx).1
  clear hV hbx hrx gV
  go_upto_region 2 with (at_builtin; refine app_Rd (R := fun _ => BookR w) (l := s.books) (base := w.heap.size) (by rfl) _ _ 25 (by rfl) 37 ib _ 2 24 Tryd.underlying25 hib ibz0 ibz1 ibz2 (by rfl) (by decide) (.slice none 0 0) (.slice a1 s.books.length c1) 0 [] (by rfl) V .nil HGV.out.size (by rfl) (Reads.hold HH.out.1 HGV.out) (fun a cs hh => one_book w a cs hh) ?_ (by decide) ?_; omega; intro v1 w1 ra; obtain ⟨xs1, rb, gb, -, lb, cb⟩ := ra; rw [Nat.zero_add, List.nil_append] at rb; have g1 := grown_nil rfl gb; obtain ⟨va, vc, e3, -⟩ := rb.slice; subst e3; have hb1 := g1.blk HBX.out; have HRB := Lib.hid rb; have HG1 := Lib.hid g1; have HLB := Lib.hid lb; have HCB := Lib.hid cb; obtain ⟨q0, q1, q2, q3, q4⟩ := sh5 hb1; have qf3 := frozen_of_row w1 w.heap.size 3 _ _ hb1; have hsz1 : w.heap.size < w1.heap.size := (Array.getElem?_eq_some_iff.1 hb1).1; clear rb gb lb cb g1 hb1)
  have hgw : Grow w (w1.setCell ⟨w.heap.size, 3, none⟩ (.slice va s.books.length vc)) := (turned_cell0 w1 w.heap.size 3 (.slice va s.books.length vc)).grow (HGV.out.trans HG1.out) (Nat.le_refl _)
  have hb2 := heap_setCell_same w1 w.heap.size 3 _ _ (.slice va s.books.length vc) (HG1.out.blk HBX.out)
  have hb2' : (w1.setCell ⟨w.heap.size, 3, none⟩ (.slice va s.books.length vc)).heap[w.heap.size]? = some (shB s (.slice va s.books.length vc) (.slice a2 s.notes.length c2)) := hb2
  generalize hW2 : w1.setCell ⟨w.heap.size, 3, none⟩ (.slice va s.books.length vc) = W2 at *
  have HW2 := Lib.hid hW2
  have HGW := Lib.hid hgw
  have HB2 := Lib.hid hb2'
  clear p0 p1 p2 p3 p4 q0 q1 q2 q3 q4 qf3 hsz1 hsz hb2 hgw hW2
  obtain ⟨p0, p1, p2, p3, p4⟩ := sh5 hb2'
  have hsz : w.heap.size < W2.heap.size := (Array.getElem?_eq_some_iff.1 hb2').1
  clear hb2'
  go_upto_region 3 with (at_builtin; refine app_Rd (R := fun _ => NoteR w) (l := s.notes) (base := w.heap.size) (by rfl) _ _ 26 (by rfl) 41 inn _ 5 80 Tryd.underlying26 hinn innz0 innz1 innz2 (by rfl) (by decide) (.slice none 0 0) (.slice a2 s.notes.length c2) 0 [] (by rfl) W2 .nil HGW.out.size (by rfl) (Reads.hold HH.out.2 HGW.out) (fun a cs hh => one_note w a cs hh) ?_ (by decide) ?_; omega; intro v1 w3 ra; obtain ⟨xs2, rb, gb, -, lb, cb⟩ := ra; rw [Nat.zero_add, List.nil_append] at rb; have g1 := grown_nil rfl gb; obtain ⟨na, nc, e3, -⟩ := rb.slice; subst e3; have hb1 := g1.blk HB2.out; have HRN := Lib.hid rb; have HG3 := Lib.hid g1; have HLN := Lib.hid lb; have HCN := Lib.hid cb; obtain ⟨q0, q1, q2, q3, q4⟩ := sh5 hb1; have qf4 := frozen_of_row w3 w.heap.size 4 _ _ hb1; have hsz3 : w.heap.size < w3.heap.size := (Array.getElem?_eq_some_iff.1 hb1).1; clear rb gb lb cb g1 hb1)
  obtain ⟨Y0, hb0⟩ := copy_begin HH.out HGV.out HBX.out HRX.out HRB.out HG1.out HLB.out HCB.out HRN.out (by rw [HW2.out]; exact HG3.out) HLN.out HCN.out
  generalize w3.setCell ⟨w.heap.size, 4, none⟩ (.slice na s.notes.length nc) = W4 at *
  have HB0 := Lib.hid hb0
  clear p0 p1 p2 p3 p4 q0 q1 q2 q3 q4 qf4 hsz3 hsz HB2 HGW HW2 HBX HRX HRB HG1 HLB HCB HRN HG3 HLN HCN
  obtain ⟨k0, k1, k2, k3, k4⟩ := sh5 hb0.box
  have hw0 : w.heap.size < W4.heap.size := (Array.getElem?_eq_some_iff.1 hb0.box).1
  clear hb0
  go_wp2_with fail
  go_loopw [3] (fun v3 wx => ∃ i : Nat, v3 = .int .i64 i ∧ i ≤ s.notes.length ∧ ∃ Y, OwnBQ s w (.slice va s.books.length vc) (.slice na s.notes.length nc) Y i i wx) (fun v3 _ => s.notes.length - (Go.RowKit.intOf v3).toNat)
  case atStart => exact ⟨0, rfl, by omega, _, HB0.out⟩
  case round =>
    obtain ⟨i, rfl, hi, Y, hb⟩ := hrel
    have HB := Lib.hid hb
    obtain ⟨k0, k1, k2, k3, k4⟩ := sh5 hb.box
    have hw1 : w.heap.size < wr.heap.size := (Array.getElem?_eq_some_iff.1 hb.box).1
    have hYl : Y.length = s.notes.length := by rw [← hb.map, List.length_map]
    have HYL := Lib.hid hYl
    by_cases hlt : i < s.notes.length
    · have hlt' : (i : Int) < s.notes.length := by omega
      obtain ⟨y, hy, -⟩ := lt_get (l := Y) (i := i) (by omega)
      have HY := Lib.hid hy
      have hyn : s.notes[i]? = some y.n := by rw [← hb.map, List.getElem?_map, hy]; rfl
      obtain ⟨z1, z2, z3, z4⟩ := HZ.out.note hyn
      have hty := hb.own.trest i y (Nat.le_refl _) hy
      have hsy := hb.own.srest i y (Nat.le_refl _) hy
      have hnb : ∃ b, na = some ⟨b, 0, none⟩ := by
        have hc : (Y.flatMap noteC)[i * 5 + 3]? = some y.tv := by rw [flat_get noteC (fun _ => rfl) Y i 3 y hy (by decide)]; rfl
        obtain ⟨b, c, e, -⟩ := hb.own.notes.cell hc
        injection e with e; exact ⟨b, e⟩
      obtain ⟨nb, rfl⟩ := hnb
      have HNV := Lib.hid (show (Value.slice (some ⟨nb, 0, none⟩) s.notes.length nc) = .slice (some ⟨nb, 0, none⟩) Y.length nc by rw [hYl])
      have q3 := hb.own.note hy HNV.out 3 _ rfl
      obtain ⟨ta, tc, etv⟩ := hty.mk
      obtain ⟨sa, sc, esv⟩ := hsy.mk
      have HTV := Lib.hid etv
      have HSV := Lib.hid esv
      have HTR := Lib.hid (Reads.hold hty (hb.grow.trans (Grow.refl wr).drew))
      rw [etv] at HTR
      rw [etv] at q3
      have q3c := q3.1
      have q3f := q3.2.1
      have hnbz := q3.2.2
      clear hb hYl hy hyn hty hsy etv esv q3 HB0
      go_upto_region 6 with (fail)
      go_region_law (refine step_Rd (R := fun _ => TextR w) (l := y.n.tags) (base := wr.heap.size) (by rfl) _ _ 38 (by rfl) 9 it _ 1 16 Tryd.underlying38 hit itz0 itz1 itz2 (by rfl) (by decide) (.slice none 0 0) (.slice ta y.n.tags.length tc) 0 [] (by rfl) wr.drew .nil (Grow.refl wr).drew.size (by rfl) HTR.out (fun a cs hh => one_text w a cs hh) ?_ (by decide) ?_; (rw [Nat.zero_add]; omega); intro v' w4 ra; obtain ⟨xs1, rb, gb, -, lb, cb⟩ := ra; rw [Nat.zero_add, List.nil_append] at rb; have g1 := Grow.trans (Grow.refl wr).drew (grown_nil rfl gb); obtain ⟨va1, vc1, e3, -⟩ := rb.slice; subst e3; have HB1 := Lib.hid (copy_tags HB.out HY.out HNV.out rb g1 lb cb); have hb1 := Grow.blk g1 HB.out.box; obtain ⟨m0, m1, m2, m3, m4⟩ := sh5 hb1; have hz4 := Nat.lt_of_lt_of_le hw1 g1.size; have hz5 := Nat.lt_of_lt_of_le hnbz g1.size; have m5 := (g1.cells nb (i * 5 + 3) hnbz).trans q3c; have m6 := (g1.marks nb (i * 5 + 3) hnbz).trans q3f; clear rb gb lb cb g1 hb1)
      all_goals
        generalize w4.setCell ⟨nb, i * 5 + 3, none⟩ (.slice va1 y.n.tags.length vc1) = W5 at *
        clear k0 k1 k2 k3 k4 m0 m1 m2 m3 m4 m5 m6 hz4 hz5 q3c q3f hnbz HTR
        have hb5 := HB1.out
        have hy5 : (Y.set i { y with tv := .slice va1 y.n.tags.length vc1 })[i]? = some { y with tv := .slice va1 y.n.tags.length vc1 } := List.getElem?_set_self (List.getElem?_eq_some_iff.1 HY.out).1
        have HNV5 := Lib.hid (show (Value.slice (some ⟨nb, 0, none⟩) s.notes.length nc) = .slice (some ⟨nb, 0, none⟩) (Y.set i { y with tv := .slice va1 y.n.tags.length vc1 }).length nc by rw [List.length_set, HYL.out])
        have q4 := hb5.own.note hy5 HNV5.out 4 _ rfl
        have hsy := hb5.own.srest i _ (Nat.le_refl _) hy5
        have HSR := Lib.hid (Reads.hold hsy (hb5.grow.trans (Grow.refl W5).drew))
        replace q4 : W5.cell? ⟨nb, i * 5 + 4, none⟩ = some (.slice sa y.n.sheets.length sc) ∧ W5.frozen? ⟨nb, i * 5 + 4, none⟩ = false ∧ nb < W5.heap.size := by rw [← HSV.out]; exact q4
        replace HSR : Hid (Reads (fun _ => IntR w) 1 W5.drew (.slice sa y.n.sheets.length sc) y.n.sheets) := by rw [← HSV.out]; exact HSR
        have q4c := q4.1
        have q4f := q4.2.1
        have hnbz := q4.2.2
        have HY5 := Lib.hid hy5
        obtain ⟨k0, k1, k2, k3, k4⟩ := sh5 hb5.box
        have hw5 : w.heap.size < W5.heap.size := (Array.getElem?_eq_some_iff.1 hb5.box).1
        clear hb5 q4 hsy hy5
        go_upto_region 7 with (fail)
        go_region_law (refine step_Rd (R := fun _ => IntR w) (l := y.n.sheets) (base := W5.heap.size) (by rfl) _ _ 39 (by rfl) 3 ii _ 1 8 Tryd.underlying39 hii iiz0 iiz1 iiz2 (by rfl) (by decide) (.slice none 0 0) (.slice sa y.n.sheets.length sc) 0 [] (by rfl) W5.drew .nil (Grow.refl W5).drew.size (by rfl) HSR.out (fun a cs hh => one_int w a cs hh) ?_ (by decide) ?_; (rw [Nat.zero_add]; omega); intro v' w4 ra; obtain ⟨xs1, rb, gb, -, lb, cb⟩ := ra; rw [Nat.zero_add, List.nil_append] at rb; have g1 := Grow.trans (Grow.refl W5).drew (grown_nil rfl gb); obtain ⟨va2, vc2, e3, -⟩ := rb.slice; subst e3; have HB6 := Lib.hid (copy_ints HB1.out HY5.out HNV5.out rb g1 lb cb); have hb1 := Grow.blk g1 HB1.out.box; obtain ⟨m0, m1, m2, m3, m4⟩ := sh5 hb1; have hz4 := Nat.lt_of_lt_of_le hw5 g1.size; have hz5 := Nat.lt_of_lt_of_le hnbz g1.size; have m5 := (g1.cells nb (i * 5 + 4) hnbz).trans q4c; have m6 := (g1.marks nb (i * 5 + 4) hnbz).trans q4f; clear rb gb lb cb g1 hb1)
        all_goals
          go_wp2_with fail
          go_roundw
          case rel => exact ⟨i + 1, by go_num, by omega, _, HB6.out⟩
          case measure => simp [Go.RowKit.intOf]; omega
    · have hlt' : ¬ (i : Int) < s.notes.length := by omega
      obtain ⟨e0, e1, e2, e3, e4⟩ := sh5 hb.res
      have f0 := frozen_of_row wr (w.heap.size + 1) 0 _ _ hb.res
      have f1 := frozen_of_row wr (w.heap.size + 1) 1 _ _ hb.res
      have f2 := frozen_of_row wr (w.heap.size + 1) 2 _ _ hb.res
      have f3 := frozen_of_row wr (w.heap.size + 1) 3 _ _ hb.res
      have f4 := frozen_of_row wr (w.heap.size + 1) 4 _ _ hb.res
      have hi' : Y.length ≤ i := by omega
      have HOD := Lib.hid (show OwnD2 w.heap.size (.slice va s.books.length vc) (.slice na s.notes.length nc) s.books Y w (w.heap.size + 1) wr from ⟨hb.grow, hb.own.all hi' hi', _, hb.res⟩)
      have HMP := Lib.hid hb.map
      have hw2 : w.heap.size + 1 < wr.heap.size := (Array.getElem?_eq_some_iff.1 hb.res).1
      clear hb hYl HB0 hi'
      go_wp2_with fail
      refine bodyPost_ret (v := .agg #[.int .i64 s.nb, .int .i64 s.nn, .int .i64 s.ns, .slice va s.books.length vc, .slice na s.notes.length nc]) ?_ rfl ?_
      · rw [results_cell rfl]
        go_simp
      · have hfin : ∀ W', OwnD2 w.heap.size (.slice va s.books.length vc) (.slice na s.notes.length nc) s.books Y w (w.heap.size + 1) W' → RetOwn s w (.returned (.agg #[.int .i64 s.nb, .int .i64 s.nn, .int .i64 s.ns, .slice va s.books.length vc, .slice na s.notes.length nc])) W' := fun W' hW => ⟨_, _, Y, rfl, hW.2.1, HMP.out, hW.1⟩
        refine hfin _ ?_
        repeat' (first | with_reducible exact HOD.out | with_reducible refine OwnD2.set ?_ (by omega) _ _)
end Go.Proofs.YtnajccljdjllgaaDoor
set_option linter.unusedVariables false
set_option linter.unusedSimpArgs false
namespace Go.Proofs.YtnajccljdjllgaaDoor
open Go.RowKit Go.Lib
theorem grown_of_grow {w w' : World} (g : Grow w w') (b : Option Nat) : w.grownBy w' b := ⟨g.os, g.tape, g.output, g.size, fun k hk _ => g.block k hk⟩
theorem flat_drop {α : Type} (enc : α → List Value) {k : Nat} (hk : ∀ x, (enc x).length = k) : ∀ (l : List α) (i : Nat), (l.flatMap enc).drop (i * k) = (l.drop i).flatMap enc
  | l, 0 => by simp
  | [], i + 1 => by simp
  | x :: l, i + 1 => by
    rw [List.drop_succ_cons, ← flat_drop enc hk l i, List.flatMap_cons, Nat.add_mul, Nat.one_mul, Nat.add_comm, ← hk x, List.drop_append]
    simp [hk x]
theorem erase_cat {α : Type} (l : List α) (i : Nat) : l.eraseIdx i = l.take i ++ l.drop (i + 1) := List.eraseIdx_eq_take_drop_succ l i
theorem map_erase {α β : Type} (f : α → β) (l : List α) (i : Nat) : (l.eraseIdx i).map f = (l.map f).eraseIdx i := by rw [erase_cat, erase_cat, List.map_append, List.map_take, List.map_drop]
theorem erase_len {α : Type} {l : List α} {i : Nat} (h : i < l.length) : (l.eraseIdx i).length = i + (l.length - (i + 1)) := by rw [List.length_eraseIdx_of_lt h]; omega
section
variable {P : Program}
/-- What the append leaves. -/
def Erased {α : Type} (enc : α → List Value) (base : Nat) (e : TypeId) (k : Nat) (w : World) (b : Nat) (l : List α) (i : Nat) (v' : Value) (w' : World) : Prop :=
  RowO base e k v' (l.eraseIdx i).length ((l.eraseIdx i).flatMap enc) w' ∧ w.grownBy w' (some b) ∧ ∀ g, blkOf v' = some g → g = b ∨ w.heap.size ≤ g
theorem run_erase {α : Type} (enc : α → List Value) {t ty e : TypeId} {i0 : TypeInfo} {z : Value} {k bytes : Nat} (hk : ∀ x, (enc x).length = k) (ht : P.underlying t = some (.slice e)) (hi : P.info? e = some i0) (hz : i0.zero = some z) (hsize : i0.size = k) (hby : i0.bytes = bytes) (hzs : z.cells.size = k) (h0 : 0 < k)
    {base b c i n : Nat} {l : List α} {w : World} (h : RowO base e k (.slice (some ⟨b, 0, none⟩) n c) n (l.flatMap enc) w) (hn : l.length = n) (hil : i < n) (hbase : base ≤ w.heap.size) (h1 : ∀ x ∈ l, ∀ u ∈ enc x, u.oneCell' = true) (hz : n ≤ 1000000) (hbytes : bytes ≤ 100)
    (ad : Option Addr) (m c' : Nat) (hm : m = n - (i + 1)) (had : i + 1 < n → ad = some ⟨b, (i + 1) * k, none⟩) :
    ∃ v' w', (Builtin.append_ #[t, t] ty #[.slice (some ⟨b, 0, none⟩) i c, .slice ad m c']).run P w = .ok v' w' ∧ Erased enc base e k w b l i v' w' := by
  subst hn hm
  obtain ⟨a9, c9, e9, hc9⟩ := h.slice
  injection e9 with e1 e2 e3
  subst e3
  cases c with
  | zero => omega
  | succ c0 =>
  obtain ⟨-, cur, hcur⟩ := h.blk (g := b) rfl
  have hcut := h.cut hcur hcur rfl (by omega : i ≤ l.length) (fun j _ => rfl)
  rw [flat_take enc hk] at hcut
  by_cases hlast : i + 1 < l.length
  · rw [had hlast]
    have hnews : ∀ j u, ((l.drop (i + 1)).flatMap enc)[j]? = some u → w.cell? ((⟨b, (i + 1) * k, none⟩ : Addr).add j) = some u := fun j u hj => by
      have : (⟨b, (i + 1) * k, none⟩ : Addr).add j = ⟨b, (i + 1) * k + j, none⟩ := by simp [Addr.add]
      rw [this]
      rw [← flat_drop enc hk, List.getElem?_drop] at hj
      obtain ⟨b', c', e', h2, -⟩ := h.cell hj
      injection e' with e'
      injection e' with e'
      injection e' with e'
      subst e'
      exact h2
    obtain ⟨v', w', hrun, hr, hg, g, hg1, hg2⟩ := run_appO (P := P) (ty := ty) ht hi ‹_› hsize hby hzs h0 hcut hbase ⟨b, (i + 1) * k, none⟩ (l.length - (i + 1)) c' (by omega) ((l.drop (i + 1)).flatMap enc) (by rw [flat_len enc hk, List.length_drop]) hnews (fun u hu => by
      obtain ⟨x, hm, hx⟩ := List.mem_flatMap.1 hu
      exact h1 x (List.mem_of_mem_drop hm) u hx) (by omega) hbytes
    refine ⟨v', w', hrun, ?_, hg, fun g' hg' => ?_⟩
    · rw [erase_len hil, erase_cat, List.flatMap_append]; exact hr
    · rw [hg1] at hg'
      obtain rfl := Option.some.inj hg'
      rcases hg2 with hg2 | hg2
      · exact .inl (Option.some.inj hg2).symm
      · exact .inr hg2
  · have hm0 : l.length - (i + 1) = 0 := by omega
    rw [hm0]
    refine ⟨_, w, append_none ht hi _ ad (by omega) w, ?_, World.grownBy.refl w _, fun g hg => .inl (Option.some.inj hg).symm⟩
    rw [erase_len hil, hm0, erase_cat, List.drop_of_length_le (by omega), List.append_nil]
    exact hcut
theorem step_erase {α : Type} (enc : α → List Value) {ops : Array Oper} {o : Oper} {a : Act} {K : Act → World → Prop} {Q : Exit → Act → World → Prop} {E : Prop} {t e : TypeId} {i0 : TypeInfo} {z : Value} {k bytes : Nat} (hk : ∀ x, (enc x).length = k) (hgd : o.guard = none) (s x : Operand)
    (ho : o.op = .call { callee := .builtin .append, args := #[s, x], argTypes := #[t, t] }) (ht : P.underlying t = some (.slice e)) (hi : P.info? e = some i0) (hz : i0.zero = some z) (hsize : i0.size = k) (hby : i0.bytes = bytes) (hzs : z.cells.size = k) (h0 : 0 < k)
    {base b c i n : Nat} {l : List α} (w : World) (h : RowO base e k (.slice (some ⟨b, 0, none⟩) n c) n (l.flatMap enc) w) (hn : l.length = n) (hil : i < n) (hbase : base ≤ w.heap.size) (h1 : ∀ x ∈ l, ∀ u ∈ enc x, u.oneCell' = true) (hz : n ≤ 1000000) (hbytes : bytes ≤ 100)
    (ad : Option Addr) (m c' : Nat) (hs : a.eval s = .slice (some ⟨b, 0, none⟩) i c) (hx : a.eval x = .slice ad m c') (hm : m = n - (i + 1)) (had : i + 1 < n → ad = some ⟨b, (i + 1) * k, none⟩)
    (hk' : ∀ v' w', Erased enc base e k w b l i v' w' → K (a.put o.dst v') w') : if Region.wanted o (yielded ops a.tmps) = true then Oper.wp P o a w K Q else E := by
  have hw : Region.wanted o (yielded ops a.tmps) = true := by simp [Region.wanted, hgd]
  rw [if_pos hw]
  obtain ⟨v', w', hrun, h2⟩ := run_erase (P := P) (ty := o.type) enc hk ht hi ‹_› hsize hby hzs h0 h hn hil hbase h1 ‹_› hbytes ad m c' hm had
  unfold Oper.wp execOp
  simp only [ho, resolve, invoke, builtin, Sem.run_bind, Sem.run_pure, Result.andThen_ok, List.map_toArray, List.map_cons, List.map_nil, hs, hx, hrun]
  exact hk' _ _ h2
end
theorem nv_sl {base : Nat} {bv nv : Value} {X : List Book} {Y : List NV} {w : World} (h : OwnS base bv nv X Y w) : ∀ x ∈ Y, ∃ ta tn tc sa sn sc, x.tv = .slice ta tn tc ∧ x.sv = .slice sa sn sc := fun x hx => by
  obtain ⟨a, c, e, -⟩ := (h.tags x hx).slice
  obtain ⟨a', c', e', -⟩ := (h.sheets x hx).slice
  exact ⟨a, _, c, a', _, c', e, e'⟩
theorem nv_one {base : Nat} {bv nv : Value} {X : List Book} {Y : List NV} {w : World} (h : OwnS base bv nv X Y w) : ∀ y ∈ Y, ∀ u ∈ noteC y, u.oneCell' = true := fun y hy u hu => by
  obtain ⟨a, c, e, -⟩ := (h.tags y hy).slice
  obtain ⟨a', c', e', -⟩ := (h.sheets y hy).slice
  simp only [noteC, List.mem_cons, List.not_mem_nil, or_false] at hu
  rcases hu with rfl | rfl | rfl | rfl | rfl
  · rfl
  · rfl
  · rfl
  · rw [e]; rfl
  · rw [e']; rfl
theorem erase_filter {α : Type} {p : α → Bool} {l : List α} {i : Nat} {x : α} (hx : l[i]? = some x) (hp : p x = true) (ho : ∀ (j : Nat) y, j ≠ i → l[j]? = some y → p y = false) : l.eraseIdx i = l.filter (fun x => !p x) := by
  have hl := (List.getElem?_eq_some_iff.1 hx).1
  have hsplit : l = l.take i ++ x :: l.drop (i + 1) := by
    have h1 := List.take_append_drop i l
    have h2 : l.drop i = x :: l.drop (i + 1) := by rw [List.drop_eq_getElem_cons hl]; congr 1; exact (List.getElem?_eq_some_iff.1 hx).2
    rw [h2] at h1; exact h1.symm
  rw [erase_cat]
  conv => rhs; rw [hsplit]
  rw [List.filter_append, List.filter_cons, hp]
  have e1 : (l.take i).filter (fun x => !p x) = l.take i := List.filter_eq_self.2 fun y hy => by
    obtain ⟨j, hj⟩ := List.getElem?_of_mem hy
    rw [List.getElem?_take] at hj
    split at hj
    · rw [ho j y (by omega) hj]; rfl
    · cases hj
  have e2 : (l.drop (i + 1)).filter (fun x => !p x) = l.drop (i + 1) := List.filter_eq_self.2 fun y hy => by
    obtain ⟨j, hj⟩ := List.getElem?_of_mem hy
    rw [List.getElem?_drop] at hj
    rw [ho _ y (by omega) hj]; rfl
  rw [e1, e2]; simp
theorem erase_books {s : Shelf} (hp : MayP s) {i : Nat} {x : Book} (hx : s.books[i]? = some x) : s.books.eraseIdx i = s.books.filter fun b => !(b.id == x.id) :=
  erase_filter (p := fun b : Book => b.id == x.id) hx (by simp) fun j y hj hy => by
    rcases Nat.lt_or_gt_of_ne hj with h | h
    · have := pair_get hp.binc hy hx h; simp; omega
    · have := pair_get hp.binc hx hy h; simp; omega
theorem erase_notes {s : Shelf} (hp : MayP s) {i : Nat} {x : Note} (hx : s.notes[i]? = some x) : s.notes.eraseIdx i = s.notes.filter fun b => !(b.id == x.id) :=
  erase_filter (p := fun b : Note => b.id == x.id) hx (by simp) fun j y hj hy => by
    rcases Nat.lt_or_gt_of_ne hj with h | h
    · have := pair_get hp.ninc hy hx h; simp; omega
    · have := pair_get hp.ninc hx hy h; simp; omega
theorem erase_tags {l : List ByteArray} (h : l.Pairwise fun a b => ltS a b = true) {i : Nat} {t : ByteArray} (hx : l[i]? = some t) : l.eraseIdx i = l.filter fun x => !(x.toList == t.toList) :=
  erase_filter (p := fun x : ByteArray => x.toList == t.toList) hx (by simp) fun j y hj hy => toList_ne.2 fun e => by
    subst e
    rcases Nat.lt_or_gt_of_ne hj with h2 | h2
    · have := pair_get h hy hx h2; rw [ltS_irrefl] at this; cases this
    · have := pair_get h hx hy h2; rw [ltS_irrefl] at this; cases this
end Go.Proofs.YtnajccljdjllgaaDoor
set_option linter.unusedVariables false
set_option linter.unusedSimpArgs false
namespace Go.Proofs.YtnajccljdjllgaaDoor
open Go.RowKit Go.Lib
set_option maxRecDepth 100000 in
set_option maxHeartbeats 4000000 in
theorem refMake_any (s : Shelf) (bv nv : Value) (t : ByteArray) (w : World) (h : ShelfR w s bv nv) (hz : TameS s) (ht : t.size ≤ 1000000000) (hT : Tabs w) :
    Calls Tryd.prog 26 #[shelfV s bv nv, .string t] w (RetM (makeR s t) w) := by
  have cM := fun W (g : Grow w W) => refMay_any s bv nv W (h.grow g) hz
  obtain ⟨ib, hib, hbz0, hbz1, hbz2⟩ := info_parts info_book
  have cO := fun W (g : Grow w W) => copy_any s bv nv W (h.grow g) hz.1
  have cN := fun W (g : Grow w W) => refBookName_any s bv nv 0 t W (h.grow g) (by have := hz.1.1; omega) ht
  have hbl := hz.1.1
  have hnl := hz.1.2.1
  obtain ⟨a1, c1, rfl⟩ := h.1.mk
  obtain ⟨a2, c2, rfl⟩ := h.2.mk
  have HXX := Lib.hid (two_boxes2 w (shB s (.slice a1 s.books.length c1) (.slice a2 s.notes.length c2)) (shB ⟨0, 0, 0, [], []⟩ (.slice none 0 0) (.slice none 0 0)))
  clear h hz hT
  unfold shelfV at *
  go_enter Tryd.func26, Tryd.ntmps26
  go_upto_region 1 with (fail)
  generalize hV : (w.alloc (.cells #[.int .i64 s.nb, .int .i64 s.nn, .int .i64 s.ns, .slice a1 s.books.length c1, .slice a2 s.notes.length c2] 28)).alloc (.cells #[.int .i64 0, .int .i64 0, .int .i64 0, .slice none 0 0, .slice none 0 0] 28) = V
  have gV : Grow w V := by rw [← hV]; exact ((Grow.refl w).alloc _).alloc _
  have HBX : Hid (V.heap[w.heap.size]? = some (shB s (.slice a1 s.books.length c1) (.slice a2 s.notes.length c2))) := by rw [← hV]; exact Lib.hid HXX.out.1
  have HRX : Hid (V.heap[w.heap.size + 1]? = some (shB ⟨0, 0, 0, [], []⟩ (.slice none 0 0) (.slice none 0 0))) := by rw [← hV]; exact Lib.hid HXX.out.2
  obtain ⟨⟨p0, p1, p2, p3, p4⟩, hpz⟩ := n5 HBX.out
  clear hV
  have cM1 := cM V gV
  cases hm : mayS s with
  | false =>
    have HM := Lib.hid hm
    rw [hm] at cM1
    clear hm cO
    go_wp2_with fail
    refine cM1.mono ?_
    rintro e w1 ⟨rfl, g1⟩
    clear cM1 p0 p1 p2 p3 p4
    have HE := Lib.hid (show makeR s t = bad 2 from res_bad (by unfold makeE; rw [if_pos HM.out]) (by decide) _ _)
    obtain ⟨⟨e0, e1, e2, e3, e4⟩, hez⟩ := n5 (g1.blk HRX.out)
    have f0 := frozen_of_row _ (w.heap.size + 1) 0 _ _ (g1.blk HRX.out)
    have f1 := frozen_of_row _ (w.heap.size + 1) 1 _ _ (g1.blk HRX.out)
    have f2 := frozen_of_row _ (w.heap.size + 1) 2 _ _ (g1.blk HRX.out)
    have f3 := frozen_of_row _ (w.heap.size + 1) 3 _ _ (g1.blk HRX.out)
    have f4 := frozen_of_row _ (w.heap.size + 1) 4 _ _ (g1.blk HRX.out)
    go_wp2_with fail
    refine bodyPost_ret (v := .tuple #[.agg #[.int .i64 0, .int .i64 0, .int .i64 0, .slice none 0 0, .slice none 0 0], .int .i64 0, .int .i64 2]) ?_ rfl ?_
    · rw [results_cell_tmp2 (P := Tryd.prog) rfl]
      go_simp
    · refine ret_badM HE.out ?_
      repeat' (first | with_reducible exact gV.trans g1 | with_reducible refine Grow.set ?_ (by first | (simp; done) | (simp; omega)) _)
  | true =>
    have HM := Lib.hid hm
    rw [hm] at cM1
    clear hm
    go_wp2_with fail
    refine cM1.mono ?_
    rintro e w1 ⟨rfl, g1⟩
    clear cM1 p0 p1 p2 p3 p4
    obtain ⟨⟨p0, p1, p2, p3, p4⟩, hpz⟩ := n5 (g1.blk HBX.out)
    have cN1 := cN _ (gV.trans g1)
    rcases bookNE_cases s 0 t with ⟨hb, h1⟩ | ⟨hb, h1, h2⟩ | ⟨hb, h1, h2⟩
    · have HN := Lib.hid h1
      rw [hb] at cN1
      clear hb h1 cO
      go_wp2_with fail
      refine cN1.mono ?_
      rintro e wn ⟨rfl, g2⟩
      have gh := g1.trans g2
      clear cN1 g2 p0 p1 p2 p3 p4 hpz
      have HE := Lib.hid (show makeR s t = bad 6 from res_bad (by unfold makeE; rw [if_neg (by rw [HM.out]; simp), if_pos HN.out]) (by decide) _ _)
      obtain ⟨⟨e0, e1, e2, e3, e4⟩, hez⟩ := n5 (gh.blk HRX.out)
      have f0 := frozen_of_row _ (w.heap.size + 1) 0 _ _ (gh.blk HRX.out)
      have f1 := frozen_of_row _ (w.heap.size + 1) 1 _ _ (gh.blk HRX.out)
      have f2 := frozen_of_row _ (w.heap.size + 1) 2 _ _ (gh.blk HRX.out)
      have f3 := frozen_of_row _ (w.heap.size + 1) 3 _ _ (gh.blk HRX.out)
      have f4 := frozen_of_row _ (w.heap.size + 1) 4 _ _ (gh.blk HRX.out)
      go_wp2_with fail
      refine bodyPost_ret (v := .tuple #[.agg #[.int .i64 0, .int .i64 0, .int .i64 0, .slice none 0 0, .slice none 0 0], .int .i64 0, .int .i64 6]) ?_ rfl ?_
      · rw [results_cell_tmp2 (P := Tryd.prog) rfl]
        go_simp
      · refine ret_badM HE.out ?_
        repeat' (first | with_reducible exact gV.trans gh | with_reducible refine Grow.set ?_ (by first | (simp; done) | (simp; omega)) _)
    · have HN := Lib.hid h1
      have HD := Lib.hid h2
      rw [hb] at cN1
      clear hb h1 h2 cO
      go_wp2_with fail
      refine cN1.mono ?_
      rintro e wn ⟨rfl, g2⟩
      have gh := g1.trans g2
      clear cN1 g2 p0 p1 p2 p3 p4 hpz
      have HE := Lib.hid (show makeR s t = bad 7 from res_bad (by unfold makeE; rw [if_neg (by rw [HM.out]; simp), if_neg (by rw [HN.out]; simp), if_pos (by have h9 := (any_new (mayS_iff.1 HM.out) t).symm.trans HD.out; simpa using h9)]) (by decide) _ _)
      obtain ⟨⟨e0, e1, e2, e3, e4⟩, hez⟩ := n5 (gh.blk HRX.out)
      have f0 := frozen_of_row _ (w.heap.size + 1) 0 _ _ (gh.blk HRX.out)
      have f1 := frozen_of_row _ (w.heap.size + 1) 1 _ _ (gh.blk HRX.out)
      have f2 := frozen_of_row _ (w.heap.size + 1) 2 _ _ (gh.blk HRX.out)
      have f3 := frozen_of_row _ (w.heap.size + 1) 3 _ _ (gh.blk HRX.out)
      have f4 := frozen_of_row _ (w.heap.size + 1) 4 _ _ (gh.blk HRX.out)
      go_wp2_with fail
      refine bodyPost_ret (v := .tuple #[.agg #[.int .i64 0, .int .i64 0, .int .i64 0, .slice none 0 0, .slice none 0 0], .int .i64 0, .int .i64 7]) ?_ rfl ?_
      · rw [results_cell_tmp2 (P := Tryd.prog) rfl]
        go_simp
      · refine ret_badM HE.out ?_
        repeat' (first | with_reducible exact gV.trans gh | with_reducible refine Grow.set ?_ (by first | (simp; done) | (simp; omega)) _)
    · have HN := Lib.hid h1
      have HD := Lib.hid h2
      rw [hb] at cN1
      clear hb h1 h2
      go_wp2_with fail
      refine cN1.mono ?_
      rintro e wn ⟨rfl, g2⟩
      have gh := g1.trans g2
      clear cN1 g2 p0 p1 p2 p3 p4 hpz
      obtain ⟨⟨p0, p1, p2, p3, p4⟩, hpz⟩ := n5 (gh.blk HBX.out)
      have HI := Lib.hid (show (0 ≤ nameIx s.books t) = False from eq_false (by have h9 := (any_new (mayS_iff.1 HM.out) t).symm.trans HD.out; simpa using h9))
      have hnb := (mayS_iff.1 HM.out).nb
      by_cases hl : 6 ≤ (s.books.length : Int)
      · have HL := Lib.hid hl
        clear cO
        have HE := Lib.hid (show makeR s t = bad 3 from res_bad (by unfold makeE; rw [if_neg (by rw [HM.out]; simp), if_neg (by rw [HN.out]; simp), if_neg (by rw [HI.out]; simp), if_pos (.inl HL.out)]) (by decide) _ _)
        obtain ⟨⟨e0, e1, e2, e3, e4⟩, hez⟩ := n5 (gh.blk HRX.out)
        have f0 := frozen_of_row _ (w.heap.size + 1) 0 _ _ (gh.blk HRX.out)
        have f1 := frozen_of_row _ (w.heap.size + 1) 1 _ _ (gh.blk HRX.out)
        have f2 := frozen_of_row _ (w.heap.size + 1) 2 _ _ (gh.blk HRX.out)
        have f3 := frozen_of_row _ (w.heap.size + 1) 3 _ _ (gh.blk HRX.out)
        have f4 := frozen_of_row _ (w.heap.size + 1) 4 _ _ (gh.blk HRX.out)
        go_wp2_with fail
        refine bodyPost_ret (v := .tuple #[.agg #[.int .i64 0, .int .i64 0, .int .i64 0, .slice none 0 0, .slice none 0 0], .int .i64 0, .int .i64 3]) ?_ rfl ?_
        · rw [results_cell_tmp2 (P := Tryd.prog) rfl]
          go_simp
        · refine ret_badM HE.out ?_
          repeat' (first | with_reducible exact gV.trans gh | with_reducible refine Grow.set ?_ (by first | (simp; done) | (simp; omega)) _)
      · cases hk : (s.nb == 65536) with
        | true =>
          have HL := Lib.hid (show 65536 ≤ s.nb by rw [beq_iff_eq] at hk; omega)
          clear cO
          have HE := Lib.hid (show makeR s t = bad 3 from res_bad (by unfold makeE; rw [if_neg (by rw [HM.out]; simp), if_neg (by rw [HN.out]; simp), if_neg (by rw [HI.out]; simp), if_pos (.inr HL.out)]) (by decide) _ _)
          obtain ⟨⟨e0, e1, e2, e3, e4⟩, hez⟩ := n5 (gh.blk HRX.out)
          have f0 := frozen_of_row _ (w.heap.size + 1) 0 _ _ (gh.blk HRX.out)
          have f1 := frozen_of_row _ (w.heap.size + 1) 1 _ _ (gh.blk HRX.out)
          have f2 := frozen_of_row _ (w.heap.size + 1) 2 _ _ (gh.blk HRX.out)
          have f3 := frozen_of_row _ (w.heap.size + 1) 3 _ _ (gh.blk HRX.out)
          have f4 := frozen_of_row _ (w.heap.size + 1) 4 _ _ (gh.blk HRX.out)
          go_wp2_with fail
          refine bodyPost_ret (v := .tuple #[.agg #[.int .i64 0, .int .i64 0, .int .i64 0, .slice none 0 0, .slice none 0 0], .int .i64 0, .int .i64 3]) ?_ rfl ?_
          · rw [results_cell_tmp2 (P := Tryd.prog) rfl]
            go_simp
          · refine ret_badM HE.out ?_
            repeat' (first | with_reducible exact gV.trans gh | with_reducible refine Grow.set ?_ (by first | (simp; done) | (simp; omega)) _)
        | false =>
          have hk2 : s.nb < 65536 := by rw [beq_eq_false_iff_ne] at hk; omega
          have HE := Lib.hid (show makeR s t = ⟨{ s with nb := s.nb + 1, books := s.books ++ [⟨s.nb, t⟩] }, s.nb, 0⟩ from resOf_ok (makeE_zero.2 ⟨HM.out, HN.out, by have := HI.out; simp at this; omega, by omega, hk2⟩) _ _)
          have cO1 := cO _ (gV.trans gh)
          go_wp2_with fail
          refine cO1.mono ?_
          rintro e w3 ⟨bv', nv', Y, rfl, ho, hmap, g3⟩
          have hs : StB w w.heap.size (w.heap.size + 1) s.nb s.nn s.ns bv' nv' s.books Y (((((w3.setCell ⟨w.heap.size, 0, none⟩ (.int .i64 s.nb)).setCell ⟨w.heap.size, 1, none⟩ (.int .i64 s.nn)).setCell ⟨w.heap.size, 2, none⟩ (.int .i64 s.ns)).setCell ⟨w.heap.size, 3, none⟩ bv').setCell ⟨w.heap.size, 4, none⟩ nv') := StB.start (s := s) (D := w.heap.size + 1) gV HBX.out HRX.out gh g3 ho ⟨Nat.le_refl _, by omega, by omega⟩
          obtain ⟨ba, bc, ebv, -⟩ := ho.books.slice
          obtain ⟨na, nc, env, -⟩ := ho.notes.slice
          have hYl : Y.length = s.notes.length := by rw [← hmap, List.length_map]
          rw [hYl] at env
          have HMAP := Lib.hid hmap
          have HYL := Lib.hid hYl
          subst ebv env
          obtain ⟨⟨p0', p1', p2', p3', p4'⟩, hpz'⟩ := n5 ((gh.trans g3).blk HBX.out)
          have HF3 := Lib.hid (frozen_of_row w3 w.heap.size 0 _ _ ((gh.trans g3).blk HBX.out))
          have ff : ∀ j, w3.frozen? ⟨w.heap.size, j, none⟩ = false := fun j => frozen_of_row w3 w.heap.size j _ _ ((gh.trans g3).blk HBX.out)
          have ff0 := ff 0
          have ff1 := ff 1
          have ff2 := ff 2
          have ff3 := ff 3
          have ff4 := ff 4
          have HOW3 := Lib.hid ho
          have HG3 := Lib.hid (gh.trans g3)
          have hw3 : w.heap.size < w3.heap.size := hpz'
          clear cO1 cO ho hmap g3 hYl p0 p1 p2 p3 p4 ff
          unfold shelfV
          go_upto_region 9 with (fail)
          generalize ((((w3.setCell ⟨w.heap.size, 0, none⟩ (.int .i64 s.nb)).setCell ⟨w.heap.size, 1, none⟩ (.int .i64 s.nn)).setCell ⟨w.heap.size, 2, none⟩ (.int .i64 s.ns)).setCell ⟨w.heap.size, 3, none⟩ (.slice ba s.books.length bc)).setCell ⟨w.heap.size, 4, none⟩ (.slice na s.notes.length nc) = W at *
          have HS := Lib.hid hs
          obtain ⟨⟨p0, p1, p2, p3, p4⟩, hpz⟩ := hs.five
          have hb3 := hs.boxF 3
          have hb4 := hs.boxF 4
          clear hs p0' p1' p2' p3' p4' ff0 ff1 ff2 ff3 ff4 hpz'
          go_upto_region 11 with (at_builtin; refine app_R (by rfl) _ _ 25 (by rfl) 37 ib _ 2 24 Tryd.underlying25 hib hbz0 hbz1 hbz2 (by rfl) (by decide) (.slice ba s.books.length bc) s.books.length (s.books.flatMap bookC) (by rfl) _ HS.out.own.books HS.out.grow.size (bookC ⟨s.nb, t⟩) rfl ?_ (by rfl) ?_ (by decide) ?_; (intro u hu; simp at hu; rcases hu with rfl | rfl <;> rfl); omega; intro v' w4 ra; obtain ⟨va, vc, e3, -⟩ := ra.1.slice; subst e3; obtain ⟨k3, f3, z3, hs4⟩ := HS.out.book ra; have HS4 := Lib.hid hs4; clear hs4 ra)
          generalize w4.setCell ⟨w.heap.size, 3, none⟩ (.slice va (s.books.length + 1) vc) = W4 at *
          clear p0 p1 p2 p3 p4 hpz hb3 hb4 k3 f3 z3 HS
          obtain ⟨⟨p0, p1, p2, p3, p4⟩, hpz⟩ := HS4.out.five
          have hb0 := HS4.out.boxF 0
          have HS5 := Lib.hid (HS4.out.num0 (s.nb + 1))
          go_upto_region 12 with (fail)
          generalize W4.setCell ⟨w.heap.size, 0, none⟩ (.int .i64 (s.nb + 1)) = W5 at *
          clear p0 p1 p2 p3 p4 hpz hb0 HS4
          obtain ⟨⟨p0, p1, p2, p3, p4⟩, hpz⟩ := HS5.out.five
          obtain ⟨⟨e0, e1, e2, e3, e4⟩, hez⟩ := HS5.out.res5
          have f0 := HS5.out.resF 0
          have f1 := HS5.out.resF 1
          have f2 := HS5.out.resF 2
          have f3 := HS5.out.resF 3
          have f4 := HS5.out.resF 4
          have HOD := Lib.hid HS5.out.fin
          go_wp2_with fail
          refine bodyPost_ret (v := .tuple #[.agg #[.int .i64 (s.nb + 1), .int .i64 s.nn, .int .i64 s.ns, .slice va (s.books.length + 1) vc, .slice na s.notes.length nc], .int .i64 (s.nb), .int .i64 0]) ?_ rfl ?_
          · rw [results_cell_tmp2 (P := Tryd.prog) rfl]
            go_simp
          · refine ret_okM (D := w.heap.size + 1) (s := { s with nb := s.nb + 1, books := s.books ++ [⟨s.nb, t⟩] }) HE.out ?_ HMAP.out
            repeat' (first | with_reducible exact HOD.out | with_reducible refine OwnD2.drew ?_ | with_reducible refine OwnD2.set ?_ (by omega) _ _)
end Go.Proofs.YtnajccljdjllgaaDoor
set_option linter.unusedVariables false
set_option linter.unusedSimpArgs false
namespace Go.Proofs.YtnajccljdjllgaaDoor
open Go.RowKit Go.Lib
set_option maxRecDepth 100000 in
set_option maxHeartbeats 4000000 in
theorem refRename_any (s : Shelf) (bv nv : Value) (id : Int) (t : ByteArray) (w : World) (h : ShelfR w s bv nv) (hz : TameS s) (ht : t.size ≤ 1000000000) (hT : Tabs w) :
    Calls Tryd.prog 28 #[shelfV s bv nv, .int .i64 id, .string t] w (RetC (renameR s id t) w) := by
  have cM := fun W (g : Grow w W) => refMay_any s bv nv W (h.grow g) hz
  have cO := fun W (g : Grow w W) => copy_any s bv nv W (h.grow g) hz.1
  have cB : ∀ W, Grow w W → Calls Tryd.prog 68 #[shelfV s bv nv, .int .i64 id] W fun e w' => e = .returned (.int .i64 (bookIx s id)) ∧ Grow W w' := fun W g => refBook_any s bv nv id W (h.grow g) (by have := hz.1.1; omega)
  have cN := fun W (g : Grow w W) => refBookName_any s bv nv id t W (h.grow g) (by have := hz.1.1; omega) ht
  have hbl := hz.1.1
  have hnl := hz.1.2.1
  have hbd := idx_bd (fun x : Book => x.id == id) s.books
  have hnd := idx_bd (fun x : Note => x.id == id) s.notes
  rw [show idx (fun x : Book => x.id == id) s.books = bookIx s id from rfl] at hbd
  rw [show idx (fun x : Note => x.id == id) s.notes = noteIx s id from rfl] at hnd
  obtain ⟨a1, c1, rfl⟩ := h.1.mk
  obtain ⟨a2, c2, rfl⟩ := h.2.mk
  have HXX := Lib.hid (two_boxes2 w (shB s (.slice a1 s.books.length c1) (.slice a2 s.notes.length c2)) (shB ⟨0, 0, 0, [], []⟩ (.slice none 0 0) (.slice none 0 0)))
  clear h hz hT
  unfold shelfV at *
  go_enter Tryd.func28, Tryd.ntmps28
  go_upto_region 1 with (fail)
  generalize hV : (w.alloc (.cells #[.int .i64 s.nb, .int .i64 s.nn, .int .i64 s.ns, .slice a1 s.books.length c1, .slice a2 s.notes.length c2] 28)).alloc (.cells #[.int .i64 0, .int .i64 0, .int .i64 0, .slice none 0 0, .slice none 0 0] 28) = V
  have gV : Grow w V := by rw [← hV]; exact ((Grow.refl w).alloc _).alloc _
  have HBX : Hid (V.heap[w.heap.size]? = some (shB s (.slice a1 s.books.length c1) (.slice a2 s.notes.length c2))) := by rw [← hV]; exact Lib.hid HXX.out.1
  have HRX : Hid (V.heap[w.heap.size + 1]? = some (shB ⟨0, 0, 0, [], []⟩ (.slice none 0 0) (.slice none 0 0))) := by rw [← hV]; exact Lib.hid HXX.out.2
  obtain ⟨⟨p0, p1, p2, p3, p4⟩, hpz⟩ := n5 HBX.out
  clear hV
  have cM1 := cM V gV
  cases hm : mayS s with
  | false =>
    have HM := Lib.hid hm
    rw [hm] at cM1
    clear hm cO
    go_wp2_with fail
    refine cM1.mono ?_
    rintro e w1 ⟨rfl, g1⟩
    clear cM1 p0 p1 p2 p3 p4
    have HE := Lib.hid (show renameR s id t = bad 2 from res_bad (by unfold renameE; rw [if_pos HM.out]) (by decide) _ _)
    obtain ⟨⟨e0, e1, e2, e3, e4⟩, hez⟩ := n5 (g1.blk HRX.out)
    have f0 := frozen_of_row _ (w.heap.size + 1) 0 _ _ (g1.blk HRX.out)
    have f1 := frozen_of_row _ (w.heap.size + 1) 1 _ _ (g1.blk HRX.out)
    have f2 := frozen_of_row _ (w.heap.size + 1) 2 _ _ (g1.blk HRX.out)
    have f3 := frozen_of_row _ (w.heap.size + 1) 3 _ _ (g1.blk HRX.out)
    have f4 := frozen_of_row _ (w.heap.size + 1) 4 _ _ (g1.blk HRX.out)
    go_wp2_with fail
    refine bodyPost_ret (v := .tuple #[.agg #[.int .i64 0, .int .i64 0, .int .i64 0, .slice none 0 0, .slice none 0 0], .int .i64 2]) ?_ rfl ?_
    · rw [results_cell_tmp rfl]
      go_simp
    · refine ret_badC HE.out ?_
      repeat' (first | with_reducible exact gV.trans g1 | with_reducible refine Grow.set ?_ (by first | (simp; done) | (simp; omega)) _)
  | true =>
    have HM := Lib.hid hm
    rw [hm] at cM1
    clear hm
    go_wp2_with fail
    refine cM1.mono ?_
    rintro e w1 ⟨rfl, g1⟩
    clear cM1 p0 p1 p2 p3 p4
    obtain ⟨⟨p0, p1, p2, p3, p4⟩, hpz⟩ := n5 (g1.blk HBX.out)
    have cB1 := cB _ (gV.trans g1)
    by_cases hi : bookIx s id < 0
    · have HI := Lib.hid hi
      clear cO cN
      go_wp2_with fail
      refine cB1.mono ?_
      rintro e w2 ⟨rfl, g2⟩
      have gg := g1.trans g2
      clear cB1 g2 p0 p1 p2 p3 p4 hpz
      have HE := Lib.hid (show renameR s id t = bad 4 from res_bad (by unfold renameE; rw [if_neg (by rw [HM.out]; simp), if_pos HI.out]) (by decide) _ _)
      obtain ⟨⟨e0, e1, e2, e3, e4⟩, hez⟩ := n5 (gg.blk HRX.out)
      have f0 := frozen_of_row _ (w.heap.size + 1) 0 _ _ (gg.blk HRX.out)
      have f1 := frozen_of_row _ (w.heap.size + 1) 1 _ _ (gg.blk HRX.out)
      have f2 := frozen_of_row _ (w.heap.size + 1) 2 _ _ (gg.blk HRX.out)
      have f3 := frozen_of_row _ (w.heap.size + 1) 3 _ _ (gg.blk HRX.out)
      have f4 := frozen_of_row _ (w.heap.size + 1) 4 _ _ (gg.blk HRX.out)
      go_wp2_with fail
      refine bodyPost_ret (v := .tuple #[.agg #[.int .i64 0, .int .i64 0, .int .i64 0, .slice none 0 0, .slice none 0 0], .int .i64 4]) ?_ rfl ?_
      · rw [results_cell_tmp rfl]
        go_simp
      · refine ret_badC HE.out ?_
        repeat' (first | with_reducible exact gV.trans gg | with_reducible refine Grow.set ?_ (by first | (simp; done) | (simp; omega)) _)
    · have HI := Lib.hid hi
      go_wp2_with fail
      refine cB1.mono ?_
      rintro e w2 ⟨rfl, g2⟩
      have gg := g1.trans g2
      clear cB1 g2 p0 p1 p2 p3 p4 hpz
      obtain ⟨⟨p0, p1, p2, p3, p4⟩, hpz⟩ := n5 (gg.blk HBX.out)
      have cN1 := cN _ (gV.trans gg)
      rcases bookNE_cases s id t with ⟨hb, h1⟩ | ⟨hb, h1, h2⟩ | ⟨hb, h1, h2⟩
      · have HN := Lib.hid h1
        rw [hb] at cN1
        clear hb h1 cO
        go_wp2_with fail
        refine cN1.mono ?_
        rintro e wn ⟨rfl, g2⟩
        have gh := gg.trans g2
        clear cN1 g2 p0 p1 p2 p3 p4 hpz
        have HE := Lib.hid (show renameR s id t = bad 6 from res_bad (by unfold renameE; rw [if_neg (by rw [HM.out]; simp), if_neg (by have := HI.out; omega), if_pos HN.out]) (by decide) _ _)
        obtain ⟨⟨e0, e1, e2, e3, e4⟩, hez⟩ := n5 (gh.blk HRX.out)
        have f0 := frozen_of_row _ (w.heap.size + 1) 0 _ _ (gh.blk HRX.out)
        have f1 := frozen_of_row _ (w.heap.size + 1) 1 _ _ (gh.blk HRX.out)
        have f2 := frozen_of_row _ (w.heap.size + 1) 2 _ _ (gh.blk HRX.out)
        have f3 := frozen_of_row _ (w.heap.size + 1) 3 _ _ (gh.blk HRX.out)
        have f4 := frozen_of_row _ (w.heap.size + 1) 4 _ _ (gh.blk HRX.out)
        go_wp2_with fail
        refine bodyPost_ret (v := .tuple #[.agg #[.int .i64 0, .int .i64 0, .int .i64 0, .slice none 0 0, .slice none 0 0], .int .i64 6]) ?_ rfl ?_
        · rw [results_cell_tmp rfl]
          go_simp
        · refine ret_badC HE.out ?_
          repeat' (first | with_reducible exact gV.trans gh | with_reducible refine Grow.set ?_ (by first | (simp; done) | (simp; omega)) _)
      · have HN := Lib.hid h1
        have HD := Lib.hid h2
        rw [hb] at cN1
        clear hb h1 h2 cO
        go_wp2_with fail
        refine cN1.mono ?_
        rintro e wn ⟨rfl, g2⟩
        have gh := gg.trans g2
        clear cN1 g2 p0 p1 p2 p3 p4 hpz
        have HE := Lib.hid (show renameR s id t = bad 7 from res_bad (by unfold renameE; rw [if_neg (by rw [HM.out]; simp), if_neg (by have := HI.out; omega), if_neg (by rw [HN.out]; simp), if_pos (by have h9 := (any_ren (mayS_iff.1 HM.out) t (by have := HI.out; omega)).symm.trans HD.out; simpa using h9)]) (by decide) _ _)
        obtain ⟨⟨e0, e1, e2, e3, e4⟩, hez⟩ := n5 (gh.blk HRX.out)
        have f0 := frozen_of_row _ (w.heap.size + 1) 0 _ _ (gh.blk HRX.out)
        have f1 := frozen_of_row _ (w.heap.size + 1) 1 _ _ (gh.blk HRX.out)
        have f2 := frozen_of_row _ (w.heap.size + 1) 2 _ _ (gh.blk HRX.out)
        have f3 := frozen_of_row _ (w.heap.size + 1) 3 _ _ (gh.blk HRX.out)
        have f4 := frozen_of_row _ (w.heap.size + 1) 4 _ _ (gh.blk HRX.out)
        go_wp2_with fail
        refine bodyPost_ret (v := .tuple #[.agg #[.int .i64 0, .int .i64 0, .int .i64 0, .slice none 0 0, .slice none 0 0], .int .i64 7]) ?_ rfl ?_
        · rw [results_cell_tmp rfl]
          go_simp
        · refine ret_badC HE.out ?_
          repeat' (first | with_reducible exact gV.trans gh | with_reducible refine Grow.set ?_ (by first | (simp; done) | (simp; omega)) _)
      · have HN := Lib.hid h1
        have HD := Lib.hid h2
        rw [hb] at cN1
        clear hb h1 h2
        go_wp2_with fail
        refine cN1.mono ?_
        rintro e wn ⟨rfl, g2⟩
        have gh := gg.trans g2
        clear cN1 g2 p0 p1 p2 p3 p4 hpz
        obtain ⟨⟨p0, p1, p2, p3, p4⟩, hpz⟩ := n5 (gh.blk HBX.out)
        have hdd : ¬ (0 ≤ nameIx s.books t ∧ nameIx s.books t ≠ bookIx s id) := by have h9 := (any_ren (mayS_iff.1 HM.out) t (by have := HI.out; omega)).symm.trans HD.out; simpa using h9
        have hez : renameE s id t = 0 := renameE_zero.2 ⟨HM.out, by omega, HN.out, by omega⟩
        have HM2 := Lib.hid (mayS_iff.1 HM.out)
        obtain ⟨i, hii⟩ : ∃ i : Nat, bookIx s id = i := ⟨(bookIx s id).toNat, by omega⟩
        obtain ⟨x, hx, hxp⟩ := idx_get (p := fun x : Book => x.id == id) (l := s.books) (i := bookIx s id) rfl (by omega)
        rw [hii, Int.toNat_natCast] at hx
        have hxid : x.id = id := by simpa using hxp
        have HE := Lib.hid (show renameR s id t = ⟨{ s with books := s.books.set i { x with name := t } }, 0, 0⟩ by
          rw [renameR, resOf_ok hez, ← hxid, ← set_updB HM2.out.binc hx t])
        have HX := Lib.hid hx
        have hil : (i : Int) < s.books.length := by have := (List.getElem?_eq_some_iff.1 hx).1; omega
        rw [hii] at hi hbd
        rw [hii]
        clear hez hx hxp hxid hii hdd
        have cO1 := cO _ (gV.trans gh)
        go_wp2_with fail
        refine cO1.mono ?_
        rintro e w3 ⟨bv', nv', Y, rfl, ho, hmap, g3⟩
        have hs : StB w w.heap.size (w.heap.size + 1) s.nb s.nn s.ns bv' nv' s.books Y (((((w3.setCell ⟨w.heap.size, 0, none⟩ (.int .i64 s.nb)).setCell ⟨w.heap.size, 1, none⟩ (.int .i64 s.nn)).setCell ⟨w.heap.size, 2, none⟩ (.int .i64 s.ns)).setCell ⟨w.heap.size, 3, none⟩ bv').setCell ⟨w.heap.size, 4, none⟩ nv') := StB.start (s := s) (D := w.heap.size + 1) gV HBX.out HRX.out gh g3 ho ⟨Nat.le_refl _, by omega, by omega⟩
        obtain ⟨ba, bc, ebv, -⟩ := ho.books.slice
        obtain ⟨na, nc, env, -⟩ := ho.notes.slice
        have hYl : Y.length = s.notes.length := by rw [← hmap, List.length_map]
        rw [hYl] at env
        have HMAP := Lib.hid hmap
        have HYL := Lib.hid hYl
        subst ebv env
        obtain ⟨⟨p0', p1', p2', p3', p4'⟩, hpz'⟩ := n5 ((gh.trans g3).blk HBX.out)
        have HF3 := Lib.hid (frozen_of_row w3 w.heap.size 0 _ _ ((gh.trans g3).blk HBX.out))
        have ff : ∀ j, w3.frozen? ⟨w.heap.size, j, none⟩ = false := fun j => frozen_of_row w3 w.heap.size j _ _ ((gh.trans g3).blk HBX.out)
        have ff0 := ff 0
        have ff1 := ff 1
        have ff2 := ff 2
        have ff3 := ff 3
        have ff4 := ff 4
        have HOW3 := Lib.hid ho
        have HG3 := Lib.hid (gh.trans g3)
        have hw3 : w.heap.size < w3.heap.size := hpz'
        clear cO1 cO ho hmap g3 hYl p0 p1 p2 p3 p4 ff
        unfold shelfV
        go_upto_region 10 with (fail)
        generalize ((((w3.setCell ⟨w.heap.size, 0, none⟩ (.int .i64 s.nb)).setCell ⟨w.heap.size, 1, none⟩ (.int .i64 s.nn)).setCell ⟨w.heap.size, 2, none⟩ (.int .i64 s.ns)).setCell ⟨w.heap.size, 3, none⟩ (.slice ba s.books.length bc)).setCell ⟨w.heap.size, 4, none⟩ (.slice na s.notes.length nc) = W at *
        have HS := Lib.hid hs
        obtain ⟨⟨p0, p1, p2, p3, p4⟩, hpz⟩ := hs.five
        have hb3 := hs.boxF 3
        have hb4 := hs.boxF 4
        clear hs p0' p1' p2' p3' p4' ff0 ff1 ff2 ff3 ff4 hpz'
        obtain ⟨b, cc, ebb, hbz, -, -, hcl⟩ := HS.out.own.book HX.out
        injection ebb with eb1 eb2 eb3
        subst eb1 eb3
        have q1 := (hcl 1 _ rfl).1
        have qf := (hcl 1 _ rfl).2
        have HS2 := Lib.hid (HS.out.setB HX.out t rfl)
        clear hcl
        go_upto_region 11 with (fail)
        generalize W.setCell ⟨b, i * 2 + 1, none⟩ (.string t) = W2 at *
        clear p0 p1 p2 p3 p4 hpz hb3 hb4 HS q1 qf
        obtain ⟨⟨p0, p1, p2, p3, p4⟩, hpz⟩ := HS2.out.five
        obtain ⟨⟨e0, e1, e2, e3, e4⟩, hez⟩ := HS2.out.res5
        have f0 := HS2.out.resF 0
        have f1 := HS2.out.resF 1
        have f2 := HS2.out.resF 2
        have f3 := HS2.out.resF 3
        have f4 := HS2.out.resF 4
        have HOD := Lib.hid HS2.out.fin
        go_wp2_with fail
        refine bodyPost_ret (v := .tuple #[.agg #[.int .i64 s.nb, .int .i64 s.nn, .int .i64 s.ns, .slice (some ⟨b, 0, none⟩) s.books.length bc, .slice na s.notes.length nc], .int .i64 0]) ?_ rfl ?_
        · rw [results_cell_tmp rfl]
          go_simp
        · refine ret_okC (D := w.heap.size + 1) (s := { s with books := s.books.set i { x with name := t } }) HE.out ?_ HMAP.out
          repeat' (first | with_reducible exact HOD.out | with_reducible refine OwnD2.drew ?_ | with_reducible refine OwnD2.set ?_ (by omega) _ _)
end Go.Proofs.YtnajccljdjllgaaDoor
set_option linter.unusedVariables false
set_option linter.unusedSimpArgs false
namespace Go.Proofs.YtnajccljdjllgaaDoor
open Go.RowKit Go.Lib
set_option maxRecDepth 100000 in
set_option maxHeartbeats 4000000 in
theorem refDrop_any (s : Shelf) (bv nv : Value) (id : Int) (w : World) (h : ShelfR w s bv nv) (hz : TameS s) (hT : Tabs w) :
    Calls Tryd.prog 30 #[shelfV s bv nv, .int .i64 id] w (RetC (dropR s id) w) := by
  have cM := fun W (g : Grow w W) => refMay_any s bv nv W (h.grow g) hz
  obtain ⟨ib, hib, ibz0, ibz1, ibz2⟩ := info_parts info_book
  obtain ⟨inn, hinn, innz0, innz1, innz2⟩ := info_parts info_note
  have cO := fun W (g : Grow w W) => copy_any s bv nv W (h.grow g) hz.1
  have cB : ∀ W, Grow w W → Calls Tryd.prog 68 #[shelfV s bv nv, .int .i64 id] W fun e w' => e = .returned (.int .i64 (bookIx s id)) ∧ Grow W w' := fun W g => refBook_any s bv nv id W (h.grow g) (by have := hz.1.1; omega)
  have hbl := hz.1.1
  have hnl := hz.1.2.1
  have hbd := idx_bd (fun x : Book => x.id == id) s.books
  have hnd := idx_bd (fun x : Note => x.id == id) s.notes
  rw [show idx (fun x : Book => x.id == id) s.books = bookIx s id from rfl] at hbd
  rw [show idx (fun x : Note => x.id == id) s.notes = noteIx s id from rfl] at hnd
  obtain ⟨a1, c1, rfl⟩ := h.1.mk
  obtain ⟨a2, c2, rfl⟩ := h.2.mk
  have HXX := Lib.hid (two_boxes2 w (shB s (.slice a1 s.books.length c1) (.slice a2 s.notes.length c2)) (shB ⟨0, 0, 0, [], []⟩ (.slice none 0 0) (.slice none 0 0)))
  clear h hz hT
  unfold shelfV at *
  go_enter Tryd.func30, Tryd.ntmps30
  go_upto_region 1 with (fail)
  generalize hV : (w.alloc (.cells #[.int .i64 s.nb, .int .i64 s.nn, .int .i64 s.ns, .slice a1 s.books.length c1, .slice a2 s.notes.length c2] 28)).alloc (.cells #[.int .i64 0, .int .i64 0, .int .i64 0, .slice none 0 0, .slice none 0 0] 28) = V
  have gV : Grow w V := by rw [← hV]; exact ((Grow.refl w).alloc _).alloc _
  have HBX : Hid (V.heap[w.heap.size]? = some (shB s (.slice a1 s.books.length c1) (.slice a2 s.notes.length c2))) := by rw [← hV]; exact Lib.hid HXX.out.1
  have HRX : Hid (V.heap[w.heap.size + 1]? = some (shB ⟨0, 0, 0, [], []⟩ (.slice none 0 0) (.slice none 0 0))) := by rw [← hV]; exact Lib.hid HXX.out.2
  obtain ⟨⟨p0, p1, p2, p3, p4⟩, hpz⟩ := n5 HBX.out
  clear hV
  have cM1 := cM V gV
  cases hm : mayS s with
  | false =>
    have HM := Lib.hid hm
    rw [hm] at cM1
    clear hm cO
    go_wp2_with fail
    refine cM1.mono ?_
    rintro e w1 ⟨rfl, g1⟩
    clear cM1 p0 p1 p2 p3 p4
    have HE := Lib.hid (show dropR s id = bad 2 from res_bad (by unfold dropE; rw [if_pos HM.out]) (by decide) _ _)
    obtain ⟨⟨e0, e1, e2, e3, e4⟩, hez⟩ := n5 (g1.blk HRX.out)
    have f0 := frozen_of_row _ (w.heap.size + 1) 0 _ _ (g1.blk HRX.out)
    have f1 := frozen_of_row _ (w.heap.size + 1) 1 _ _ (g1.blk HRX.out)
    have f2 := frozen_of_row _ (w.heap.size + 1) 2 _ _ (g1.blk HRX.out)
    have f3 := frozen_of_row _ (w.heap.size + 1) 3 _ _ (g1.blk HRX.out)
    have f4 := frozen_of_row _ (w.heap.size + 1) 4 _ _ (g1.blk HRX.out)
    go_wp2_with fail
    refine bodyPost_ret (v := .tuple #[.agg #[.int .i64 0, .int .i64 0, .int .i64 0, .slice none 0 0, .slice none 0 0], .int .i64 2]) ?_ rfl ?_
    · rw [results_cell_tmp rfl]
      go_simp
    · refine ret_badC HE.out ?_
      repeat' (first | with_reducible exact gV.trans g1 | with_reducible refine Grow.set ?_ (by first | (simp; done) | (simp; omega)) _)
  | true =>
    have HM := Lib.hid hm
    rw [hm] at cM1
    clear hm
    go_wp2_with fail
    refine cM1.mono ?_
    rintro e w1 ⟨rfl, g1⟩
    clear cM1 p0 p1 p2 p3 p4
    obtain ⟨⟨p0, p1, p2, p3, p4⟩, hpz⟩ := n5 (g1.blk HBX.out)
    have cB1 := cB _ (gV.trans g1)
    by_cases hi : bookIx s id < 0
    · have HI := Lib.hid hi
      clear cO
      go_wp2_with fail
      refine cB1.mono ?_
      rintro e w2 ⟨rfl, g2⟩
      have gg := g1.trans g2
      clear cB1 g2 p0 p1 p2 p3 p4 hpz
      have HE := Lib.hid (show dropR s id = bad 4 from res_bad (by unfold dropE; rw [if_neg (by rw [HM.out]; simp), if_pos HI.out]) (by decide) _ _)
      obtain ⟨⟨e0, e1, e2, e3, e4⟩, hez⟩ := n5 (gg.blk HRX.out)
      have f0 := frozen_of_row _ (w.heap.size + 1) 0 _ _ (gg.blk HRX.out)
      have f1 := frozen_of_row _ (w.heap.size + 1) 1 _ _ (gg.blk HRX.out)
      have f2 := frozen_of_row _ (w.heap.size + 1) 2 _ _ (gg.blk HRX.out)
      have f3 := frozen_of_row _ (w.heap.size + 1) 3 _ _ (gg.blk HRX.out)
      have f4 := frozen_of_row _ (w.heap.size + 1) 4 _ _ (gg.blk HRX.out)
      go_wp2_with fail
      refine bodyPost_ret (v := .tuple #[.agg #[.int .i64 0, .int .i64 0, .int .i64 0, .slice none 0 0, .slice none 0 0], .int .i64 4]) ?_ rfl ?_
      · rw [results_cell_tmp rfl]
        go_simp
      · refine ret_badC HE.out ?_
        repeat' (first | with_reducible exact gV.trans gg | with_reducible refine Grow.set ?_ (by first | (simp; done) | (simp; omega)) _)
    · have HI := Lib.hid hi
      obtain ⟨i, hii⟩ : ∃ i : Nat, bookIx s id = i := ⟨(bookIx s id).toNat, by omega⟩
      have HII := Lib.hid hii
      obtain ⟨x, hx, hxp⟩ := idx_get (p := fun x : Book => x.id == id) (l := s.books) (i := bookIx s id) rfl (by omega)
      rw [hii, Int.toNat_natCast] at hx
      have hxid : x.id = id := by simpa using hxp
      have HMY := Lib.hid (mayS_iff.1 HM.out)
      have HER := Lib.hid (show s.books.eraseIdx i = s.books.filter (fun n => !(n.id == id)) by rw [erase_books HMY.out hx, hxid])
      have hil2 : i < s.books.length := (List.getElem?_eq_some_iff.1 hx).1
      rw [hii] at cB1 hi hbd
      have hil : (i : Int) < s.books.length := by omega
      clear hii hbd hx hxp hxid
      go_wp2_with fail
      refine cB1.mono ?_
      rintro e w2 ⟨rfl, g2⟩
      have gg := g1.trans g2
      clear cB1 g2 p0 p1 p2 p3 p4 hpz
      obtain ⟨⟨p0, p1, p2, p3, p4⟩, hpz⟩ := n5 (gg.blk HBX.out)
      have HE := Lib.hid (show dropR s id = ⟨{ s with books := s.books.eraseIdx i, notes := s.notes.filter (fun n => !(n.book == id)) }, 0, 0⟩ by rw [HER.out]; exact resOf_ok (dropE_zero.2 ⟨HM.out, by have := HI.out; omega⟩) _ _)
      have cO1 := cO _ (gV.trans gg)
      go_wp2_with fail
      refine cO1.mono ?_
      rintro e w3 ⟨bv', nv', Y, rfl, ho, hmap, g3⟩
      have hs : StB w w.heap.size (w.heap.size + 1) s.nb s.nn s.ns bv' nv' s.books Y (((((w3.setCell ⟨w.heap.size, 0, none⟩ (.int .i64 s.nb)).setCell ⟨w.heap.size, 1, none⟩ (.int .i64 s.nn)).setCell ⟨w.heap.size, 2, none⟩ (.int .i64 s.ns)).setCell ⟨w.heap.size, 3, none⟩ bv').setCell ⟨w.heap.size, 4, none⟩ nv') := StB.start (s := s) (D := w.heap.size + 1) gV HBX.out HRX.out gg g3 ho ⟨Nat.le_refl _, by omega, by omega⟩
      obtain ⟨ba, bc, ebv, -⟩ := ho.books.slice
      obtain ⟨na, nc, env, -⟩ := ho.notes.slice
      have hYl : Y.length = s.notes.length := by rw [← hmap, List.length_map]
      rw [hYl] at env
      have HMAP := Lib.hid hmap
      have HYL := Lib.hid hYl
      subst ebv env
      obtain ⟨⟨p0', p1', p2', p3', p4'⟩, hpz'⟩ := n5 ((gg.trans g3).blk HBX.out)
      have HF3 := Lib.hid (frozen_of_row w3 w.heap.size 0 _ _ ((gg.trans g3).blk HBX.out))
      have ff : ∀ j, w3.frozen? ⟨w.heap.size, j, none⟩ = false := fun j => frozen_of_row w3 w.heap.size j _ _ ((gg.trans g3).blk HBX.out)
      have ff0 := ff 0
      have ff1 := ff 1
      have ff2 := ff 2
      have ff3 := ff 3
      have ff4 := ff 4
      have HOW3 := Lib.hid ho
      have HG3 := Lib.hid (gg.trans g3)
      have hw3 : w.heap.size < w3.heap.size := hpz'
      clear cO1 cO ho hmap g3 hYl p0 p1 p2 p3 p4 ff
      unfold shelfV
      go_upto_region 7 with (fail)
      generalize ((((w3.setCell ⟨w.heap.size, 0, none⟩ (.int .i64 s.nb)).setCell ⟨w.heap.size, 1, none⟩ (.int .i64 s.nn)).setCell ⟨w.heap.size, 2, none⟩ (.int .i64 s.ns)).setCell ⟨w.heap.size, 3, none⟩ (.slice ba s.books.length bc)).setCell ⟨w.heap.size, 4, none⟩ (.slice na s.notes.length nc) = W at *
      have HS := Lib.hid hs
      obtain ⟨⟨p0, p1, p2, p3, p4⟩, hpz⟩ := hs.five
      have hb3 := hs.boxF 3
      have hb4 := hs.boxF 4
      clear hs p0' p1' p2' p3' p4' ff0 ff1 ff2 ff3 ff4 hpz'
      obtain ⟨y, hy, -⟩ := lt_get (l := s.books) (i := i) hil2
      obtain ⟨b, cc, ebb, hbz, hcc, hbk0, -⟩ := HS.out.own.book hy
      injection ebb with eb1 eb2 eb3
      subst eb1 eb3
      clear hy
      have HROW := Lib.hid ((HS.out.own.books).grow (Grow.refl W).drew)
      have HBK := Lib.hid hbk0
      clear hbk0
      have hc0 : ¬ bc = 0 := by omega
      have hile : (i : Int) ≤ bc := by omega
      have hile2 : (i : Int) + 1 ≤ s.books.length := by omega
      have hile3 : 0 ≤ (i : Int) + 1 := by omega
      have hile4 : (i : Int) ≤ (i : Int) + 1 := by omega
      have hwr : IntKind.i64.wrap ((i : Int) + 1) = ((i + 1 : Nat) : Int) := by have := IntWalk.i64_in ((i : Int) + 1) (by omega); omega
      rcases Classical.em (bc = i + 1) with rfl | hci
      · go_region_law (refine step_erase (P := Tryd.prog) (i := i) (l := s.books) (base := w.heap.size) (b := b) (c := (i + 1)) bookC (fun _ => rfl) (by rfl) _ _ (by rfl) Tryd.underlying25 hib ibz0 ibz1 ibz2 (by rfl) (by decide) (n := s.books.length) W.drew HROW.out rfl (by omega) HS.out.grow.drew.size (fun x _ u hu => by simp at hu; rcases hu with rfl | rfl <;> rfl) (by omega) (by decide) (some ⟨b, 0, none⟩) 0 0 (by rfl) (by rfl) (by omega) (fun hlt => by first | (with_reducible rfl) | (exfalso; omega)) ?_; intro v' w4 ra; obtain ⟨hr, hg, hbk⟩ := ra; obtain ⟨va, vc, e3, -⟩ := hr.slice; subst e3; obtain ⟨k3, f3, z3, hs4⟩ := (HS.out.more (Grow.refl W).drew).toB hr (by rw [HBK.out]; exact hg); have HS3 := Lib.hid hs4; clear hs4 hr hg hbk)
        all_goals
          obtain ⟨m, hm⟩ : ∃ m, m = (s.books.eraseIdx i).length := ⟨_, rfl⟩
          rw [← hm] at HS3 ⊢
          have HML := Lib.hid hm
          clear p0 p1 p2 p3 p4 hpz hb3 hb4 hm HROW HBK
          go_upto_region 8 with (fail)
          generalize w4.setCell ⟨w.heap.size, 3, none⟩ (.slice va m vc) = W3 at *
          clear k3 f3 z3 HS
          obtain ⟨⟨p0, p1, p2, p3, p4⟩, hpz⟩ := HS3.out.five
          go_wp2_with fail
          go_loopw [7, 8] (fun v7 v8 wx => ∃ (k : Nat) (o : Option Addr) (n c : Nat) (L : List NV), v8 = .int .i64 k ∧ k ≤ s.notes.length ∧ v7 = .slice o n c ∧ L = (Y.take k).filter (fun y => !(y.n.book == id)) ∧ L.length = n ∧ n ≤ k ∧ RowO W3.heap.size 41 5 (.slice o n c) L.length (L.flatMap noteC) wx ∧ Grow W3 wx) (fun _ v8 _ => s.notes.length - (Go.RowKit.intOf v8).toNat)
          case atStart => exact ⟨0, none, 0, 0, [], rfl, by omega, rfl, by simp, rfl, by omega, RowO.nil, Grow.refl _⟩
          case round =>
            obtain ⟨k, q, n, c, L, rfl, hk, rfl, hL, hLl, hnk, hr, hg⟩ := hrel
            have HL := Lib.hid hL
            have HLL := Lib.hid hLl
            have HR := Lib.hid hr
            have HG := Lib.hid hg
            have hs4 := HS3.out.more hg
            clear hL hLl p0 p1 p2 p3 p4 hpz
            obtain ⟨⟨p0, p1, p2, p3, p4⟩, hpz⟩ := hs4.five
            by_cases hlt : k < s.notes.length
            · have hlt' : (k : Int) < s.notes.length := by omega
              obtain ⟨y, hy, -⟩ := lt_get (l := Y) (i := k) (by rw [HYL.out]; exact hlt)
              obtain ⟨nb, cc, enb, hnb, hcc, -, hcl⟩ := hs4.own.note hy
              rw [HYL.out] at enb
              injection enb with en1 en2 en3
              subst en1 en3
              have y0 : wr.cell? ⟨nb, k * 5, none⟩ = some (.int .i64 y.n.id) := (hcl 0 _ rfl).1
              have y1 := (hcl 1 _ rfl).1
              have y2 := (hcl 2 _ rfl).1
              have y3 := (hcl 3 _ rfl).1
              have y4 := (hcl 4 _ rfl).1
              have HY := Lib.hid hy
              have HON := Lib.hid (nv_one hs4.own y (List.mem_of_getElem? hy))
              obtain ⟨ya, yn, yc, za, zn, zc, eyt, eys⟩ := nv_sl hs4.own y (List.mem_of_getElem? hy)
              have HYC := Lib.hid (show noteC y = [.int .i64 y.n.id, .int .i64 y.n.book, .string y.n.name, .slice ya yn yc, .slice za zn zc] by rw [← eyt, ← eys])
              rw [HYC.out] at HON
              rw [eyt] at y3
              rw [eys] at y4
              clear hs4 hcl hy hr hg eyt eys
              cases hbk : (y.n.book == id) with
              | false =>
                have HBK := Lib.hid hbk
                have hbk' : (y.n.book != id) = true := by rw [bne, hbk]; rfl
                go_wp2_with (at_builtin; refine app_R (base := W3.heap.size) (by rfl) _ _ 26 (by rfl) 41 inn _ 5 80 Tryd.underlying26 hinn innz0 innz1 innz2 (by rfl) (by decide) (.slice q n c) n (L.flatMap noteC) (by rfl) wr (by have h9 := HR.out; rw [HLL.out] at h9; exact h9) HG.out.size [.int .i64 y.n.id, .int .i64 y.n.book, .string y.n.name, .slice ya yn yc, .slice za zn zc] rfl HON.out (by rfl) ?_ (by decide) ?_; omega; intro v' w4 ra; obtain ⟨va2, vc2, e3, -⟩ := ra.1.slice; subst e3; have HRA := Lib.hid ra; clear ra)
                have hgr : Grow W3 w4 := by
                  have hrr := HR.out
                  rw [HLL.out] at hrr
                  exact grown_grow HG.out hrr HRA.out.2.1
                have hadd : RowO W3.heap.size 41 5 (.slice va2 (n + 1) vc2) (L ++ [y]).length ((L ++ [y]).flatMap noteC) w4 := by
                  have h9 := HRA.out.1
                  rw [← HYC.out] at h9
                  rw [List.length_append, HLL.out, List.flatMap_append, List.flatMap_cons, List.flatMap_nil, List.append_nil]; exact h9
                have HADD := Lib.hid hadd
                have HGR := Lib.hid hgr
                clear hadd hgr HRA hbk
                go_wp2_with fail
                go_roundw
                case rel => exact ⟨k + 1, va2, n + 1, vc2, L ++ [y], by go_num, by omega, by go_num, by rw [HL.out, filter_next HY.out, if_pos (by rw [HBK.out]; rfl)], by rw [List.length_append, HLL.out]; rfl, by omega, HADD.out, HGR.out⟩
                case measure => simp [Go.RowKit.intOf]; omega
              | true =>
                have HBK := Lib.hid hbk
                have hbk' : (y.n.book != id) = false := by rw [bne, hbk]; rfl
                go_wp2_with fail
                go_roundw
                case rel => exact ⟨k + 1, q, n, c, L, by go_num, by omega, rfl, by rw [HL.out, filter_next HY.out, if_neg (by rw [HBK.out]; simp), List.append_nil], HLL.out, by omega, HR.out, HG.out⟩
                case measure => simp [Go.RowKit.intOf]; omega
            · have hlt' : ¬ (k : Int) < s.notes.length := by omega
              have hLa : L = Y.filter (fun y => !(y.n.book == id)) := by rw [HL.out, List.take_of_length_le (by rw [HYL.out]; omega)]
              have hr9 := HR.out
              rw [hLa] at hr9
              have hn9 : n = (Y.filter (fun y => !(y.n.book == id))).length := by rw [← HLL.out, hLa]
              obtain ⟨k3, f3, z3, hs5⟩ := HS3.out.subN (w' := wr) List.filter_sublist (hr9.base_mono HS3.out.grow.size) (grown_of_grow HG.out _)
              have HS5 := Lib.hid hs5
              have HMF := Lib.hid (map_filterN HMAP.out (fun n => !(n.book == id)))
              clear hr hg hs4 hs5 hr9 hn9 hLa
              go_upto_region 15 with (fail)
              generalize wr.setCell ⟨w.heap.size, 4, none⟩ (.slice q n c) = W5 at *
              clear k3 f3 z3 p0 p1 p2 p3 p4 hpz
              obtain ⟨⟨p0, p1, p2, p3, p4⟩, hpz⟩ := HS5.out.five
              obtain ⟨⟨e0, e1, e2, e3, e4⟩, hez⟩ := HS5.out.res5
              have f0 := HS5.out.resF 0
              have f1 := HS5.out.resF 1
              have f2 := HS5.out.resF 2
              have f3 := HS5.out.resF 3
              have f4 := HS5.out.resF 4
              have HOD := Lib.hid HS5.out.fin
              go_wp2_with fail
              refine bodyPost_ret (v := .tuple #[.agg #[.int .i64 s.nb, .int .i64 s.nn, .int .i64 s.ns, .slice va m vc, .slice q n c], .int .i64 0]) ?_ rfl ?_
              · rw [results_cell_tmp rfl]
                go_simp
              · refine ret_okC (D := w.heap.size + 1) (s := { s with books := s.books.eraseIdx i, notes := s.notes.filter (fun n => !(n.book == id)) }) HE.out ?_ HMF.out
                repeat' (first | with_reducible exact HOD.out | with_reducible refine OwnD2.drew ?_ | with_reducible refine OwnD2.set ?_ (by omega) _ _)
      · go_region_law (refine step_erase (P := Tryd.prog) (i := i) (l := s.books) (base := w.heap.size) (b := b) (c := bc) bookC (fun _ => rfl) (by rfl) _ _ (by rfl) Tryd.underlying25 hib ibz0 ibz1 ibz2 (by rfl) (by decide) (n := s.books.length) W.drew HROW.out rfl (by omega) HS.out.grow.drew.size (fun x _ u hu => by simp at hu; rcases hu with rfl | rfl <;> rfl) (by omega) (by decide) (some ⟨b, (i + 1) * 2, none⟩) (s.books.length - (i + 1)) (bc - (i + 1)) (by rfl) (by rfl) (by omega) (fun hlt => by first | (with_reducible rfl) | (exfalso; omega)) ?_; intro v' w4 ra; obtain ⟨hr, hg, hbk⟩ := ra; obtain ⟨va, vc, e3, -⟩ := hr.slice; subst e3; obtain ⟨k3, f3, z3, hs4⟩ := (HS.out.more (Grow.refl W).drew).toB hr (by rw [HBK.out]; exact hg); have HS3 := Lib.hid hs4; clear hs4 hr hg hbk)
        all_goals
          obtain ⟨m, hm⟩ : ∃ m, m = (s.books.eraseIdx i).length := ⟨_, rfl⟩
          rw [← hm] at HS3 ⊢
          have HML := Lib.hid hm
          clear p0 p1 p2 p3 p4 hpz hb3 hb4 hm HROW HBK
          go_upto_region 8 with (fail)
          generalize w4.setCell ⟨w.heap.size, 3, none⟩ (.slice va m vc) = W3 at *
          clear k3 f3 z3 HS
          obtain ⟨⟨p0, p1, p2, p3, p4⟩, hpz⟩ := HS3.out.five
          go_wp2_with fail
          go_loopw [7, 8] (fun v7 v8 wx => ∃ (k : Nat) (o : Option Addr) (n c : Nat) (L : List NV), v8 = .int .i64 k ∧ k ≤ s.notes.length ∧ v7 = .slice o n c ∧ L = (Y.take k).filter (fun y => !(y.n.book == id)) ∧ L.length = n ∧ n ≤ k ∧ RowO W3.heap.size 41 5 (.slice o n c) L.length (L.flatMap noteC) wx ∧ Grow W3 wx) (fun _ v8 _ => s.notes.length - (Go.RowKit.intOf v8).toNat)
          case atStart => exact ⟨0, none, 0, 0, [], rfl, by omega, rfl, by simp, rfl, by omega, RowO.nil, Grow.refl _⟩
          case round =>
            obtain ⟨k, q, n, c, L, rfl, hk, rfl, hL, hLl, hnk, hr, hg⟩ := hrel
            have HL := Lib.hid hL
            have HLL := Lib.hid hLl
            have HR := Lib.hid hr
            have HG := Lib.hid hg
            have hs4 := HS3.out.more hg
            clear hL hLl p0 p1 p2 p3 p4 hpz
            obtain ⟨⟨p0, p1, p2, p3, p4⟩, hpz⟩ := hs4.five
            by_cases hlt : k < s.notes.length
            · have hlt' : (k : Int) < s.notes.length := by omega
              obtain ⟨y, hy, -⟩ := lt_get (l := Y) (i := k) (by rw [HYL.out]; exact hlt)
              obtain ⟨nb, cc, enb, hnb, hcc, -, hcl⟩ := hs4.own.note hy
              rw [HYL.out] at enb
              injection enb with en1 en2 en3
              subst en1 en3
              have y0 : wr.cell? ⟨nb, k * 5, none⟩ = some (.int .i64 y.n.id) := (hcl 0 _ rfl).1
              have y1 := (hcl 1 _ rfl).1
              have y2 := (hcl 2 _ rfl).1
              have y3 := (hcl 3 _ rfl).1
              have y4 := (hcl 4 _ rfl).1
              have HY := Lib.hid hy
              have HON := Lib.hid (nv_one hs4.own y (List.mem_of_getElem? hy))
              obtain ⟨ya, yn, yc, za, zn, zc, eyt, eys⟩ := nv_sl hs4.own y (List.mem_of_getElem? hy)
              have HYC := Lib.hid (show noteC y = [.int .i64 y.n.id, .int .i64 y.n.book, .string y.n.name, .slice ya yn yc, .slice za zn zc] by rw [← eyt, ← eys])
              rw [HYC.out] at HON
              rw [eyt] at y3
              rw [eys] at y4
              clear hs4 hcl hy hr hg eyt eys
              cases hbk : (y.n.book == id) with
              | false =>
                have HBK := Lib.hid hbk
                have hbk' : (y.n.book != id) = true := by rw [bne, hbk]; rfl
                go_wp2_with (at_builtin; refine app_R (base := W3.heap.size) (by rfl) _ _ 26 (by rfl) 41 inn _ 5 80 Tryd.underlying26 hinn innz0 innz1 innz2 (by rfl) (by decide) (.slice q n c) n (L.flatMap noteC) (by rfl) wr (by have h9 := HR.out; rw [HLL.out] at h9; exact h9) HG.out.size [.int .i64 y.n.id, .int .i64 y.n.book, .string y.n.name, .slice ya yn yc, .slice za zn zc] rfl HON.out (by rfl) ?_ (by decide) ?_; omega; intro v' w4 ra; obtain ⟨va2, vc2, e3, -⟩ := ra.1.slice; subst e3; have HRA := Lib.hid ra; clear ra)
                have hgr : Grow W3 w4 := by
                  have hrr := HR.out
                  rw [HLL.out] at hrr
                  exact grown_grow HG.out hrr HRA.out.2.1
                have hadd : RowO W3.heap.size 41 5 (.slice va2 (n + 1) vc2) (L ++ [y]).length ((L ++ [y]).flatMap noteC) w4 := by
                  have h9 := HRA.out.1
                  rw [← HYC.out] at h9
                  rw [List.length_append, HLL.out, List.flatMap_append, List.flatMap_cons, List.flatMap_nil, List.append_nil]; exact h9
                have HADD := Lib.hid hadd
                have HGR := Lib.hid hgr
                clear hadd hgr HRA hbk
                go_wp2_with fail
                go_roundw
                case rel => exact ⟨k + 1, va2, n + 1, vc2, L ++ [y], by go_num, by omega, by go_num, by rw [HL.out, filter_next HY.out, if_pos (by rw [HBK.out]; rfl)], by rw [List.length_append, HLL.out]; rfl, by omega, HADD.out, HGR.out⟩
                case measure => simp [Go.RowKit.intOf]; omega
              | true =>
                have HBK := Lib.hid hbk
                have hbk' : (y.n.book != id) = false := by rw [bne, hbk]; rfl
                go_wp2_with fail
                go_roundw
                case rel => exact ⟨k + 1, q, n, c, L, by go_num, by omega, rfl, by rw [HL.out, filter_next HY.out, if_neg (by rw [HBK.out]; simp), List.append_nil], HLL.out, by omega, HR.out, HG.out⟩
                case measure => simp [Go.RowKit.intOf]; omega
            · have hlt' : ¬ (k : Int) < s.notes.length := by omega
              have hLa : L = Y.filter (fun y => !(y.n.book == id)) := by rw [HL.out, List.take_of_length_le (by rw [HYL.out]; omega)]
              have hr9 := HR.out
              rw [hLa] at hr9
              have hn9 : n = (Y.filter (fun y => !(y.n.book == id))).length := by rw [← HLL.out, hLa]
              obtain ⟨k3, f3, z3, hs5⟩ := HS3.out.subN (w' := wr) List.filter_sublist (hr9.base_mono HS3.out.grow.size) (grown_of_grow HG.out _)
              have HS5 := Lib.hid hs5
              have HMF := Lib.hid (map_filterN HMAP.out (fun n => !(n.book == id)))
              clear hr hg hs4 hs5 hr9 hn9 hLa
              go_upto_region 15 with (fail)
              generalize wr.setCell ⟨w.heap.size, 4, none⟩ (.slice q n c) = W5 at *
              clear k3 f3 z3 p0 p1 p2 p3 p4 hpz
              obtain ⟨⟨p0, p1, p2, p3, p4⟩, hpz⟩ := HS5.out.five
              obtain ⟨⟨e0, e1, e2, e3, e4⟩, hez⟩ := HS5.out.res5
              have f0 := HS5.out.resF 0
              have f1 := HS5.out.resF 1
              have f2 := HS5.out.resF 2
              have f3 := HS5.out.resF 3
              have f4 := HS5.out.resF 4
              have HOD := Lib.hid HS5.out.fin
              go_wp2_with fail
              refine bodyPost_ret (v := .tuple #[.agg #[.int .i64 s.nb, .int .i64 s.nn, .int .i64 s.ns, .slice va m vc, .slice q n c], .int .i64 0]) ?_ rfl ?_
              · rw [results_cell_tmp rfl]
                go_simp
              · refine ret_okC (D := w.heap.size + 1) (s := { s with books := s.books.eraseIdx i, notes := s.notes.filter (fun n => !(n.book == id)) }) HE.out ?_ HMF.out
                repeat' (first | with_reducible exact HOD.out | with_reducible refine OwnD2.drew ?_ | with_reducible refine OwnD2.set ?_ (by omega) _ _)
end Go.Proofs.YtnajccljdjllgaaDoor
set_option linter.unusedVariables false
set_option linter.unusedSimpArgs false
namespace Go.Proofs.YtnajccljdjllgaaDoor
open Go.RowKit Go.Lib
set_option maxRecDepth 100000 in
set_option maxHeartbeats 4000000 in
theorem refAdd_any (s : Shelf) (bv nv : Value) (id : Int) (t : ByteArray) (w : World) (h : ShelfR w s bv nv) (hz : TameS s) (ht : t.size ≤ 1000000000) (hT : Tabs w) :
    Calls Tryd.prog 32 #[shelfV s bv nv, .int .i64 id, .string t] w (RetM (addR s id t) w) := by
  have cM := fun W (g : Grow w W) => refMay_any s bv nv W (h.grow g) hz
  obtain ⟨ib, hib, hbz0, hbz1, hbz2⟩ := info_parts info_note
  have cO := fun W (g : Grow w W) => copy_any s bv nv W (h.grow g) hz.1
  have cB : ∀ W, Grow w W → Calls Tryd.prog 68 #[shelfV s bv nv, .int .i64 id] W fun e w' => e = .returned (.int .i64 (bookIx s id)) ∧ Grow W w' := fun W g => refBook_any s bv nv id W (h.grow g) (by have := hz.1.1; omega)
  have cN := fun W (g : Grow w W) => refNoteName_any s bv nv id 0 t W (h.grow g) (by have := hz.1.2.1; omega) ht
  have hbl := hz.1.1
  have hnl := hz.1.2.1
  have hbd := idx_bd (fun x : Book => x.id == id) s.books
  have hnd := idx_bd (fun x : Note => x.id == id) s.notes
  rw [show idx (fun x : Book => x.id == id) s.books = bookIx s id from rfl] at hbd
  rw [show idx (fun x : Note => x.id == id) s.notes = noteIx s id from rfl] at hnd
  obtain ⟨a1, c1, rfl⟩ := h.1.mk
  obtain ⟨a2, c2, rfl⟩ := h.2.mk
  have HXX := Lib.hid (two_boxes2 w (shB s (.slice a1 s.books.length c1) (.slice a2 s.notes.length c2)) (shB ⟨0, 0, 0, [], []⟩ (.slice none 0 0) (.slice none 0 0)))
  clear h hz hT
  unfold shelfV at *
  go_enter Tryd.func32, Tryd.ntmps32
  go_upto_region 1 with (fail)
  generalize hV : (w.alloc (.cells #[.int .i64 s.nb, .int .i64 s.nn, .int .i64 s.ns, .slice a1 s.books.length c1, .slice a2 s.notes.length c2] 28)).alloc (.cells #[.int .i64 0, .int .i64 0, .int .i64 0, .slice none 0 0, .slice none 0 0] 28) = V
  have gV : Grow w V := by rw [← hV]; exact ((Grow.refl w).alloc _).alloc _
  have HBX : Hid (V.heap[w.heap.size]? = some (shB s (.slice a1 s.books.length c1) (.slice a2 s.notes.length c2))) := by rw [← hV]; exact Lib.hid HXX.out.1
  have HRX : Hid (V.heap[w.heap.size + 1]? = some (shB ⟨0, 0, 0, [], []⟩ (.slice none 0 0) (.slice none 0 0))) := by rw [← hV]; exact Lib.hid HXX.out.2
  obtain ⟨⟨p0, p1, p2, p3, p4⟩, hpz⟩ := n5 HBX.out
  clear hV
  have cM1 := cM V gV
  cases hm : mayS s with
  | false =>
    have HM := Lib.hid hm
    rw [hm] at cM1
    clear hm cO
    go_wp2_with fail
    refine cM1.mono ?_
    rintro e w1 ⟨rfl, g1⟩
    clear cM1 p0 p1 p2 p3 p4
    have HE := Lib.hid (show addR s id t = bad 2 from res_bad (by unfold addE; rw [if_pos HM.out]) (by decide) _ _)
    obtain ⟨⟨e0, e1, e2, e3, e4⟩, hez⟩ := n5 (g1.blk HRX.out)
    have f0 := frozen_of_row _ (w.heap.size + 1) 0 _ _ (g1.blk HRX.out)
    have f1 := frozen_of_row _ (w.heap.size + 1) 1 _ _ (g1.blk HRX.out)
    have f2 := frozen_of_row _ (w.heap.size + 1) 2 _ _ (g1.blk HRX.out)
    have f3 := frozen_of_row _ (w.heap.size + 1) 3 _ _ (g1.blk HRX.out)
    have f4 := frozen_of_row _ (w.heap.size + 1) 4 _ _ (g1.blk HRX.out)
    go_wp2_with fail
    refine bodyPost_ret (v := .tuple #[.agg #[.int .i64 0, .int .i64 0, .int .i64 0, .slice none 0 0, .slice none 0 0], .int .i64 0, .int .i64 2]) ?_ rfl ?_
    · rw [results_cell_tmp2 (P := Tryd.prog) rfl]
      go_simp
    · refine ret_badM HE.out ?_
      repeat' (first | with_reducible exact gV.trans g1 | with_reducible refine Grow.set ?_ (by first | (simp; done) | (simp; omega)) _)
  | true =>
    have HM := Lib.hid hm
    rw [hm] at cM1
    clear hm
    go_wp2_with fail
    refine cM1.mono ?_
    rintro e w1 ⟨rfl, g1⟩
    clear cM1 p0 p1 p2 p3 p4
    obtain ⟨⟨p0, p1, p2, p3, p4⟩, hpz⟩ := n5 (g1.blk HBX.out)
    have cB1 := cB _ (gV.trans g1)
    by_cases hi : bookIx s id < 0
    · have HI := Lib.hid hi
      clear cO cN
      go_wp2_with fail
      refine cB1.mono ?_
      rintro e w2 ⟨rfl, g2⟩
      have gg := g1.trans g2
      clear cB1 g2 p0 p1 p2 p3 p4 hpz
      have HE := Lib.hid (show addR s id t = bad 4 from res_bad (by unfold addE; rw [if_neg (by rw [HM.out]; simp), if_pos HI.out]) (by decide) _ _)
      obtain ⟨⟨e0, e1, e2, e3, e4⟩, hez⟩ := n5 (gg.blk HRX.out)
      have f0 := frozen_of_row _ (w.heap.size + 1) 0 _ _ (gg.blk HRX.out)
      have f1 := frozen_of_row _ (w.heap.size + 1) 1 _ _ (gg.blk HRX.out)
      have f2 := frozen_of_row _ (w.heap.size + 1) 2 _ _ (gg.blk HRX.out)
      have f3 := frozen_of_row _ (w.heap.size + 1) 3 _ _ (gg.blk HRX.out)
      have f4 := frozen_of_row _ (w.heap.size + 1) 4 _ _ (gg.blk HRX.out)
      go_wp2_with fail
      refine bodyPost_ret (v := .tuple #[.agg #[.int .i64 0, .int .i64 0, .int .i64 0, .slice none 0 0, .slice none 0 0], .int .i64 0, .int .i64 4]) ?_ rfl ?_
      · rw [results_cell_tmp2 (P := Tryd.prog) rfl]
        go_simp
      · refine ret_badM HE.out ?_
        repeat' (first | with_reducible exact gV.trans gg | with_reducible refine Grow.set ?_ (by first | (simp; done) | (simp; omega)) _)
    · have HI := Lib.hid hi
      go_wp2_with fail
      refine cB1.mono ?_
      rintro e w2 ⟨rfl, g2⟩
      have gg := g1.trans g2
      clear cB1 g2 p0 p1 p2 p3 p4 hpz
      obtain ⟨⟨p0, p1, p2, p3, p4⟩, hpz⟩ := n5 (gg.blk HBX.out)
      have cN1 := cN _ (gV.trans gg)
      rcases noteNE_cases s id 0 t with ⟨hb, h1⟩ | ⟨hb, h1, h2⟩ | ⟨hb, h1, h2⟩
      · have HN := Lib.hid h1
        rw [hb] at cN1
        clear hb h1 cO
        go_wp2_with fail
        refine cN1.mono ?_
        rintro e wn ⟨rfl, g2⟩
        have gh := gg.trans g2
        clear cN1 g2 p0 p1 p2 p3 p4 hpz
        have HE := Lib.hid (show addR s id t = bad 6 from res_bad (by unfold addE; rw [if_neg (by rw [HM.out]; simp), if_neg (by have := HI.out; omega), if_pos HN.out]) (by decide) _ _)
        obtain ⟨⟨e0, e1, e2, e3, e4⟩, hez⟩ := n5 (gh.blk HRX.out)
        have f0 := frozen_of_row _ (w.heap.size + 1) 0 _ _ (gh.blk HRX.out)
        have f1 := frozen_of_row _ (w.heap.size + 1) 1 _ _ (gh.blk HRX.out)
        have f2 := frozen_of_row _ (w.heap.size + 1) 2 _ _ (gh.blk HRX.out)
        have f3 := frozen_of_row _ (w.heap.size + 1) 3 _ _ (gh.blk HRX.out)
        have f4 := frozen_of_row _ (w.heap.size + 1) 4 _ _ (gh.blk HRX.out)
        go_wp2_with fail
        refine bodyPost_ret (v := .tuple #[.agg #[.int .i64 0, .int .i64 0, .int .i64 0, .slice none 0 0, .slice none 0 0], .int .i64 0, .int .i64 6]) ?_ rfl ?_
        · rw [results_cell_tmp2 (P := Tryd.prog) rfl]
          go_simp
        · refine ret_badM HE.out ?_
          repeat' (first | with_reducible exact gV.trans gh | with_reducible refine Grow.set ?_ (by first | (simp; done) | (simp; omega)) _)
      · have HN := Lib.hid h1
        have HD := Lib.hid h2
        rw [hb] at cN1
        clear hb h1 h2 cO
        go_wp2_with fail
        refine cN1.mono ?_
        rintro e wn ⟨rfl, g2⟩
        have gh := gg.trans g2
        clear cN1 g2 p0 p1 p2 p3 p4 hpz
        have HE := Lib.hid (show addR s id t = bad 7 from res_bad (by unfold addE; rw [if_neg (by rw [HM.out]; simp), if_neg (by have := HI.out; omega), if_neg (by rw [HN.out]; simp), if_pos HD.out]) (by decide) _ _)
        obtain ⟨⟨e0, e1, e2, e3, e4⟩, hez⟩ := n5 (gh.blk HRX.out)
        have f0 := frozen_of_row _ (w.heap.size + 1) 0 _ _ (gh.blk HRX.out)
        have f1 := frozen_of_row _ (w.heap.size + 1) 1 _ _ (gh.blk HRX.out)
        have f2 := frozen_of_row _ (w.heap.size + 1) 2 _ _ (gh.blk HRX.out)
        have f3 := frozen_of_row _ (w.heap.size + 1) 3 _ _ (gh.blk HRX.out)
        have f4 := frozen_of_row _ (w.heap.size + 1) 4 _ _ (gh.blk HRX.out)
        go_wp2_with fail
        refine bodyPost_ret (v := .tuple #[.agg #[.int .i64 0, .int .i64 0, .int .i64 0, .slice none 0 0, .slice none 0 0], .int .i64 0, .int .i64 7]) ?_ rfl ?_
        · rw [results_cell_tmp2 (P := Tryd.prog) rfl]
          go_simp
        · refine ret_badM HE.out ?_
          repeat' (first | with_reducible exact gV.trans gh | with_reducible refine Grow.set ?_ (by first | (simp; done) | (simp; omega)) _)
      · have HN := Lib.hid h1
        have HD := Lib.hid h2
        rw [hb] at cN1
        clear hb h1 h2
        go_wp2_with fail
        refine cN1.mono ?_
        rintro e wn ⟨rfl, g2⟩
        have gh := gg.trans g2
        clear cN1 g2 p0 p1 p2 p3 p4 hpz
        obtain ⟨⟨p0, p1, p2, p3, p4⟩, hpz⟩ := n5 (gh.blk HBX.out)
        have hnb := (mayS_iff.1 HM.out).nn
        by_cases hl : 12 ≤ (s.notes.length : Int)
        · have HL := Lib.hid hl
          clear cO
          have HE := Lib.hid (show addR s id t = bad 3 from res_bad (by unfold addE; rw [if_neg (by rw [HM.out]; simp), if_neg (by have := HI.out; omega), if_neg (by rw [HN.out]; simp), if_neg (by rw [HD.out]; simp), if_pos (.inl HL.out)]) (by decide) _ _)
          obtain ⟨⟨e0, e1, e2, e3, e4⟩, hez⟩ := n5 (gh.blk HRX.out)
          have f0 := frozen_of_row _ (w.heap.size + 1) 0 _ _ (gh.blk HRX.out)
          have f1 := frozen_of_row _ (w.heap.size + 1) 1 _ _ (gh.blk HRX.out)
          have f2 := frozen_of_row _ (w.heap.size + 1) 2 _ _ (gh.blk HRX.out)
          have f3 := frozen_of_row _ (w.heap.size + 1) 3 _ _ (gh.blk HRX.out)
          have f4 := frozen_of_row _ (w.heap.size + 1) 4 _ _ (gh.blk HRX.out)
          go_wp2_with fail
          refine bodyPost_ret (v := .tuple #[.agg #[.int .i64 0, .int .i64 0, .int .i64 0, .slice none 0 0, .slice none 0 0], .int .i64 0, .int .i64 3]) ?_ rfl ?_
          · rw [results_cell_tmp2 (P := Tryd.prog) rfl]
            go_simp
          · refine ret_badM HE.out ?_
            repeat' (first | with_reducible exact gV.trans gh | with_reducible refine Grow.set ?_ (by first | (simp; done) | (simp; omega)) _)
        · cases hk : (s.nn == 65536) with
          | true =>
            have HL := Lib.hid (show 65536 ≤ s.nn by rw [beq_iff_eq] at hk; omega)
            clear cO
            have HE := Lib.hid (show addR s id t = bad 3 from res_bad (by unfold addE; rw [if_neg (by rw [HM.out]; simp), if_neg (by have := HI.out; omega), if_neg (by rw [HN.out]; simp), if_neg (by rw [HD.out]; simp), if_pos (.inr HL.out)]) (by decide) _ _)
            obtain ⟨⟨e0, e1, e2, e3, e4⟩, hez⟩ := n5 (gh.blk HRX.out)
            have f0 := frozen_of_row _ (w.heap.size + 1) 0 _ _ (gh.blk HRX.out)
            have f1 := frozen_of_row _ (w.heap.size + 1) 1 _ _ (gh.blk HRX.out)
            have f2 := frozen_of_row _ (w.heap.size + 1) 2 _ _ (gh.blk HRX.out)
            have f3 := frozen_of_row _ (w.heap.size + 1) 3 _ _ (gh.blk HRX.out)
            have f4 := frozen_of_row _ (w.heap.size + 1) 4 _ _ (gh.blk HRX.out)
            go_wp2_with fail
            refine bodyPost_ret (v := .tuple #[.agg #[.int .i64 0, .int .i64 0, .int .i64 0, .slice none 0 0, .slice none 0 0], .int .i64 0, .int .i64 3]) ?_ rfl ?_
            · rw [results_cell_tmp2 (P := Tryd.prog) rfl]
              go_simp
            · refine ret_badM HE.out ?_
              repeat' (first | with_reducible exact gV.trans gh | with_reducible refine Grow.set ?_ (by first | (simp; done) | (simp; omega)) _)
          | false =>
            have hk2 : s.nn < 65536 := by rw [beq_eq_false_iff_ne] at hk; omega
            have HE := Lib.hid (show addR s id t = ⟨{ s with nn := s.nn + 1, notes := s.notes ++ [⟨s.nn, id, t, [], []⟩] }, s.nn, 0⟩ from resOf_ok (addE_zero.2 ⟨HM.out, by have := HI.out; omega, HN.out, HD.out, by omega, hk2⟩) _ _)
            have cO1 := cO _ (gV.trans gh)
            go_wp2_with fail
            refine cO1.mono ?_
            rintro e w3 ⟨bv', nv', Y, rfl, ho, hmap, g3⟩
            have hs : StB w w.heap.size (w.heap.size + 1) s.nb s.nn s.ns bv' nv' s.books Y (((((w3.setCell ⟨w.heap.size, 0, none⟩ (.int .i64 s.nb)).setCell ⟨w.heap.size, 1, none⟩ (.int .i64 s.nn)).setCell ⟨w.heap.size, 2, none⟩ (.int .i64 s.ns)).setCell ⟨w.heap.size, 3, none⟩ bv').setCell ⟨w.heap.size, 4, none⟩ nv') := StB.start (s := s) (D := w.heap.size + 1) gV HBX.out HRX.out gh g3 ho ⟨Nat.le_refl _, by omega, by omega⟩
            obtain ⟨ba, bc, ebv, -⟩ := ho.books.slice
            obtain ⟨na, nc, env, -⟩ := ho.notes.slice
            have hYl : Y.length = s.notes.length := by rw [← hmap, List.length_map]
            rw [hYl] at env
            have HMAP := Lib.hid hmap
            have HYL := Lib.hid hYl
            subst ebv env
            obtain ⟨⟨p0', p1', p2', p3', p4'⟩, hpz'⟩ := n5 ((gh.trans g3).blk HBX.out)
            have HF3 := Lib.hid (frozen_of_row w3 w.heap.size 0 _ _ ((gh.trans g3).blk HBX.out))
            have ff : ∀ j, w3.frozen? ⟨w.heap.size, j, none⟩ = false := fun j => frozen_of_row w3 w.heap.size j _ _ ((gh.trans g3).blk HBX.out)
            have ff0 := ff 0
            have ff1 := ff 1
            have ff2 := ff 2
            have ff3 := ff 3
            have ff4 := ff 4
            have HOW3 := Lib.hid ho
            have HG3 := Lib.hid (gh.trans g3)
            have hw3 : w.heap.size < w3.heap.size := hpz'
            clear cO1 cO ho hmap g3 hYl p0 p1 p2 p3 p4 ff
            unfold shelfV
            go_upto_region 11 with (fail)
            generalize ((((w3.setCell ⟨w.heap.size, 0, none⟩ (.int .i64 s.nb)).setCell ⟨w.heap.size, 1, none⟩ (.int .i64 s.nn)).setCell ⟨w.heap.size, 2, none⟩ (.int .i64 s.ns)).setCell ⟨w.heap.size, 3, none⟩ (.slice ba s.books.length bc)).setCell ⟨w.heap.size, 4, none⟩ (.slice na s.notes.length nc) = W at *
            have HS := Lib.hid hs
            obtain ⟨⟨p0, p1, p2, p3, p4⟩, hpz⟩ := hs.five
            have hb3 := hs.boxF 3
            have hb4 := hs.boxF 4
            clear hs p0' p1' p2' p3' p4' ff0 ff1 ff2 ff3 ff4 hpz'
            go_upto_region 13 with (at_builtin; refine app_R (by rfl) _ _ 26 (by rfl) 41 ib _ 5 80 Tryd.underlying26 hib hbz0 hbz1 hbz2 (by rfl) (by decide) (.slice na s.notes.length nc) s.notes.length (Y.flatMap noteC) (by rfl) _ (by have h9 := HS.out.own.notes; rw [HYL.out] at h9; exact h9) HS.out.grow.size (noteC ⟨⟨s.nn, id, t, [], []⟩, .slice none 0 0, .slice none 0 0⟩) rfl ?_ (by rfl) ?_ (by decide) ?_; (intro u hu; simp at hu; rcases hu with rfl | rfl | rfl | rfl | rfl <;> rfl); omega; intro v' w4 ra; obtain ⟨va, vc, e3, -⟩ := ra.1.slice; subst e3; obtain ⟨k3, f3, z3, hs4⟩ := HS.out.note (x := ⟨⟨s.nn, id, t, [], []⟩, .slice none 0 0, .slice none 0 0⟩) ⟨rfl, rfl⟩ ⟨rfl, rfl⟩ (by rw [HYL.out]; exact ra); have HS4 := Lib.hid hs4; clear hs4 ra)
            generalize w4.setCell ⟨w.heap.size, 4, none⟩ (.slice va (s.notes.length + 1) vc) = W4 at *
            clear p0 p1 p2 p3 p4 hpz hb3 hb4 k3 f3 z3 HS
            obtain ⟨⟨p0, p1, p2, p3, p4⟩, hpz⟩ := HS4.out.five
            have hb0 := HS4.out.boxF 1
            have HS5 := Lib.hid (HS4.out.num1 (s.nn + 1))
            have HMQ := Lib.hid (show (Y ++ [(⟨⟨s.nn, id, t, [], []⟩, .slice none 0 0, .slice none 0 0⟩ : NV)]).map NV.n = s.notes ++ [⟨s.nn, id, t, [], []⟩] by rw [List.map_append, HMAP.out]; rfl)
            go_upto_region 14 with (fail)
            generalize W4.setCell ⟨w.heap.size, 1, none⟩ (.int .i64 (s.nn + 1)) = W5 at *
            clear p0 p1 p2 p3 p4 hpz hb0 HS4
            obtain ⟨⟨p0, p1, p2, p3, p4⟩, hpz⟩ := HS5.out.five
            obtain ⟨⟨e0, e1, e2, e3, e4⟩, hez⟩ := HS5.out.res5
            have f0 := HS5.out.resF 0
            have f1 := HS5.out.resF 1
            have f2 := HS5.out.resF 2
            have f3 := HS5.out.resF 3
            have f4 := HS5.out.resF 4
            have HOD := Lib.hid HS5.out.fin
            go_wp2_with fail
            refine bodyPost_ret (v := .tuple #[.agg #[.int .i64 s.nb, .int .i64 (s.nn + 1), .int .i64 s.ns, .slice ba s.books.length bc, .slice va (s.notes.length + 1) vc], .int .i64 (s.nn), .int .i64 0]) ?_ rfl ?_
            · rw [results_cell_tmp2 (P := Tryd.prog) rfl]
              go_simp
            · refine ret_okM (D := w.heap.size + 1) (s := { s with nn := s.nn + 1, notes := s.notes ++ [⟨s.nn, id, t, [], []⟩] }) HE.out ?_ HMQ.out
              repeat' (first | with_reducible exact HOD.out | with_reducible refine OwnD2.drew ?_ | with_reducible refine OwnD2.set ?_ (by omega) _ _)
end Go.Proofs.YtnajccljdjllgaaDoor
set_option linter.unusedVariables false
set_option linter.unusedSimpArgs false
namespace Go.Proofs.YtnajccljdjllgaaDoor
open Go.RowKit Go.Lib
set_option maxRecDepth 100000 in
set_option maxHeartbeats 4000000 in
theorem refRetitle_any (s : Shelf) (bv nv : Value) (id : Int) (t : ByteArray) (w : World) (h : ShelfR w s bv nv) (hz : TameS s) (ht : t.size ≤ 1000000000) (hT : Tabs w) :
    Calls Tryd.prog 34 #[shelfV s bv nv, .int .i64 id, .string t] w (RetC (retitleR s id t) w) := by
  have cM := fun W (g : Grow w W) => refMay_any s bv nv W (h.grow g) hz
  have cO := fun W (g : Grow w W) => copy_any s bv nv W (h.grow g) hz.1
  have cK : ∀ W, Grow w W → Calls Tryd.prog 76 #[shelfV s bv nv, .int .i64 id] W fun e w' => e = .returned (.int .i64 (noteIx s id)) ∧ Grow W w' := fun W g => refNote_any s bv nv id W (h.grow g) (by have := hz.1.2.1; omega)
  have cN := fun q W (g : Grow w W) => refNoteName_any s bv nv q id t W (h.grow g) (by have := hz.1.2.1; omega) ht
  have HH := Lib.hid h
  have hbl := hz.1.1
  have hnl := hz.1.2.1
  have hbd := idx_bd (fun x : Book => x.id == id) s.books
  have hnd := idx_bd (fun x : Note => x.id == id) s.notes
  rw [show idx (fun x : Book => x.id == id) s.books = bookIx s id from rfl] at hbd
  rw [show idx (fun x : Note => x.id == id) s.notes = noteIx s id from rfl] at hnd
  obtain ⟨a1, c1, rfl⟩ := h.1.mk
  obtain ⟨a2, c2, rfl⟩ := h.2.mk
  have HXX := Lib.hid (two_boxes2 w (shB s (.slice a1 s.books.length c1) (.slice a2 s.notes.length c2)) (shB ⟨0, 0, 0, [], []⟩ (.slice none 0 0) (.slice none 0 0)))
  clear h hz hT
  unfold shelfV at *
  go_enter Tryd.func34, Tryd.ntmps34
  go_upto_region 1 with (fail)
  generalize hV : (w.alloc (.cells #[.int .i64 s.nb, .int .i64 s.nn, .int .i64 s.ns, .slice a1 s.books.length c1, .slice a2 s.notes.length c2] 28)).alloc (.cells #[.int .i64 0, .int .i64 0, .int .i64 0, .slice none 0 0, .slice none 0 0] 28) = V
  have gV : Grow w V := by rw [← hV]; exact ((Grow.refl w).alloc _).alloc _
  have HBX : Hid (V.heap[w.heap.size]? = some (shB s (.slice a1 s.books.length c1) (.slice a2 s.notes.length c2))) := by rw [← hV]; exact Lib.hid HXX.out.1
  have HRX : Hid (V.heap[w.heap.size + 1]? = some (shB ⟨0, 0, 0, [], []⟩ (.slice none 0 0) (.slice none 0 0))) := by rw [← hV]; exact Lib.hid HXX.out.2
  obtain ⟨⟨p0, p1, p2, p3, p4⟩, hpz⟩ := n5 HBX.out
  clear hV
  have cM1 := cM V gV
  cases hm : mayS s with
  | false =>
    have HM := Lib.hid hm
    rw [hm] at cM1
    clear hm cO
    go_wp2_with fail
    refine cM1.mono ?_
    rintro e w1 ⟨rfl, g1⟩
    clear cM1 p0 p1 p2 p3 p4
    have HE := Lib.hid (show retitleR s id t = bad 2 from res_bad (by unfold retitleE; rw [if_pos HM.out]) (by decide) _ _)
    obtain ⟨⟨e0, e1, e2, e3, e4⟩, hez⟩ := n5 (g1.blk HRX.out)
    have f0 := frozen_of_row _ (w.heap.size + 1) 0 _ _ (g1.blk HRX.out)
    have f1 := frozen_of_row _ (w.heap.size + 1) 1 _ _ (g1.blk HRX.out)
    have f2 := frozen_of_row _ (w.heap.size + 1) 2 _ _ (g1.blk HRX.out)
    have f3 := frozen_of_row _ (w.heap.size + 1) 3 _ _ (g1.blk HRX.out)
    have f4 := frozen_of_row _ (w.heap.size + 1) 4 _ _ (g1.blk HRX.out)
    go_wp2_with fail
    refine bodyPost_ret (v := .tuple #[.agg #[.int .i64 0, .int .i64 0, .int .i64 0, .slice none 0 0, .slice none 0 0], .int .i64 2]) ?_ rfl ?_
    · rw [results_cell_tmp rfl]
      go_simp
    · refine ret_badC HE.out ?_
      repeat' (first | with_reducible exact gV.trans g1 | with_reducible refine Grow.set ?_ (by first | (simp; done) | (simp; omega)) _)
  | true =>
    have HM := Lib.hid hm
    rw [hm] at cM1
    clear hm
    go_wp2_with fail
    refine cM1.mono ?_
    rintro e w1 ⟨rfl, g1⟩
    clear cM1 p0 p1 p2 p3 p4
    obtain ⟨⟨p0, p1, p2, p3, p4⟩, hpz⟩ := n5 (g1.blk HBX.out)
    have cK1 := cK _ (gV.trans g1)
    by_cases hi : noteIx s id < 0
    · have HI := Lib.hid hi
      clear cO cN
      go_wp2_with fail
      refine cK1.mono ?_
      rintro e w2 ⟨rfl, g2⟩
      have gg := g1.trans g2
      clear cK1 g2 p0 p1 p2 p3 p4 hpz
      have HE := Lib.hid (show retitleR s id t = bad 4 from res_bad (by unfold retitleE; rw [if_neg (by rw [HM.out]; simp), if_pos HI.out]) (by decide) _ _)
      obtain ⟨⟨e0, e1, e2, e3, e4⟩, hez⟩ := n5 (gg.blk HRX.out)
      have f0 := frozen_of_row _ (w.heap.size + 1) 0 _ _ (gg.blk HRX.out)
      have f1 := frozen_of_row _ (w.heap.size + 1) 1 _ _ (gg.blk HRX.out)
      have f2 := frozen_of_row _ (w.heap.size + 1) 2 _ _ (gg.blk HRX.out)
      have f3 := frozen_of_row _ (w.heap.size + 1) 3 _ _ (gg.blk HRX.out)
      have f4 := frozen_of_row _ (w.heap.size + 1) 4 _ _ (gg.blk HRX.out)
      go_wp2_with fail
      refine bodyPost_ret (v := .tuple #[.agg #[.int .i64 0, .int .i64 0, .int .i64 0, .slice none 0 0, .slice none 0 0], .int .i64 4]) ?_ rfl ?_
      · rw [results_cell_tmp rfl]
        go_simp
      · refine ret_badC HE.out ?_
        repeat' (first | with_reducible exact gV.trans gg | with_reducible refine Grow.set ?_ (by first | (simp; done) | (simp; omega)) _)
    · have HI := Lib.hid hi
      obtain ⟨i, hii⟩ : ∃ i : Nat, noteIx s id = i := ⟨(noteIx s id).toNat, by omega⟩
      have HII := Lib.hid hii
      have HNO := Lib.hid (noteOf_get (s := s) (id := id) (by omega))
      rw [hii] at cK1 hi hnd
      have hil : (i : Int) < s.notes.length := by omega
      have hil2 : i < s.notes.length := by omega
      clear hii hnd
      go_wp2_with fail
      refine cK1.mono ?_
      rintro e w2 ⟨rfl, g2⟩
      have gg := g1.trans g2
      clear cK1 g2 p0 p1 p2 p3 p4 hpz
      obtain ⟨⟨p0, p1, p2, p3, p4⟩, hpz⟩ := n5 (gg.blk HBX.out)
      obtain ⟨x, hx⟩ : ∃ x, x = noteOf s id := ⟨_, rfl⟩
      have hxi : s.notes[i]? = some x := by
        have h9 := HNO.out.1
        rw [HII.out, Int.toNat_natCast] at h9
        rw [hx]; exact h9
      obtain ⟨nb, off, tv, sv, ea, hnb, -, n1, -, -, -, -, -⟩ := Notes.at (Notes.grow HH.out.2 (gV.trans gg)) hxi
      have hxid : x.id = id := by rw [hx]; exact HNO.out.2
      have HXI := Lib.hid hxi
      have HXID := Lib.hid hxid
      have HX := Lib.hid hx
      have cN1 := fun W (g : Grow w W) => cN x.book W g
      clear hx hxi hxid cN
      subst ea
      rcases noteNE_cases s x.book id t with ⟨hb, h1⟩ | ⟨hb, h1, h2⟩ | ⟨hb, h1, h2⟩
      · have HN := Lib.hid h1
        simp only [hb] at cN1
        clear hb h1 cO
        have kT := fun y : Gr w2 => cN1 y.W ((gV.trans gg).trans y.g)
        go_upto_region 6 with (fail)
        refine wp_region_gr (by kernel_rfl) (by kernel_rfl) ?_
        repeat (go_big_quiet_step (first | (go_at_call 74; exact Calls.gr (kT _))))
        refine wpQuiet_nil ?_
        rintro _ ⟨y, rfl⟩
        have gh := gg.trans y.g
        generalize y.W = wy at *
        clear kT cN1 p0 p1 p2 p3 p4 hpz n1 hnb y
        have HE := Lib.hid (show retitleR s id t = bad 6 from res_bad (by unfold retitleE; rw [if_neg (by rw [HM.out]; simp), if_neg (by have := HI.out; omega), if_pos HN.out]) (by decide) _ _)
        obtain ⟨⟨e0, e1, e2, e3, e4⟩, hez⟩ := n5 (gh.blk HRX.out)
        have f0 := frozen_of_row _ (w.heap.size + 1) 0 _ _ (gh.blk HRX.out)
        have f1 := frozen_of_row _ (w.heap.size + 1) 1 _ _ (gh.blk HRX.out)
        have f2 := frozen_of_row _ (w.heap.size + 1) 2 _ _ (gh.blk HRX.out)
        have f3 := frozen_of_row _ (w.heap.size + 1) 3 _ _ (gh.blk HRX.out)
        have f4 := frozen_of_row _ (w.heap.size + 1) 4 _ _ (gh.blk HRX.out)
        go_wp2_with fail
        refine bodyPost_ret (v := .tuple #[.agg #[.int .i64 0, .int .i64 0, .int .i64 0, .slice none 0 0, .slice none 0 0], .int .i64 6]) ?_ rfl ?_
        · rw [results_cell_tmp rfl]
          go_simp
        · refine ret_badC HE.out ?_
          repeat' (first | with_reducible exact gV.trans gh | with_reducible refine Grow.set ?_ (by first | (simp; done) | (simp; omega)) _)
      · have HN := Lib.hid h1
        have HD := Lib.hid h2
        simp only [hb] at cN1
        clear hb h1 h2 cO
        have kT := fun y : Gr w2 => cN1 y.W ((gV.trans gg).trans y.g)
        go_upto_region 6 with (fail)
        refine wp_region_gr (by kernel_rfl) (by kernel_rfl) ?_
        repeat (go_big_quiet_step (first | (go_at_call 74; exact Calls.gr (kT _))))
        refine wpQuiet_nil ?_
        rintro _ ⟨y, rfl⟩
        have gh := gg.trans y.g
        generalize y.W = wy at *
        clear kT cN1 p0 p1 p2 p3 p4 hpz n1 hnb y
        have HE := Lib.hid (show retitleR s id t = bad 7 from res_bad (by unfold retitleE; rw [if_neg (by rw [HM.out]; simp), if_neg (by have := HI.out; omega), if_neg (by rw [HN.out]; simp), if_pos (by rw [← HX.out]; exact HD.out)]) (by decide) _ _)
        obtain ⟨⟨e0, e1, e2, e3, e4⟩, hez⟩ := n5 (gh.blk HRX.out)
        have f0 := frozen_of_row _ (w.heap.size + 1) 0 _ _ (gh.blk HRX.out)
        have f1 := frozen_of_row _ (w.heap.size + 1) 1 _ _ (gh.blk HRX.out)
        have f2 := frozen_of_row _ (w.heap.size + 1) 2 _ _ (gh.blk HRX.out)
        have f3 := frozen_of_row _ (w.heap.size + 1) 3 _ _ (gh.blk HRX.out)
        have f4 := frozen_of_row _ (w.heap.size + 1) 4 _ _ (gh.blk HRX.out)
        go_wp2_with fail
        refine bodyPost_ret (v := .tuple #[.agg #[.int .i64 0, .int .i64 0, .int .i64 0, .slice none 0 0, .slice none 0 0], .int .i64 7]) ?_ rfl ?_
        · rw [results_cell_tmp rfl]
          go_simp
        · refine ret_badC HE.out ?_
          repeat' (first | with_reducible exact gV.trans gh | with_reducible refine Grow.set ?_ (by first | (simp; done) | (simp; omega)) _)
      · have HN := Lib.hid h1
        have HD := Lib.hid h2
        simp only [hb] at cN1
        clear hb h1 h2
        have kT := fun y : Gr w2 => cN1 y.W ((gV.trans gg).trans y.g)
        go_upto_region 6 with (fail)
        refine wp_region_gr (by kernel_rfl) (by kernel_rfl) ?_
        repeat (go_big_quiet_step (first | (go_at_call 74; exact Calls.gr (kT _))))
        refine wpQuiet_nil ?_
        rintro _ ⟨y, rfl⟩
        have gh := gg.trans y.g
        generalize y.W = wy at *
        clear kT cN1 p0 p1 p2 p3 p4 hpz n1 hnb y
        obtain ⟨⟨p0, p1, p2, p3, p4⟩, hpz⟩ := n5 (gh.blk HBX.out)
        have hez : retitleE s id t = 0 := retitleE_zero.2 ⟨HM.out, by have := HI.out; omega, HN.out, by rw [← HX.out]; exact HD.out⟩
        have HMY := Lib.hid (mayS_iff.1 HM.out)
        have HE := Lib.hid (show retitleR s id t = ⟨{ s with notes := updN id (fun n => { n with name := t }) s.notes }, 0, 0⟩ from resOf_ok hez _ _)
        clear hez
        have cO1 := cO _ (gV.trans gh)
        go_wp2_with fail
        refine cO1.mono ?_
        rintro e w3 ⟨bv', nv', Y, rfl, ho, hmap, g3⟩
        have hs : StB w w.heap.size (w.heap.size + 1) s.nb s.nn s.ns bv' nv' s.books Y (((((w3.setCell ⟨w.heap.size, 0, none⟩ (.int .i64 s.nb)).setCell ⟨w.heap.size, 1, none⟩ (.int .i64 s.nn)).setCell ⟨w.heap.size, 2, none⟩ (.int .i64 s.ns)).setCell ⟨w.heap.size, 3, none⟩ bv').setCell ⟨w.heap.size, 4, none⟩ nv') := StB.start (s := s) (D := w.heap.size + 1) gV HBX.out HRX.out gh g3 ho ⟨Nat.le_refl _, by omega, by omega⟩
        obtain ⟨ba, bc, ebv, -⟩ := ho.books.slice
        obtain ⟨na, nc, env, -⟩ := ho.notes.slice
        have hYl : Y.length = s.notes.length := by rw [← hmap, List.length_map]
        rw [hYl] at env
        have HMAP := Lib.hid hmap
        have HYL := Lib.hid hYl
        subst ebv env
        obtain ⟨⟨p0', p1', p2', p3', p4'⟩, hpz'⟩ := n5 ((gh.trans g3).blk HBX.out)
        have HF3 := Lib.hid (frozen_of_row w3 w.heap.size 0 _ _ ((gh.trans g3).blk HBX.out))
        have ff : ∀ j, w3.frozen? ⟨w.heap.size, j, none⟩ = false := fun j => frozen_of_row w3 w.heap.size j _ _ ((gh.trans g3).blk HBX.out)
        have ff0 := ff 0
        have ff1 := ff 1
        have ff2 := ff 2
        have ff3 := ff 3
        have ff4 := ff 4
        have HOW3 := Lib.hid ho
        have HG3 := Lib.hid (gh.trans g3)
        have hw3 : w.heap.size < w3.heap.size := hpz'
        clear cO1 cO ho hmap g3 hYl p0 p1 p2 p3 p4 ff
        unfold shelfV
        go_upto_region 10 with (fail)
        generalize ((((w3.setCell ⟨w.heap.size, 0, none⟩ (.int .i64 s.nb)).setCell ⟨w.heap.size, 1, none⟩ (.int .i64 s.nn)).setCell ⟨w.heap.size, 2, none⟩ (.int .i64 s.ns)).setCell ⟨w.heap.size, 3, none⟩ (.slice ba s.books.length bc)).setCell ⟨w.heap.size, 4, none⟩ (.slice na s.notes.length nc) = W at *
        have HS := Lib.hid hs
        obtain ⟨⟨p0, p1, p2, p3, p4⟩, hpz⟩ := hs.five
        have hb3 := hs.boxF 3
        have hb4 := hs.boxF 4
        clear hs p0' p1' p2' p3' p4' ff0 ff1 ff2 ff3 ff4 hpz'
        obtain ⟨z, hz, hzn⟩ := nv_get HMAP.out HXI.out
        obtain ⟨b, cc, ebb, hbz, -, -, hcl⟩ := HS.out.own.note hz
        rw [HYL.out] at ebb
        injection ebb with eb1 eb2 eb3
        subst eb1 eb3
        have q1 := (hcl 2 _ rfl).1
        have qf := (hcl 2 _ rfl).2
        have HS2 := Lib.hid (HS.out.setN hz t (by rw [HYL.out]))
        have HMQ := Lib.hid (map_setN HMY.out.ninc HMAP.out hz (z := { z with n := { z.n with name := t } }) (fun n => { n with name := t }) rfl (show z.n.id = id by rw [hzn]; exact HXID.out))
        clear hcl hz hzn
        go_upto_region 11 with (fail)
        generalize W.setCell ⟨b, i * 5 + 2, none⟩ (.string t) = W2 at *
        clear p0 p1 p2 p3 p4 hpz hb3 hb4 HS q1 qf
        obtain ⟨⟨p0, p1, p2, p3, p4⟩, hpz⟩ := HS2.out.five
        obtain ⟨⟨e0, e1, e2, e3, e4⟩, hez⟩ := HS2.out.res5
        have f0 := HS2.out.resF 0
        have f1 := HS2.out.resF 1
        have f2 := HS2.out.resF 2
        have f3 := HS2.out.resF 3
        have f4 := HS2.out.resF 4
        have HOD := Lib.hid HS2.out.fin
        go_wp2_with fail
        refine bodyPost_ret (v := .tuple #[.agg #[.int .i64 s.nb, .int .i64 s.nn, .int .i64 s.ns, .slice ba s.books.length bc, .slice (some ⟨b, 0, none⟩) s.notes.length nc], .int .i64 0]) ?_ rfl ?_
        · rw [results_cell_tmp rfl]
          go_simp
        · refine ret_okC (D := w.heap.size + 1) (s := { s with notes := updN id (fun n => { n with name := t }) s.notes }) HE.out ?_ HMQ.out
          repeat' (first | with_reducible exact HOD.out | with_reducible refine OwnD2.drew ?_ | with_reducible refine OwnD2.set ?_ (by omega) _ _)
end Go.Proofs.YtnajccljdjllgaaDoor
set_option linter.unusedVariables false
set_option linter.unusedSimpArgs false
namespace Go.Proofs.YtnajccljdjllgaaDoor
open Go.RowKit Go.Lib
set_option maxRecDepth 100000 in
set_option maxHeartbeats 4000000 in
theorem refMove_any (s : Shelf) (bv nv : Value) (id q : Int) (w : World) (h : ShelfR w s bv nv) (hz : TameS s) (hT : Tabs w) :
    Calls Tryd.prog 36 #[shelfV s bv nv, .int .i64 id, .int .i64 q] w (RetC (moveR s id q) w) := by
  have cM := fun W (g : Grow w W) => refMay_any s bv nv W (h.grow g) hz
  have cO := fun W (g : Grow w W) => copy_any s bv nv W (h.grow g) hz.1
  have cK : ∀ W, Grow w W → Calls Tryd.prog 76 #[shelfV s bv nv, .int .i64 id] W fun e w' => e = .returned (.int .i64 (noteIx s id)) ∧ Grow W w' := fun W g => refNote_any s bv nv id W (h.grow g) (by have := hz.1.2.1; omega)
  have cB : ∀ W, Grow w W → Calls Tryd.prog 68 #[shelfV s bv nv, .int .i64 q] W fun e w' => e = .returned (.int .i64 (bookIx s q)) ∧ Grow W w' := fun W g => refBook_any s bv nv q W (h.grow g) (by have := hz.1.1; omega)
  have cN := fun t (ht : t.size ≤ 1000000000) W (g : Grow w W) => refNoteName_any s bv nv q id t W (h.grow g) (by have := hz.1.2.1; omega) ht
  have HH := Lib.hid h
  have hbl := hz.1.1
  have hnl := hz.1.2.1
  have hbd := idx_bd (fun x : Book => x.id == id) s.books
  have hnd := idx_bd (fun x : Note => x.id == id) s.notes
  rw [show idx (fun x : Book => x.id == id) s.books = bookIx s id from rfl] at hbd
  rw [show idx (fun x : Note => x.id == id) s.notes = noteIx s id from rfl] at hnd
  obtain ⟨a1, c1, rfl⟩ := h.1.mk
  obtain ⟨a2, c2, rfl⟩ := h.2.mk
  have HXX := Lib.hid (two_boxes2 w (shB s (.slice a1 s.books.length c1) (.slice a2 s.notes.length c2)) (shB ⟨0, 0, 0, [], []⟩ (.slice none 0 0) (.slice none 0 0)))
  clear h hz hT
  unfold shelfV at *
  go_enter Tryd.func36, Tryd.ntmps36
  go_upto_region 1 with (fail)
  generalize hV : (w.alloc (.cells #[.int .i64 s.nb, .int .i64 s.nn, .int .i64 s.ns, .slice a1 s.books.length c1, .slice a2 s.notes.length c2] 28)).alloc (.cells #[.int .i64 0, .int .i64 0, .int .i64 0, .slice none 0 0, .slice none 0 0] 28) = V
  have gV : Grow w V := by rw [← hV]; exact ((Grow.refl w).alloc _).alloc _
  have HBX : Hid (V.heap[w.heap.size]? = some (shB s (.slice a1 s.books.length c1) (.slice a2 s.notes.length c2))) := by rw [← hV]; exact Lib.hid HXX.out.1
  have HRX : Hid (V.heap[w.heap.size + 1]? = some (shB ⟨0, 0, 0, [], []⟩ (.slice none 0 0) (.slice none 0 0))) := by rw [← hV]; exact Lib.hid HXX.out.2
  obtain ⟨⟨p0, p1, p2, p3, p4⟩, hpz⟩ := n5 HBX.out
  clear hV
  have cM1 := cM V gV
  cases hm : mayS s with
  | false =>
    have HM := Lib.hid hm
    rw [hm] at cM1
    clear hm cO
    go_wp2_with fail
    refine cM1.mono ?_
    rintro e w1 ⟨rfl, g1⟩
    clear cM1 p0 p1 p2 p3 p4
    have HE := Lib.hid (show moveR s id q = bad 2 from res_bad (by unfold moveE; rw [if_pos HM.out]) (by decide) _ _)
    obtain ⟨⟨e0, e1, e2, e3, e4⟩, hez⟩ := n5 (g1.blk HRX.out)
    have f0 := frozen_of_row _ (w.heap.size + 1) 0 _ _ (g1.blk HRX.out)
    have f1 := frozen_of_row _ (w.heap.size + 1) 1 _ _ (g1.blk HRX.out)
    have f2 := frozen_of_row _ (w.heap.size + 1) 2 _ _ (g1.blk HRX.out)
    have f3 := frozen_of_row _ (w.heap.size + 1) 3 _ _ (g1.blk HRX.out)
    have f4 := frozen_of_row _ (w.heap.size + 1) 4 _ _ (g1.blk HRX.out)
    go_wp2_with fail
    refine bodyPost_ret (v := .tuple #[.agg #[.int .i64 0, .int .i64 0, .int .i64 0, .slice none 0 0, .slice none 0 0], .int .i64 2]) ?_ rfl ?_
    · rw [results_cell_tmp rfl]
      go_simp
    · refine ret_badC HE.out ?_
      repeat' (first | with_reducible exact gV.trans g1 | with_reducible refine Grow.set ?_ (by first | (simp; done) | (simp; omega)) _)
  | true =>
    have HM := Lib.hid hm
    rw [hm] at cM1
    clear hm
    go_wp2_with fail
    refine cM1.mono ?_
    rintro e w1 ⟨rfl, g1⟩
    clear cM1 p0 p1 p2 p3 p4
    obtain ⟨⟨p0, p1, p2, p3, p4⟩, hpz⟩ := n5 (g1.blk HBX.out)
    have cK1 := cK _ (gV.trans g1)
    by_cases hi : noteIx s id < 0
    · have HI := Lib.hid hi
      clear cO cN cB
      go_wp2_with fail
      refine cK1.mono ?_
      rintro e w2 ⟨rfl, g2⟩
      have gg := g1.trans g2
      clear cK1 g2 p0 p1 p2 p3 p4 hpz
      have HE := Lib.hid (show moveR s id q = bad 4 from res_bad (by unfold moveE; rw [if_neg (by rw [HM.out]; simp), if_pos (.inl HI.out)]) (by decide) _ _)
      obtain ⟨⟨e0, e1, e2, e3, e4⟩, hez⟩ := n5 (gg.blk HRX.out)
      have f0 := frozen_of_row _ (w.heap.size + 1) 0 _ _ (gg.blk HRX.out)
      have f1 := frozen_of_row _ (w.heap.size + 1) 1 _ _ (gg.blk HRX.out)
      have f2 := frozen_of_row _ (w.heap.size + 1) 2 _ _ (gg.blk HRX.out)
      have f3 := frozen_of_row _ (w.heap.size + 1) 3 _ _ (gg.blk HRX.out)
      have f4 := frozen_of_row _ (w.heap.size + 1) 4 _ _ (gg.blk HRX.out)
      go_wp2_with fail
      refine bodyPost_ret (v := .tuple #[.agg #[.int .i64 0, .int .i64 0, .int .i64 0, .slice none 0 0, .slice none 0 0], .int .i64 4]) ?_ rfl ?_
      · rw [results_cell_tmp rfl]
        go_simp
      · refine ret_badC HE.out ?_
        repeat' (first | with_reducible exact gV.trans gg | with_reducible refine Grow.set ?_ (by first | (simp; done) | (simp; omega)) _)
    · have HI := Lib.hid hi
      obtain ⟨i, hii⟩ : ∃ i : Nat, noteIx s id = i := ⟨(noteIx s id).toNat, by omega⟩
      have HII := Lib.hid hii
      have HNO := Lib.hid (noteOf_get (s := s) (id := id) (by omega))
      rw [hii] at cK1 hi hnd
      have hil : (i : Int) < s.notes.length := by omega
      have hil2 : i < s.notes.length := by omega
      clear hii hnd
      go_wp2_with fail
      refine cK1.mono ?_
      rintro e w2 ⟨rfl, g2⟩
      have gg := g1.trans g2
      clear cK1 g2 p0 p1 p2 p3 p4 hpz
      obtain ⟨⟨p0, p1, p2, p3, p4⟩, hpz⟩ := n5 (gg.blk HBX.out)
      have cB1 := cB _ (gV.trans gg)
      by_cases hq : bookIx s q < 0
      · have HQ := Lib.hid hq
        clear cO cN
        go_wp2_with fail
        refine cB1.mono ?_
        rintro e w3 ⟨rfl, g3⟩
        have gh := gg.trans g3
        clear cB1 g3 p0 p1 p2 p3 p4 hpz
        have HE := Lib.hid (show moveR s id q = bad 4 from res_bad (by unfold moveE; rw [if_neg (by rw [HM.out]; simp), if_pos (.inr HQ.out)]) (by decide) _ _)
        obtain ⟨⟨e0, e1, e2, e3, e4⟩, hez⟩ := n5 (gh.blk HRX.out)
        have f0 := frozen_of_row _ (w.heap.size + 1) 0 _ _ (gh.blk HRX.out)
        have f1 := frozen_of_row _ (w.heap.size + 1) 1 _ _ (gh.blk HRX.out)
        have f2 := frozen_of_row _ (w.heap.size + 1) 2 _ _ (gh.blk HRX.out)
        have f3 := frozen_of_row _ (w.heap.size + 1) 3 _ _ (gh.blk HRX.out)
        have f4 := frozen_of_row _ (w.heap.size + 1) 4 _ _ (gh.blk HRX.out)
        go_wp2_with fail
        refine bodyPost_ret (v := .tuple #[.agg #[.int .i64 0, .int .i64 0, .int .i64 0, .slice none 0 0, .slice none 0 0], .int .i64 4]) ?_ rfl ?_
        · rw [results_cell_tmp rfl]
          go_simp
        · refine ret_badC HE.out ?_
          repeat' (first | with_reducible exact gV.trans gh | with_reducible refine Grow.set ?_ (by first | (simp; done) | (simp; omega)) _)
      · have HQ := Lib.hid hq
        go_wp2_with fail
        refine cB1.mono ?_
        rintro e wq ⟨rfl, g3⟩
        have gi := gg.trans g3
        clear cB1 g3 p0 p1 p2 p3 p4 hpz
        obtain ⟨⟨p0, p1, p2, p3, p4⟩, hpz⟩ := n5 (gi.blk HBX.out)
        have HMY := Lib.hid (mayS_iff.1 HM.out)
        obtain ⟨x, hx⟩ : ∃ x, x = noteOf s id := ⟨_, rfl⟩
        have hxi : s.notes[i]? = some x := by
          have h9 := HNO.out.1
          rw [HII.out, Int.toNat_natCast] at h9
          rw [hx]; exact h9
        obtain ⟨nb, off, tv, sv, ea, hnb, -, -, n2, -, -, -, -⟩ := Notes.at (Notes.grow HH.out.2 (gV.trans gi)) hxi
        have hxid : x.id = id := by rw [hx]; exact HNO.out.2
        have HXI := Lib.hid hxi
        have HXID := Lib.hid hxid
        have HX := Lib.hid hx
        have cN1 := fun W (g : Grow w W) => cN x.name (by have := mayB_small (HMY.out.nmay x (List.mem_of_getElem? HXI.out)); omega) W g
        clear hx hxi hxid cN
        subst ea
        rcases noteNE_cases s q id x.name with ⟨hb, h1⟩ | ⟨hb, h1, h2⟩ | ⟨hb, h1, h2⟩
        · exact absurd h1 (by rw [HMY.out.nmay x (List.mem_of_getElem? HXI.out)]; simp)
        · have HN := Lib.hid h1
          have HD := Lib.hid h2
          simp only [hb] at cN1
          clear hb h1 h2 cO
          have kT := fun y : Gr wq => cN1 y.W ((gV.trans gi).trans y.g)
          go_upto_region 6 with (fail)
          refine wp_region_gr (by kernel_rfl) (by kernel_rfl) ?_
          repeat (go_big_quiet_step (first | (go_at_call 74; exact Calls.gr (kT _))))
          refine wpQuiet_nil ?_
          rintro _ ⟨y, rfl⟩
          have gh := gi.trans y.g
          generalize y.W = wy at *
          clear kT cN1 p0 p1 p2 p3 p4 hpz n2 hnb y
          have HE := Lib.hid (show moveR s id q = bad 7 from res_bad (by unfold moveE; rw [if_neg (by rw [HM.out]; simp), if_neg (by have := HI.out; have := HQ.out; omega), if_pos (by rw [← HX.out]; exact HD.out)]) (by decide) _ _)
          obtain ⟨⟨e0, e1, e2, e3, e4⟩, hez⟩ := n5 (gh.blk HRX.out)
          have f0 := frozen_of_row _ (w.heap.size + 1) 0 _ _ (gh.blk HRX.out)
          have f1 := frozen_of_row _ (w.heap.size + 1) 1 _ _ (gh.blk HRX.out)
          have f2 := frozen_of_row _ (w.heap.size + 1) 2 _ _ (gh.blk HRX.out)
          have f3 := frozen_of_row _ (w.heap.size + 1) 3 _ _ (gh.blk HRX.out)
          have f4 := frozen_of_row _ (w.heap.size + 1) 4 _ _ (gh.blk HRX.out)
          go_wp2_with fail
          refine bodyPost_ret (v := .tuple #[.agg #[.int .i64 0, .int .i64 0, .int .i64 0, .slice none 0 0, .slice none 0 0], .int .i64 7]) ?_ rfl ?_
          · rw [results_cell_tmp rfl]
            go_simp
          · refine ret_badC HE.out ?_
            repeat' (first | with_reducible exact gV.trans gh | with_reducible refine Grow.set ?_ (by first | (simp; done) | (simp; omega)) _)
        · have HN := Lib.hid h1
          have HD := Lib.hid h2
          simp only [hb] at cN1
          clear hb h1 h2
          have kT := fun y : Gr wq => cN1 y.W ((gV.trans gi).trans y.g)
          go_upto_region 6 with (fail)
          refine wp_region_gr (by kernel_rfl) (by kernel_rfl) ?_
          repeat (go_big_quiet_step (first | (go_at_call 74; exact Calls.gr (kT _))))
          refine wpQuiet_nil ?_
          rintro _ ⟨y, rfl⟩
          have gh := gi.trans y.g
          generalize y.W = wy at *
          clear kT cN1 p0 p1 p2 p3 p4 hpz n2 hnb y
          obtain ⟨⟨p0, p1, p2, p3, p4⟩, hpz⟩ := n5 (gh.blk HBX.out)
          have hez : moveE s id q = 0 := moveE_zero.2 ⟨HM.out, by have := HI.out; omega, by have := HQ.out; omega, by rw [← HX.out]; exact HD.out⟩
          have HE := Lib.hid (show moveR s id q = ⟨{ s with notes := updN id (fun n => { n with book := q }) s.notes }, 0, 0⟩ from resOf_ok hez _ _)
          clear hez
          have cO1 := cO _ (gV.trans gh)
          go_wp2_with fail
          refine cO1.mono ?_
          rintro e w3 ⟨bv', nv', Y, rfl, ho, hmap, g3⟩
          have hs : StB w w.heap.size (w.heap.size + 1) s.nb s.nn s.ns bv' nv' s.books Y (((((w3.setCell ⟨w.heap.size, 0, none⟩ (.int .i64 s.nb)).setCell ⟨w.heap.size, 1, none⟩ (.int .i64 s.nn)).setCell ⟨w.heap.size, 2, none⟩ (.int .i64 s.ns)).setCell ⟨w.heap.size, 3, none⟩ bv').setCell ⟨w.heap.size, 4, none⟩ nv') := StB.start (s := s) (D := w.heap.size + 1) gV HBX.out HRX.out gh g3 ho ⟨Nat.le_refl _, by omega, by omega⟩
          obtain ⟨ba, bc, ebv, -⟩ := ho.books.slice
          obtain ⟨na, nc, env, -⟩ := ho.notes.slice
          have hYl : Y.length = s.notes.length := by rw [← hmap, List.length_map]
          rw [hYl] at env
          have HMAP := Lib.hid hmap
          have HYL := Lib.hid hYl
          subst ebv env
          obtain ⟨⟨p0', p1', p2', p3', p4'⟩, hpz'⟩ := n5 ((gh.trans g3).blk HBX.out)
          have HF3 := Lib.hid (frozen_of_row w3 w.heap.size 0 _ _ ((gh.trans g3).blk HBX.out))
          have ff : ∀ j, w3.frozen? ⟨w.heap.size, j, none⟩ = false := fun j => frozen_of_row w3 w.heap.size j _ _ ((gh.trans g3).blk HBX.out)
          have ff0 := ff 0
          have ff1 := ff 1
          have ff2 := ff 2
          have ff3 := ff 3
          have ff4 := ff 4
          have HOW3 := Lib.hid ho
          have HG3 := Lib.hid (gh.trans g3)
          have hw3 : w.heap.size < w3.heap.size := hpz'
          clear cO1 cO ho hmap g3 hYl p0 p1 p2 p3 p4 ff
          unfold shelfV
          go_upto_region 10 with (fail)
          generalize ((((w3.setCell ⟨w.heap.size, 0, none⟩ (.int .i64 s.nb)).setCell ⟨w.heap.size, 1, none⟩ (.int .i64 s.nn)).setCell ⟨w.heap.size, 2, none⟩ (.int .i64 s.ns)).setCell ⟨w.heap.size, 3, none⟩ (.slice ba s.books.length bc)).setCell ⟨w.heap.size, 4, none⟩ (.slice na s.notes.length nc) = W at *
          have HS := Lib.hid hs
          obtain ⟨⟨p0, p1, p2, p3, p4⟩, hpz⟩ := hs.five
          have hb3 := hs.boxF 3
          have hb4 := hs.boxF 4
          clear hs p0' p1' p2' p3' p4' ff0 ff1 ff2 ff3 ff4 hpz'
          obtain ⟨z, hz, hzn⟩ := nv_get HMAP.out HXI.out
          obtain ⟨b, cc, ebb, hbz, -, -, hcl⟩ := HS.out.own.note hz
          rw [HYL.out] at ebb
          injection ebb with eb1 eb2 eb3
          subst eb1 eb3
          have q1 := (hcl 1 _ rfl).1
          have qf := (hcl 1 _ rfl).2
          have HS2 := Lib.hid (HS.out.setQ hz q (by rw [HYL.out]))
          have HMQ := Lib.hid (map_setN HMY.out.ninc HMAP.out hz (z := { z with n := { z.n with book := q } }) (fun n => { n with book := q }) rfl (show z.n.id = id by rw [hzn]; exact HXID.out))
          clear hcl hz hzn
          go_upto_region 11 with (fail)
          generalize W.setCell ⟨b, i * 5 + 1, none⟩ (.int .i64 q) = W2 at *
          clear p0 p1 p2 p3 p4 hpz hb3 hb4 HS q1 qf
          obtain ⟨⟨p0, p1, p2, p3, p4⟩, hpz⟩ := HS2.out.five
          obtain ⟨⟨e0, e1, e2, e3, e4⟩, hez⟩ := HS2.out.res5
          have f0 := HS2.out.resF 0
          have f1 := HS2.out.resF 1
          have f2 := HS2.out.resF 2
          have f3 := HS2.out.resF 3
          have f4 := HS2.out.resF 4
          have HOD := Lib.hid HS2.out.fin
          go_wp2_with fail
          refine bodyPost_ret (v := .tuple #[.agg #[.int .i64 s.nb, .int .i64 s.nn, .int .i64 s.ns, .slice ba s.books.length bc, .slice (some ⟨b, 0, none⟩) s.notes.length nc], .int .i64 0]) ?_ rfl ?_
          · rw [results_cell_tmp rfl]
            go_simp
          · refine ret_okC (D := w.heap.size + 1) (s := { s with notes := updN id (fun n => { n with book := q }) s.notes }) HE.out ?_ HMQ.out
            repeat' (first | with_reducible exact HOD.out | with_reducible refine OwnD2.drew ?_ | with_reducible refine OwnD2.set ?_ (by omega) _ _)
end Go.Proofs.YtnajccljdjllgaaDoor
set_option linter.unusedVariables false
set_option linter.unusedSimpArgs false
namespace Go.Proofs.YtnajccljdjllgaaDoor
open Go.RowKit Go.Lib
set_option maxRecDepth 100000 in
set_option maxHeartbeats 4000000 in
theorem refDiscard_any (s : Shelf) (bv nv : Value) (id : Int) (w : World) (h : ShelfR w s bv nv) (hz : TameS s) (hT : Tabs w) :
    Calls Tryd.prog 38 #[shelfV s bv nv, .int .i64 id] w (RetC (discardR s id) w) := by
  have cM := fun W (g : Grow w W) => refMay_any s bv nv W (h.grow g) hz
  obtain ⟨inn, hinn, innz0, innz1, innz2⟩ := info_parts info_note
  have cO := fun W (g : Grow w W) => copy_any s bv nv W (h.grow g) hz.1
  have cK : ∀ W, Grow w W → Calls Tryd.prog 76 #[shelfV s bv nv, .int .i64 id] W fun e w' => e = .returned (.int .i64 (noteIx s id)) ∧ Grow W w' := fun W g => refNote_any s bv nv id W (h.grow g) (by have := hz.1.2.1; omega)
  have hbl := hz.1.1
  have hnl := hz.1.2.1
  have hbd := idx_bd (fun x : Book => x.id == id) s.books
  have hnd := idx_bd (fun x : Note => x.id == id) s.notes
  rw [show idx (fun x : Book => x.id == id) s.books = bookIx s id from rfl] at hbd
  rw [show idx (fun x : Note => x.id == id) s.notes = noteIx s id from rfl] at hnd
  obtain ⟨a1, c1, rfl⟩ := h.1.mk
  obtain ⟨a2, c2, rfl⟩ := h.2.mk
  have HXX := Lib.hid (two_boxes2 w (shB s (.slice a1 s.books.length c1) (.slice a2 s.notes.length c2)) (shB ⟨0, 0, 0, [], []⟩ (.slice none 0 0) (.slice none 0 0)))
  clear h hz hT
  unfold shelfV at *
  go_enter Tryd.func38, Tryd.ntmps38
  go_upto_region 1 with (fail)
  generalize hV : (w.alloc (.cells #[.int .i64 s.nb, .int .i64 s.nn, .int .i64 s.ns, .slice a1 s.books.length c1, .slice a2 s.notes.length c2] 28)).alloc (.cells #[.int .i64 0, .int .i64 0, .int .i64 0, .slice none 0 0, .slice none 0 0] 28) = V
  have gV : Grow w V := by rw [← hV]; exact ((Grow.refl w).alloc _).alloc _
  have HBX : Hid (V.heap[w.heap.size]? = some (shB s (.slice a1 s.books.length c1) (.slice a2 s.notes.length c2))) := by rw [← hV]; exact Lib.hid HXX.out.1
  have HRX : Hid (V.heap[w.heap.size + 1]? = some (shB ⟨0, 0, 0, [], []⟩ (.slice none 0 0) (.slice none 0 0))) := by rw [← hV]; exact Lib.hid HXX.out.2
  obtain ⟨⟨p0, p1, p2, p3, p4⟩, hpz⟩ := n5 HBX.out
  clear hV
  have cM1 := cM V gV
  cases hm : mayS s with
  | false =>
    have HM := Lib.hid hm
    rw [hm] at cM1
    clear hm cO
    go_wp2_with fail
    refine cM1.mono ?_
    rintro e w1 ⟨rfl, g1⟩
    clear cM1 p0 p1 p2 p3 p4
    have HE := Lib.hid (show discardR s id = bad 2 from res_bad (by unfold noteE; rw [if_pos HM.out]) (by decide) _ _)
    obtain ⟨⟨e0, e1, e2, e3, e4⟩, hez⟩ := n5 (g1.blk HRX.out)
    have f0 := frozen_of_row _ (w.heap.size + 1) 0 _ _ (g1.blk HRX.out)
    have f1 := frozen_of_row _ (w.heap.size + 1) 1 _ _ (g1.blk HRX.out)
    have f2 := frozen_of_row _ (w.heap.size + 1) 2 _ _ (g1.blk HRX.out)
    have f3 := frozen_of_row _ (w.heap.size + 1) 3 _ _ (g1.blk HRX.out)
    have f4 := frozen_of_row _ (w.heap.size + 1) 4 _ _ (g1.blk HRX.out)
    go_wp2_with fail
    refine bodyPost_ret (v := .tuple #[.agg #[.int .i64 0, .int .i64 0, .int .i64 0, .slice none 0 0, .slice none 0 0], .int .i64 2]) ?_ rfl ?_
    · rw [results_cell_tmp rfl]
      go_simp
    · refine ret_badC HE.out ?_
      repeat' (first | with_reducible exact gV.trans g1 | with_reducible refine Grow.set ?_ (by first | (simp; done) | (simp; omega)) _)
  | true =>
    have HM := Lib.hid hm
    rw [hm] at cM1
    clear hm
    go_wp2_with fail
    refine cM1.mono ?_
    rintro e w1 ⟨rfl, g1⟩
    clear cM1 p0 p1 p2 p3 p4
    obtain ⟨⟨p0, p1, p2, p3, p4⟩, hpz⟩ := n5 (g1.blk HBX.out)
    have cK1 := cK _ (gV.trans g1)
    by_cases hi : noteIx s id < 0
    · have HI := Lib.hid hi
      clear cO
      go_wp2_with fail
      refine cK1.mono ?_
      rintro e w2 ⟨rfl, g2⟩
      have gg := g1.trans g2
      clear cK1 g2 p0 p1 p2 p3 p4 hpz
      have HE := Lib.hid (show discardR s id = bad 4 from res_bad (by unfold noteE; rw [if_neg (by rw [HM.out]; simp), if_pos HI.out]) (by decide) _ _)
      obtain ⟨⟨e0, e1, e2, e3, e4⟩, hez⟩ := n5 (gg.blk HRX.out)
      have f0 := frozen_of_row _ (w.heap.size + 1) 0 _ _ (gg.blk HRX.out)
      have f1 := frozen_of_row _ (w.heap.size + 1) 1 _ _ (gg.blk HRX.out)
      have f2 := frozen_of_row _ (w.heap.size + 1) 2 _ _ (gg.blk HRX.out)
      have f3 := frozen_of_row _ (w.heap.size + 1) 3 _ _ (gg.blk HRX.out)
      have f4 := frozen_of_row _ (w.heap.size + 1) 4 _ _ (gg.blk HRX.out)
      go_wp2_with fail
      refine bodyPost_ret (v := .tuple #[.agg #[.int .i64 0, .int .i64 0, .int .i64 0, .slice none 0 0, .slice none 0 0], .int .i64 4]) ?_ rfl ?_
      · rw [results_cell_tmp rfl]
        go_simp
      · refine ret_badC HE.out ?_
        repeat' (first | with_reducible exact gV.trans gg | with_reducible refine Grow.set ?_ (by first | (simp; done) | (simp; omega)) _)
    · have HI := Lib.hid hi
      obtain ⟨i, hii⟩ : ∃ i : Nat, noteIx s id = i := ⟨(noteIx s id).toNat, by omega⟩
      have HII := Lib.hid hii
      have HNO := Lib.hid (noteOf_get (s := s) (id := id) (by omega))
      rw [hii] at cK1 hi hnd
      have hil : (i : Int) < s.notes.length := by omega
      have hil2 : i < s.notes.length := by omega
      clear hii hnd
      go_wp2_with fail
      refine cK1.mono ?_
      rintro e w2 ⟨rfl, g2⟩
      have gg := g1.trans g2
      clear cK1 g2 p0 p1 p2 p3 p4 hpz
      obtain ⟨⟨p0, p1, p2, p3, p4⟩, hpz⟩ := n5 (gg.blk HBX.out)
      have hn0 := HNO.out
      rw [HII.out, Int.toNat_natCast] at hn0
      have HMY := Lib.hid (mayS_iff.1 HM.out)
      have HE := Lib.hid (show discardR s id = ⟨{ s with notes := s.notes.filter (fun n => !(n.id == id)) }, 0, 0⟩ from resOf_ok (noteE_zero.2 ⟨HM.out, by have := HI.out; omega⟩) _ _)
      have HER := Lib.hid (show s.notes.eraseIdx i = s.notes.filter (fun n => !(n.id == id)) by rw [erase_notes HMY.out hn0.1, hn0.2])
      clear hn0
      have cO1 := cO _ (gV.trans gg)
      go_wp2_with fail
      refine cO1.mono ?_
      rintro e w3 ⟨bv', nv', Y, rfl, ho, hmap, g3⟩
      have hs : StB w w.heap.size (w.heap.size + 1) s.nb s.nn s.ns bv' nv' s.books Y (((((w3.setCell ⟨w.heap.size, 0, none⟩ (.int .i64 s.nb)).setCell ⟨w.heap.size, 1, none⟩ (.int .i64 s.nn)).setCell ⟨w.heap.size, 2, none⟩ (.int .i64 s.ns)).setCell ⟨w.heap.size, 3, none⟩ bv').setCell ⟨w.heap.size, 4, none⟩ nv') := StB.start (s := s) (D := w.heap.size + 1) gV HBX.out HRX.out gg g3 ho ⟨Nat.le_refl _, by omega, by omega⟩
      obtain ⟨ba, bc, ebv, -⟩ := ho.books.slice
      obtain ⟨na, nc, env, -⟩ := ho.notes.slice
      have hYl : Y.length = s.notes.length := by rw [← hmap, List.length_map]
      rw [hYl] at env
      have HMAP := Lib.hid hmap
      have HYL := Lib.hid hYl
      subst ebv env
      obtain ⟨⟨p0', p1', p2', p3', p4'⟩, hpz'⟩ := n5 ((gg.trans g3).blk HBX.out)
      have HF3 := Lib.hid (frozen_of_row w3 w.heap.size 0 _ _ ((gg.trans g3).blk HBX.out))
      have ff : ∀ j, w3.frozen? ⟨w.heap.size, j, none⟩ = false := fun j => frozen_of_row w3 w.heap.size j _ _ ((gg.trans g3).blk HBX.out)
      have ff0 := ff 0
      have ff1 := ff 1
      have ff2 := ff 2
      have ff3 := ff 3
      have ff4 := ff 4
      have HOW3 := Lib.hid ho
      have HG3 := Lib.hid (gg.trans g3)
      have hw3 : w.heap.size < w3.heap.size := hpz'
      clear cO1 cO ho hmap g3 hYl p0 p1 p2 p3 p4 ff
      unfold shelfV
      go_upto_region 7 with (fail)
      generalize ((((w3.setCell ⟨w.heap.size, 0, none⟩ (.int .i64 s.nb)).setCell ⟨w.heap.size, 1, none⟩ (.int .i64 s.nn)).setCell ⟨w.heap.size, 2, none⟩ (.int .i64 s.ns)).setCell ⟨w.heap.size, 3, none⟩ (.slice ba s.books.length bc)).setCell ⟨w.heap.size, 4, none⟩ (.slice na s.notes.length nc) = W at *
      have HS := Lib.hid hs
      obtain ⟨⟨p0, p1, p2, p3, p4⟩, hpz⟩ := hs.five
      have hb3 := hs.boxF 3
      have hb4 := hs.boxF 4
      clear hs p0' p1' p2' p3' p4' ff0 ff1 ff2 ff3 ff4 hpz'
      obtain ⟨y, hy, -⟩ := lt_get (l := Y) (i := i) (by rw [HYL.out]; exact hil2)
      obtain ⟨b, cc, ebb, hbz, hcc, hbk0, -⟩ := HS.out.own.note hy
      rw [HYL.out] at ebb hcc
      injection ebb with eb1 eb2 eb3
      subst eb1 eb3
      clear hy
      have HROW := Lib.hid ((HS.out.own.notes).grow (Grow.refl W).drew)
      rw [HYL.out] at HROW
      have HBK := Lib.hid hbk0
      clear hbk0
      have hc0 : ¬ nc = 0 := by omega
      have hile : (i : Int) ≤ nc := by omega
      have hile2 : (i : Int) + 1 ≤ s.notes.length := by omega
      have hile3 : 0 ≤ (i : Int) + 1 := by omega
      have hile4 : (i : Int) ≤ (i : Int) + 1 := by omega
      have hwr : IntKind.i64.wrap ((i : Int) + 1) = ((i + 1 : Nat) : Int) := by have := IntWalk.i64_in ((i : Int) + 1) (by omega); omega
      rcases Classical.em (nc = i + 1) with rfl | hci
      · go_region_law (refine step_erase (P := Tryd.prog) (i := i) (l := Y) (base := w.heap.size) (b := b) (c := (i + 1)) noteC (fun _ => rfl) (by rfl) _ _ (by rfl) Tryd.underlying26 hinn innz0 innz1 innz2 (by rfl) (by decide) (n := s.notes.length) W.drew HROW.out HYL.out (by omega) HS.out.grow.drew.size (nv_one HS.out.own) (by omega) (by decide) (some ⟨b, 0, none⟩) 0 0 (by rfl) (by rfl) (by omega) (fun hlt => by first | (with_reducible rfl) | (exfalso; omega)) ?_; intro v' w4 ra; obtain ⟨hr, hg, hbk⟩ := ra; obtain ⟨va, vc, e3, -⟩ := hr.slice; subst e3; obtain ⟨k3, f3, z3, hs4⟩ := (HS.out.more (Grow.refl W).drew).subN (List.eraseIdx_sublist _ _) hr (by rw [HBK.out]; exact hg); have HS3 := Lib.hid hs4; clear hs4 hr hg hbk)
        all_goals
          obtain ⟨m, hm⟩ : ∃ m, m = (Y.eraseIdx i).length := ⟨_, rfl⟩
          rw [← hm] at HS3 ⊢
          have HMF := Lib.hid (show (Y.eraseIdx i).map NV.n = s.notes.filter (fun n => !(n.id == id)) by rw [map_erase, HMAP.out, HER.out])
          clear p0 p1 p2 p3 p4 hpz hb3 hb4 hm
          go_upto_region 8 with (fail)
          generalize w4.setCell ⟨w.heap.size, 4, none⟩ (.slice va m vc) = W3 at *
          clear k3 f3 z3 HS
          obtain ⟨⟨p0, p1, p2, p3, p4⟩, hpz⟩ := HS3.out.five
          obtain ⟨⟨e0, e1, e2, e3, e4⟩, hez⟩ := HS3.out.res5
          have f0 := HS3.out.resF 0
          have f1 := HS3.out.resF 1
          have f2 := HS3.out.resF 2
          have f3 := HS3.out.resF 3
          have f4 := HS3.out.resF 4
          have HOD := Lib.hid HS3.out.fin
          go_wp2_with fail
          refine bodyPost_ret (v := .tuple #[.agg #[.int .i64 s.nb, .int .i64 s.nn, .int .i64 s.ns, .slice ba s.books.length bc, .slice va m vc], .int .i64 0]) ?_ rfl ?_
          · rw [results_cell_tmp rfl]
            go_simp
          · refine ret_okC (D := w.heap.size + 1) (s := { s with notes := s.notes.filter (fun n => !(n.id == id)) }) HE.out ?_ HMF.out
            repeat' (first | with_reducible exact HOD.out | with_reducible refine OwnD2.drew ?_ | with_reducible refine OwnD2.set ?_ (by omega) _ _)
      · go_region_law (refine step_erase (P := Tryd.prog) (i := i) (l := Y) (base := w.heap.size) (b := b) (c := nc) noteC (fun _ => rfl) (by rfl) _ _ (by rfl) Tryd.underlying26 hinn innz0 innz1 innz2 (by rfl) (by decide) (n := s.notes.length) W.drew HROW.out HYL.out (by omega) HS.out.grow.drew.size (nv_one HS.out.own) (by omega) (by decide) (some ⟨b, (i + 1) * 5, none⟩) (s.notes.length - (i + 1)) (nc - (i + 1)) (by rfl) (by rfl) (by omega) (fun hlt => by first | (with_reducible rfl) | (exfalso; omega)) ?_; intro v' w4 ra; obtain ⟨hr, hg, hbk⟩ := ra; obtain ⟨va, vc, e3, -⟩ := hr.slice; subst e3; obtain ⟨k3, f3, z3, hs4⟩ := (HS.out.more (Grow.refl W).drew).subN (List.eraseIdx_sublist _ _) hr (by rw [HBK.out]; exact hg); have HS3 := Lib.hid hs4; clear hs4 hr hg hbk)
        all_goals
          obtain ⟨m, hm⟩ : ∃ m, m = (Y.eraseIdx i).length := ⟨_, rfl⟩
          rw [← hm] at HS3 ⊢
          have HMF := Lib.hid (show (Y.eraseIdx i).map NV.n = s.notes.filter (fun n => !(n.id == id)) by rw [map_erase, HMAP.out, HER.out])
          clear p0 p1 p2 p3 p4 hpz hb3 hb4 hm
          go_upto_region 8 with (fail)
          generalize w4.setCell ⟨w.heap.size, 4, none⟩ (.slice va m vc) = W3 at *
          clear k3 f3 z3 HS
          obtain ⟨⟨p0, p1, p2, p3, p4⟩, hpz⟩ := HS3.out.five
          obtain ⟨⟨e0, e1, e2, e3, e4⟩, hez⟩ := HS3.out.res5
          have f0 := HS3.out.resF 0
          have f1 := HS3.out.resF 1
          have f2 := HS3.out.resF 2
          have f3 := HS3.out.resF 3
          have f4 := HS3.out.resF 4
          have HOD := Lib.hid HS3.out.fin
          go_wp2_with fail
          refine bodyPost_ret (v := .tuple #[.agg #[.int .i64 s.nb, .int .i64 s.nn, .int .i64 s.ns, .slice ba s.books.length bc, .slice va m vc], .int .i64 0]) ?_ rfl ?_
          · rw [results_cell_tmp rfl]
            go_simp
          · refine ret_okC (D := w.heap.size + 1) (s := { s with notes := s.notes.filter (fun n => !(n.id == id)) }) HE.out ?_ HMF.out
            repeat' (first | with_reducible exact HOD.out | with_reducible refine OwnD2.drew ?_ | with_reducible refine OwnD2.set ?_ (by omega) _ _)
end Go.Proofs.YtnajccljdjllgaaDoor
