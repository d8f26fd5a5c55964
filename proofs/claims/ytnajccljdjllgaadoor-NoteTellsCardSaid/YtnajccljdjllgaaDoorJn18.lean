/- The walks of jotterref17.Note, bookName, noteName. A copy of a shelf in work, tags and sheets counted apart (jotterref17.Copy). The walk of jotterref17.Copy. An element taken out of a row of the call's own: append(l[:i], l[i+1:]..). The walks of jotterref18.at and has; what they answer. jotterref18.Tag. jotterref18.Untag. jotterref18.Append. The walk of jotterref18.Sheet. jotterref18.Replace. jotterref18.Remove. -/
import Derived.Test.YtnajccljdjllgaaDoorRefMay
import Derived.Test.YtnajccljdjllgaaDoorSt
import Derived.Test.YtnajccljdjllgaaDoorOwnW
import Derived.Test.YtnajccljdjllgaaDoorDelG
import Derived.Test.YtnajccljdjllgaaDoorNBase
import Derived.Test.YtnajccljdjllgaaDoorGr
import Derived.Deep.RegionLaw
import Derived.Deep.RegionHeld3
import Derived.Deep.DeepMust
import Derived.Test.YtnajccljdjllgaaDoorOutF
set_option linter.unusedVariables false
set_option linter.unusedSimpArgs false
namespace Go.Proofs.YtnajccljdjllgaaDoor
open Go.RowKit Go.Lib
def dupB (id : Int) (t : ByteArray) (x : Book) : Bool := (x.name.toList == t.toList) && (x.id != id)
def bookNE (s : Shelf) (id : Int) (t : ByteArray) : Int := if mayB t = false then 6 else if s.books.any (dupB id t) = true then 7 else 0
def noteNE (s : Shelf) (q id : Int) (t : ByteArray) : Int := if mayB t = false then 6 else if s.notes.any (titleB q t id) = true then 7 else 0
theorem bookNE_cases (s : Shelf) (id : Int) (t : ByteArray) : (bookNE s id t = 6 ∧ mayB t = false) ∨ (bookNE s id t = 7 ∧ mayB t = true ∧ s.books.any (dupB id t) = true) ∨ (bookNE s id t = 0 ∧ mayB t = true ∧ s.books.any (dupB id t) = false) := by
  unfold bookNE; cases mayB t <;> cases s.books.any (dupB id t) <;> simp
theorem noteNE_cases (s : Shelf) (q id : Int) (t : ByteArray) : (noteNE s q id t = 6 ∧ mayB t = false) ∨ (noteNE s q id t = 7 ∧ mayB t = true ∧ s.notes.any (titleB q t id) = true) ∨ (noteNE s q id t = 0 ∧ mayB t = true ∧ s.notes.any (titleB q t id) = false) := by
  unfold noteNE; cases mayB t <;> cases s.notes.any (titleB q t id) <;> simp
theorem any_new {s : Shelf} (h : MayP s) (t : ByteArray) : s.books.any (dupB 0 t) = decide (0 ≤ nameIx s.books t) := by
  rw [Bool.eq_iff_iff, List.any_eq_true, decide_eq_true_eq]
  unfold nameIx
  rw [idx_nonneg]
  constructor
  · rintro ⟨x, hx, h2⟩
    unfold dupB at h2
    rw [Bool.and_eq_true] at h2
    exact ⟨x, hx, h2.1⟩
  · rintro ⟨x, hx, h2⟩
    refine ⟨x, hx, ?_⟩
    have := (h.bid x hx).1
    unfold dupB
    rw [Bool.and_eq_true]
    exact ⟨h2, by simp; omega⟩
theorem any_ren {s : Shelf} (h : MayP s) (t : ByteArray) {id : Int} (hi : 0 ≤ bookIx s id) : s.books.any (dupB id t) = decide (0 ≤ nameIx s.books t ∧ nameIx s.books t ≠ bookIx s id) := by
  rw [Bool.eq_iff_iff, List.any_eq_true, decide_eq_true_eq]
  obtain ⟨y, hy, hyp⟩ := idx_get (p := fun x : Book => x.id == id) (l := s.books) (i := bookIx s id) rfl hi
  have hyid : y.id = id := by simpa using hyp
  constructor
  · rintro ⟨x, hx, h2⟩
    unfold dupB at h2
    rw [Bool.and_eq_true] at h2
    have h0 : 0 ≤ nameIx s.books t := by unfold nameIx; rw [idx_nonneg]; exact ⟨x, hx, h2.1⟩
    refine ⟨h0, fun e => ?_⟩
    obtain ⟨z, hz, hzp⟩ := idx_get (p := fun x : Book => x.name.toList == t.toList) (l := s.books) (i := nameIx s.books t) rfl h0
    rw [e, hy] at hz
    obtain rfl := Option.some.inj hz
    have e1 : y.name = x.name := by rw [toList_eq.1 hzp, toList_eq.1 h2.1]
    have e2 : y = x := by
      obtain ⟨i, hi2⟩ := List.getElem?_of_mem hx
      rcases Nat.lt_trichotomy i (bookIx s id).toNat with h3 | h3 | h3
      · exact absurd e1.symm (pair_get h.bnew hi2 hy h3)
      · rw [h3, hy] at hi2; exact Option.some.inj hi2
      · exact absurd e1 (pair_get h.bnew hy hi2 h3)
    rw [← e2] at h2
    have := h2.2
    simp [hyid] at this
  · rintro ⟨h0, hne⟩
    obtain ⟨z, hz, hzp⟩ := idx_get (p := fun x : Book => x.name.toList == t.toList) (l := s.books) (i := nameIx s.books t) rfl h0
    refine ⟨z, List.mem_of_getElem? hz, ?_⟩
    unfold dupB
    rw [Bool.and_eq_true]
    refine ⟨hzp, ?_⟩
    rw [bne_iff_ne]
    intro e
    have e3 : z = y := h.book_eq (List.mem_of_getElem? hz) (List.mem_of_getElem? hy) (by rw [e, hyid])
    subst e3
    rcases Nat.lt_trichotomy (nameIx s.books t).toNat (bookIx s id).toNat with h3 | h3 | h3
    · have := pair_get h.binc hz hy h3; omega
    · omega
    · have := pair_get h.binc hy hz h3; omega
set_option maxRecDepth 100000 in
set_option maxHeartbeats 2000000 in
theorem refBookName_any (s : Shelf) (bv nv : Value) (id : Int) (t : ByteArray) (w : World) (h : ShelfR w s bv nv) (hz : s.books.length ≤ 1000000) (ht : t.size ≤ 1000000000) :
    Calls Tryd.prog 66 #[shelfV s bv nv, .int .i64 id, .string t] w fun e w' => e = .returned (.int .i64 (bookNE s id t)) ∧ Grow w w' := by
  obtain ⟨a1, c1, rfl⟩ := h.1.mk
  obtain ⟨a2, c2, rfl⟩ := h.2.mk
  have HH := Lib.hid h
  clear h
  have cM := fun W => ref_may t W ht
  unfold shelfV
  go_enter Tryd.func66, Tryd.ntmps66
  go_upto_region 1 with (fail)
  generalize hV : w.alloc (.cells #[.int .i64 s.nb, .int .i64 s.nn, .int .i64 s.ns, .slice a1 s.books.length c1, .slice a2 s.notes.length c2] 28) = V
  have gV : Grow w V := by rw [← hV]; exact (Grow.refl w).alloc _
  have q3 : V.cell? ⟨w.heap.size, 3, none⟩ = some (.slice a1 s.books.length c1) := by rw [← hV]; simp [go_sem]
  have hsz : w.heap.size < V.heap.size := by rw [← hV]; simp
  clear hV
  have c := cM V
  cases hm : mayB t with
  | false =>
    rw [hm] at c
    have HE := Lib.hid (show bookNE s id t = 6 by unfold bookNE; rw [if_pos hm])
    clear hm
    go_wp2_with fail
    refine c.mono ?_
    rintro e w1 ⟨rfl, g1⟩
    subst g1
    go_wp2_with fail
    go_ret
    exact ⟨ret_int HE.out.symm, gV⟩
  | true =>
    rw [hm] at c
    have HM := Lib.hid hm
    clear hm
    go_wp2_with fail
    refine c.mono ?_
    rintro e w1 ⟨rfl, g1⟩
    subst g1
    have gW := gV
    go_wp2_with fail
    go_loop [7] (fun v => ∃ j : Nat, v = .int .i64 j ∧ j ≤ s.books.length ∧ ∀ (k : Nat) x, k < j → s.books[k]? = some x → (dupB id t) x = false) (fun v => s.books.length - (intOf v).toNat)
    case atStart => exact ⟨0, rfl, by omega, fun k x h => absurd h (by omega)⟩
    case round =>
      obtain ⟨j, rfl, hj, hall⟩ := hrel
      have HA := Lib.hid hall
      clear hall
      by_cases hlt : j < s.books.length
      · have hlt' : (j : Int) < s.books.length := by omega
        obtain ⟨x, hx, -⟩ := lt_get hlt
        obtain ⟨bb, off, rfl, hbb, p0, p1⟩ := (HH.out.1.grow gW).at hx
        have HX := Lib.hid hx
        clear hx
        cases h1 : (x.name.toList == t.toList) with
        | false =>
          have HP := Lib.hid (show (dupB id t) x = false by unfold dupB; rw [h1]; rfl)
          go_wp2_with fail
          go_round
          case rel => exact ⟨j + 1, by go_num, by omega, fun k y hk hy => by
            rcases (by omega : k < j ∨ k = j) with h3 | rfl
            · exact HA.out k y h3 hy
            · rw [HX.out] at hy; injection hy with hy; rw [← hy]; exact HP.out⟩
          case measure => simp [intOf]; omega
        | true =>
          cases h2 : (x.id != id) with
          | false =>
            have HP := Lib.hid (show (dupB id t) x = false by unfold dupB; rw [h1, h2]; rfl)
            go_wp2_with fail
            go_round
            case rel => exact ⟨j + 1, by go_num, by omega, fun k y hk hy => by
              rcases (by omega : k < j ∨ k = j) with h3 | rfl
              · exact HA.out k y h3 hy
              · rw [HX.out] at hy; injection hy with hy; rw [← hy]; exact HP.out⟩
            case measure => simp [intOf]; omega
          | true =>
            have HP := Lib.hid (show s.books.any (dupB id t) = true from List.any_eq_true.2 ⟨x, List.mem_of_getElem? HX.out, by unfold dupB; rw [h1, h2]; rfl⟩)
            have HE := Lib.hid (show bookNE s id t = 7 by unfold bookNE; rw [if_neg (by rw [HM.out]; simp), if_pos HP.out])
            go_wp2_with fail
            go_ret
            exact ⟨ret_int HE.out.symm, gW⟩
      · have HP := Lib.hid (show s.books.any (dupB id t) = false from List.any_eq_false.2 fun x hx => by
          obtain ⟨k, hk⟩ := List.getElem?_of_mem hx
          rw [HA.out k x (by have := (List.getElem?_eq_some_iff.1 hk).1; omega) hk]; simp)
        have HE := Lib.hid (show bookNE s id t = 0 by unfold bookNE; rw [if_neg (by rw [HM.out]; simp), if_neg (by rw [HP.out]; simp)])
        have hlt' : ¬ (j : Int) < s.books.length := by omega
        go_wp2_with fail
        go_ret
        exact ⟨ret_int HE.out.symm, gW⟩
set_option maxRecDepth 100000 in
set_option maxHeartbeats 2000000 in
theorem refNoteName_any (s : Shelf) (bv nv : Value) (q : Int) (id : Int) (t : ByteArray) (w : World) (h : ShelfR w s bv nv) (hz : s.notes.length ≤ 1000000) (ht : t.size ≤ 1000000000) :
    Calls Tryd.prog 74 #[shelfV s bv nv, .int .i64 q, .int .i64 id, .string t] w fun e w' => e = .returned (.int .i64 (noteNE s q id t)) ∧ Grow w w' := by
  obtain ⟨a1, c1, rfl⟩ := h.1.mk
  obtain ⟨a2, c2, rfl⟩ := h.2.mk
  have HH := Lib.hid h
  clear h
  have cM := fun W => ref_may t W ht
  unfold shelfV
  go_enter Tryd.func74, Tryd.ntmps74
  go_upto_region 1 with (fail)
  generalize hV : w.alloc (.cells #[.int .i64 s.nb, .int .i64 s.nn, .int .i64 s.ns, .slice a1 s.books.length c1, .slice a2 s.notes.length c2] 28) = V
  have gV : Grow w V := by rw [← hV]; exact (Grow.refl w).alloc _
  have q3 : V.cell? ⟨w.heap.size, 4, none⟩ = some (.slice a2 s.notes.length c2) := by rw [← hV]; simp [go_sem]
  have hsz : w.heap.size < V.heap.size := by rw [← hV]; simp
  clear hV
  have c := cM V
  cases hm : mayB t with
  | false =>
    rw [hm] at c
    have HE := Lib.hid (show noteNE s q id t = 6 by unfold noteNE; rw [if_pos hm])
    clear hm
    go_wp2_with fail
    refine c.mono ?_
    rintro e w1 ⟨rfl, g1⟩
    subst g1
    go_wp2_with fail
    go_ret
    exact ⟨ret_int HE.out.symm, gV⟩
  | true =>
    rw [hm] at c
    have HM := Lib.hid hm
    clear hm
    go_wp2_with fail
    refine c.mono ?_
    rintro e w1 ⟨rfl, g1⟩
    subst g1
    have gW := gV
    go_wp2_with fail
    go_loop [9] (fun v => ∃ j : Nat, v = .int .i64 j ∧ j ≤ s.notes.length ∧ ∀ (k : Nat) x, k < j → s.notes[k]? = some x → (titleB q t id) x = false) (fun v => s.notes.length - (intOf v).toNat)
    case atStart => exact ⟨0, rfl, by omega, fun k x h => absurd h (by omega)⟩
    case round =>
      obtain ⟨j, rfl, hj, hall⟩ := hrel
      have HA := Lib.hid hall
      clear hall
      by_cases hlt : j < s.notes.length
      · have hlt' : (j : Int) < s.notes.length := by omega
        obtain ⟨x, hx, -⟩ := lt_get hlt
        obtain ⟨bb, off, tv, sv, rfl, hbb, p0, p1, p2, -, -, -, -⟩ := (Notes.grow HH.out.2 gW).at hx
        have HX := Lib.hid hx
        clear hx
        cases h1 : (x.name.toList == t.toList) with
        | false =>
          have HP := Lib.hid (show (titleB q t id) x = false by unfold titleB; rw [h1, Bool.and_false, Bool.false_and])
          go_wp2_with fail
          go_round
          case rel => exact ⟨j + 1, by go_num, by omega, fun k y hk hy => by
            rcases (by omega : k < j ∨ k = j) with h3 | rfl
            · exact HA.out k y h3 hy
            · rw [HX.out] at hy; injection hy with hy; rw [← hy]; exact HP.out⟩
          case measure => simp [intOf]; omega
        | true =>
          cases h2 : (x.book == q) with
          | false =>
            have HP := Lib.hid (show (titleB q t id) x = false by unfold titleB; rw [h2, Bool.false_and, Bool.false_and])
            go_wp2_with fail
            go_round
            case rel => exact ⟨j + 1, by go_num, by omega, fun k y hk hy => by
              rcases (by omega : k < j ∨ k = j) with h3 | rfl
              · exact HA.out k y h3 hy
              · rw [HX.out] at hy; injection hy with hy; rw [← hy]; exact HP.out⟩
            case measure => simp [intOf]; omega
          | true =>
            cases h3 : (x.id != id) with
            | false =>
              have HP := Lib.hid (show (titleB q t id) x = false by unfold titleB; rw [h3, Bool.and_false])
              go_wp2_with fail
              go_round
              case rel => exact ⟨j + 1, by go_num, by omega, fun k y hk hy => by
                rcases (by omega : k < j ∨ k = j) with h3 | rfl
                · exact HA.out k y h3 hy
                · rw [HX.out] at hy; injection hy with hy; rw [← hy]; exact HP.out⟩
              case measure => simp [intOf]; omega
            | true =>
              have HP := Lib.hid (show s.notes.any (titleB q t id) = true from List.any_eq_true.2 ⟨x, List.mem_of_getElem? HX.out, by unfold titleB; rw [h1, h2, h3]; rfl⟩)
              have HE := Lib.hid (show noteNE s q id t = 7 by unfold noteNE; rw [if_neg (by rw [HM.out]; simp), if_pos HP.out])
              go_wp2_with fail
              go_ret
              exact ⟨ret_int HE.out.symm, gW⟩
      · have HP := Lib.hid (show s.notes.any (titleB q t id) = false from List.any_eq_false.2 fun x hx => by
          obtain ⟨k, hk⟩ := List.getElem?_of_mem hx
          rw [HA.out k x (by have := (List.getElem?_eq_some_iff.1 hk).1; omega) hk]; simp)
        have HE := Lib.hid (show noteNE s q id t = 0 by unfold noteNE; rw [if_neg (by rw [HM.out]; simp), if_neg (by rw [HP.out]; simp)])
        have hlt' : ¬ (j : Int) < s.notes.length := by omega
        go_wp2_with fail
        go_ret
        exact ⟨ret_int HE.out.symm, gW⟩
set_option maxRecDepth 100000 in
set_option maxHeartbeats 1000000 in
theorem refNote_any (s : Shelf) (bv nv : Value) (n : Int) (w : World) (h : ShelfR w s bv nv) (hz : s.notes.length ≤ 1000000) :
    Calls Tryd.prog 76 #[shelfV s bv nv, .int .i64 n] w fun e w' => e = .returned (.int .i64 (idx (fun b => b.id == n) s.notes)) ∧ Grow w w' := by
  obtain ⟨a1, c1, rfl⟩ := h.1.mk
  obtain ⟨a2, c2, rfl⟩ := h.2.mk
  have HH := Lib.hid h
  clear h
  unfold shelfV
  go_enter Tryd.func76, Tryd.ntmps76
  go_upto_region 1 with (fail)
  generalize hV : w.alloc (.cells #[.int .i64 s.nb, .int .i64 s.nn, .int .i64 s.ns, .slice a1 s.books.length c1, .slice a2 s.notes.length c2] 28) = V
  have gV : Grow w V := by rw [← hV]; exact (Grow.refl w).alloc _
  have q3 : V.cell? ⟨w.heap.size, 4, none⟩ = some (.slice a2 s.notes.length c2) := by rw [← hV]; simp [go_sem]
  clear hV
  go_wp2_with fail
  go_loop [5] (fun v5 => ∃ j : Nat, v5 = .int .i64 j ∧ j ≤ s.notes.length ∧ ∀ (k : Nat) x, k < j → s.notes[k]? = some x → (x.id == n) = false) (fun v5 => s.notes.length - (intOf v5).toNat)
  case atStart => exact ⟨0, rfl, by omega, fun k x h => absurd h (by omega)⟩
  case round =>
    obtain ⟨j, rfl, hj, hall⟩ := hrel
    have HA := Lib.hid hall
    clear hall
    by_cases hlt : j < s.notes.length
    · have hlt' : (j : Int) < s.notes.length := by omega
      obtain ⟨x, hx, -⟩ := lt_get hlt
      obtain ⟨bb, off, tv, sv, rfl, hbb, p0, -, -, -, -, -, -⟩ := (Notes.grow HH.out.2 gV).at hx
      have HX := Lib.hid hx
      clear hx
      cases hp : (x.id == n)
      · have HP := Lib.hid hp
        go_wp2_with fail
        go_round
        case rel => exact ⟨j + 1, by go_num, by omega, fun k y hk hy => by
          rcases (by omega : k < j ∨ k = j) with h3 | rfl
          · exact HA.out k y h3 hy
          · rw [HX.out] at hy; injection hy with hy; rw [← hy]; exact HP.out⟩
        case measure => simp [intOf]; omega
      · have HR := Lib.hid (idx_some (p := fun b : Note => b.id == n) HX.out hp HA.out)
        go_wp2_with fail
        go_ret
        exact ⟨ret_int HR.out.symm, gV⟩
    · have HR := Lib.hid (idx_none (p := fun b : Note => b.id == n) (l := s.notes) (fun k x hx => HA.out k x (by have := (List.getElem?_eq_some_iff.1 hx).1; omega) hx))
      have hlt' : ¬ (j : Int) < s.notes.length := by omega
      go_wp2_with fail
      go_ret
      exact ⟨ret_int HR.out.symm, gV⟩
end Go.Proofs.YtnajccljdjllgaaDoor
set_option linter.unusedVariables false
set_option linter.unusedSimpArgs false
namespace Go.Proofs.YtnajccljdjllgaaDoor
open Go.RowKit Go.Lib
theorem step_Rd {P : Program} {α : Type} {R : World → α → List Value → Prop} {base : Nat} {ops : Array Oper} {o : Oper} {a : Act} {K : Act → World → Prop} {Q : Exit → Act → World → Prop} {E : Prop} (hgd : o.guard = none) (s x : Operand) (t : TypeId)
    (ho : o.op = .call { callee := .builtin .append, args := #[s, x], argTypes := #[t, t] })
    (e : TypeId) (i : TypeInfo) (z : Value) (k bytes : Nat) (ht : P.underlying t = some (.slice e)) (hi : P.info? e = some i) (hz : i.zero = some z) (hsize : i.size = k) (hby : i.bytes = bytes) (hzs : z.cells.size = k) (hk : 0 < k)
    (v u : Value) (n : Nat) (xs : List Value) (hs : a.eval s = v) (w : World) (h : RowO base e k v n xs w) (hbase : base ≤ w.heap.size) {l : List α} (hx : a.eval x = u) (hr : Reads R k w u l) (h1 : ∀ a cs, R w a cs → ∀ u ∈ cs, u.oneCell' = true) (hn : n + l.length ≤ 1000000000000) (hbytes : bytes ≤ 100)
    (hk' : ∀ v' w', AppRd R base e k w v n xs l v' w' → K (a.put o.dst v') w') : if Region.wanted o (yielded ops a.tmps) = true then Oper.wp P o a w K Q else E := by
  have hw : Region.wanted o (yielded ops a.tmps) = true := by simp [Region.wanted, hgd]
  rw [if_pos hw]
  obtain ⟨v', w', hrun, h2⟩ := run_rd (P := P) (ty := o.type) ht hi hz hsize hby hzs hk h hbase hr h1 hn hbytes
  unfold Oper.wp execOp
  simp only [ho, resolve, invoke, builtin, Sem.run_bind, Sem.run_pure, Result.andThen_ok, List.map_toArray, List.map_cons, List.map_nil, hs, hx, hrun]
  exact hk' _ _ h2
/-- The first i notes' tags, and the first k notes' sheets, are the call's own; the others as they were in w0. -/
structure OwnQ (base : Nat) (bv nv : Value) (X : List Book) (Y : List NV) (i k : Nat) (w0 w : World) : Prop where
  books : RowO base 37 2 bv X.length (X.flatMap bookC) w
  notes : RowO base 41 5 nv Y.length (Y.flatMap noteC) w
  tdone : ∀ (j : Nat) y, j < i → Y[j]? = some y → RowO base 9 1 y.tv y.n.tags.length (strC y.n.tags) w
  sdone : ∀ (j : Nat) y, j < k → Y[j]? = some y → RowO base 3 1 y.sv y.n.sheets.length (intC y.n.sheets) w
  trest : ∀ (j : Nat) y, i ≤ j → Y[j]? = some y → Texts w0 y.tv y.n.tags
  srest : ∀ (j : Nat) y, k ≤ j → Y[j]? = some y → Ints w0 y.sv y.n.sheets
  tsep : ∀ (j q : Nat) y z, j < q → q < i → Y[j]? = some y → Y[q]? = some z → ∀ b, blkOf y.tv = some b → blkOf z.tv ≠ some b
  ssep : ∀ (j q : Nat) y z, j < q → q < k → Y[j]? = some y → Y[q]? = some z → ∀ b, blkOf y.sv = some b → blkOf z.sv ≠ some b
section
variable {base : Nat} {bv nv : Value} {X : List Book} {Y : List NV} {i k : Nat} {w0 w w' : World}
theorem OwnQ.kept (h : OwnQ base bv nv X Y i k w0 w) (kk : KeptS w w') : OwnQ base bv nv X Y i k w0 w' := by
  have one : ∀ {e : TypeId} {c : Nat} {v : Value} {n : Nat} {xs : List Value}, (e = 37 ∨ e = 41 ∨ e = 9 ∨ e = 3) → RowO base e c v n xs w → RowO base e c v n xs w' := fun he hr =>
    hr.kept_of fun g hg => by obtain ⟨-, cur, hc⟩ := hr.blk hg; rw [hc]; exact kk g cur _ he hc
  exact ⟨one (.inl rfl) h.books, one (.inr (.inl rfl)) h.notes, fun j y hj hy => one (.inr (.inr (.inl rfl))) (h.tdone j y hj hy), fun j y hj hy => one (.inr (.inr (.inr rfl))) (h.sdone j y hj hy), h.trest, h.srest, h.tsep, h.ssep⟩
theorem OwnQ.all (h : OwnQ base bv nv X Y i k w0 w) (hi : Y.length ≤ i) (hk : Y.length ≤ k) : OwnS base bv nv X Y w := by
  refine ⟨h.books, h.notes, fun y hy => ?_, fun y hy => ?_, ?_, ?_⟩
  · obtain ⟨j, hj⟩ := List.getElem?_of_mem hy
    exact h.tdone j y (by have := (List.getElem?_eq_some_iff.1 hj).1; omega) hj
  · obtain ⟨j, hj⟩ := List.getElem?_of_mem hy
    exact h.sdone j y (by have := (List.getElem?_eq_some_iff.1 hj).1; omega) hj
  · rw [List.pairwise_iff_getElem]
    intro j q hj hq hjq
    exact h.tsep j q _ _ hjq (by omega) (List.getElem?_eq_getElem hj) (List.getElem?_eq_getElem hq)
  · rw [List.pairwise_iff_getElem]
    intro j q hj hq hjq
    exact h.ssep j q _ _ hjq (by omega) (List.getElem?_eq_getElem hj) (List.getElem?_eq_getElem hq)
/-- A note's cells. -/
theorem OwnQ.note (h : OwnQ base bv nv X Y i k w0 w) {j : Nat} {y : NV} (hy : Y[j]? = some y) {b c : Nat} (e : nv = .slice (some ⟨b, 0, none⟩) Y.length c) (p : Nat) (u : Value) (hu : (noteC y)[p]? = some u) : w.cell? ⟨b, j * 5 + p, none⟩ = some u ∧ w.frozen? ⟨b, j * 5 + p, none⟩ = false ∧ b < w.heap.size := by
  have hp : p < 5 := by have := (List.getElem?_eq_some_iff.1 hu).1; simpa using this
  have hc : (Y.flatMap noteC)[j * 5 + p]? = some u := by rw [flat_get noteC (fun _ => rfl) Y j p y hy hp]; exact hu
  obtain ⟨b', c', e1, h1, h2, h3, -⟩ := h.notes.cell hc
  rw [e] at e1
  injection e1 with e2
  injection e2 with e2
  injection e2 with e2
  subst e2
  exact ⟨h1, h2, h3⟩
theorem OwnQ.start {w1 : World} (hb : RowO base 37 2 bv X.length (X.flatMap bookC) w1) (hn : RowO base 41 5 nv Y.length (Y.flatMap noteC) w1) (hr : ∀ y ∈ Y, Texts w0 y.tv y.n.tags ∧ Ints w0 y.sv y.n.sheets) : OwnQ base bv nv X Y 0 0 w0 w1 :=
  ⟨hb, hn, fun j y hj => absurd hj (by omega), fun j y hj => absurd hj (by omega), fun j y _ hy => (hr y (List.mem_of_getElem? hy)).1, fun j y _ hy => (hr y (List.mem_of_getElem? hy)).2, fun j k y z _ hk => absurd hk (by omega), fun j k y z _ hk => absurd hk (by omega)⟩
theorem OwnQ.tag (h : OwnQ base bv nv X Y i k w0 w) {y : NV} (hy : Y[i]? = some y) (g : Grow w w') {v : Value} (hr : RowO w.heap.size 9 1 v y.n.tags.length (strC y.n.tags) w') (hbase : base ≤ w.heap.size)
    {b c : Nat} (e : nv = .slice (some ⟨b, 0, none⟩) Y.length c) :
    OwnQ base bv nv X (Y.set i { y with tv := v }) (i + 1) k w0 (w'.setCell ⟨b, i * 5 + 3, none⟩ v) ∧ Turned b w' (w'.setCell ⟨b, i * 5 + 3, none⟩ v) ∧ base ≤ b ∧ ∃ cur : Array Value, w'.heap[b]? = some (.cells cur 41 (0, 0)) := by
  have h' := h.kept (.of_grow g)
  have hi := (List.getElem?_eq_some_iff.1 hy).1
  have hc3 : (Y.flatMap noteC)[i * 5 + 3]? = some y.tv := by rw [flat_get noteC (fun _ => rfl) Y i 3 y hy (by decide)]; rfl
  obtain ⟨b1, c1, e1, hb1, hr1, t1, cur1, hcur1⟩ := h'.notes.stored hc3 v
  rw [e] at e1
  injection e1 with e2
  injection e2 with e2
  injection e2 with e2
  subst e2
  rw [flat_set noteC (fun _ => rfl) (y := { y with tv := v }) hy (by decide) rfl] at hr1
  have kk := kept_of_turned hcur1 t1
  have hst : ∀ (j : Nat) z, (Y.set i { y with tv := v })[j]? = some z → (j = i ∧ z = { y with tv := v }) ∨ (j ≠ i ∧ Y[j]? = some z) := fun j z hz => by
    rw [List.getElem?_set] at hz
    by_cases e : i = j
    · rw [if_pos e, if_pos (by omega)] at hz
      exact .inl ⟨e.symm, (Option.some.inj hz).symm⟩
    · rw [if_neg e] at hz; exact .inr ⟨fun e' => e e'.symm, hz⟩
  refine ⟨{ books := h'.books.kept (by decide) kk, notes := by rw [List.length_set]; exact hr1, tdone := fun j z hj hz => ?_, sdone := fun j z hj hz => ?_, trest := fun j z hj hz => ?_, srest := fun j z hj hz => ?_, tsep := fun j q p r hjk hk hp hq bb hb1 hb2' => ?_, ssep := fun j q p r hjk hk hp hq bb hb1 hb2' => ?_ }, t1, ?_, cur1, hcur1⟩
  · rcases hst j z hz with ⟨rfl, rfl⟩ | ⟨hne, hz⟩
    · exact (hr.base_mono hbase).kept (by decide) kk
    · exact (h'.tdone j z (by omega) hz).kept (by decide) kk
  · rcases hst j z hz with ⟨e7, rfl⟩ | ⟨hne, hz⟩
    · subst e7; exact (h'.sdone j y hj hy).kept (by decide) kk
    · exact (h'.sdone j z hj hz).kept (by decide) kk
  · rcases hst j z hz with ⟨rfl, rfl⟩ | ⟨hne, hz⟩
    · omega
    · exact h.trest j z (by omega) hz
  · rcases hst j z hz with ⟨e7, rfl⟩ | ⟨hne, hz⟩
    · subst e7; exact h.srest j y hj hy
    · exact h.srest j z hj hz
  · rcases hst j p hp with ⟨e7, -⟩ | ⟨hne, hp'⟩
    · omega
    rcases hst q r hq with ⟨e7, e8⟩ | ⟨hne2, hq'⟩
    · rw [e8] at hb2'
      have a1 := (h.tdone j p (by omega) hp').blk_lt hb1
      have a2 := (hr.blk hb2').1
      omega
    · exact h.tsep j q p r hjk (by omega) hp' hq' bb hb1 hb2'
  · have key : ∀ (j : Nat) z, (Y.set i { y with tv := v })[j]? = some z → ∃ z', Y[j]? = some z' ∧ z.sv = z'.sv := fun j z hz => by
      rcases hst j z hz with ⟨e7, rfl⟩ | ⟨hne, hz⟩
      · subst e7; exact ⟨y, hy, rfl⟩
      · exact ⟨z, hz, rfl⟩
    obtain ⟨p', hp', e8⟩ := key j p hp
    obtain ⟨r', hr', e9⟩ := key q r hq
    rw [e8] at hb1
    rw [e9] at hb2'
    exact h.ssep j q p' r' hjk hk hp' hr' bb hb1 hb2'
  · exact (h'.notes.blk hb1).1
theorem OwnQ.sheet (h : OwnQ base bv nv X Y i k w0 w) {y : NV} (hy : Y[k]? = some y) (g : Grow w w') {v : Value} (hr : RowO w.heap.size 3 1 v y.n.sheets.length (intC y.n.sheets) w') (hbase : base ≤ w.heap.size)
    {b c : Nat} (e : nv = .slice (some ⟨b, 0, none⟩) Y.length c) :
    OwnQ base bv nv X (Y.set k { y with sv := v }) i (k + 1) w0 (w'.setCell ⟨b, k * 5 + 4, none⟩ v) ∧ Turned b w' (w'.setCell ⟨b, k * 5 + 4, none⟩ v) ∧ base ≤ b ∧ ∃ cur : Array Value, w'.heap[b]? = some (.cells cur 41 (0, 0)) := by
  have h' := h.kept (.of_grow g)
  have hi := (List.getElem?_eq_some_iff.1 hy).1
  have hc3 : (Y.flatMap noteC)[k * 5 + 4]? = some y.sv := by rw [flat_get noteC (fun _ => rfl) Y k 4 y hy (by decide)]; rfl
  obtain ⟨b1, c1, e1, hb1, hr1, t1, cur1, hcur1⟩ := h'.notes.stored hc3 v
  rw [e] at e1
  injection e1 with e2
  injection e2 with e2
  injection e2 with e2
  subst e2
  rw [flat_set noteC (fun _ => rfl) (y := { y with sv := v }) hy (by decide) rfl] at hr1
  have kk := kept_of_turned hcur1 t1
  have hst : ∀ (j : Nat) z, (Y.set k { y with sv := v })[j]? = some z → (j = k ∧ z = { y with sv := v }) ∨ (j ≠ k ∧ Y[j]? = some z) := fun j z hz => by
    rw [List.getElem?_set] at hz
    by_cases e : k = j
    · rw [if_pos e, if_pos (by omega)] at hz
      exact .inl ⟨e.symm, (Option.some.inj hz).symm⟩
    · rw [if_neg e] at hz; exact .inr ⟨fun e' => e e'.symm, hz⟩
  refine ⟨{ books := h'.books.kept (by decide) kk, notes := by rw [List.length_set]; exact hr1, tdone := fun j z hj hz => ?_, sdone := fun j z hj hz => ?_, trest := fun j z hj hz => ?_, srest := fun j z hj hz => ?_, tsep := fun j q p r hjk hk hp hq bb hb1 hb2' => ?_, ssep := fun j q p r hjk hk hp hq bb hb1 hb2' => ?_ }, t1, ?_, cur1, hcur1⟩
  · rcases hst j z hz with ⟨e7, rfl⟩ | ⟨hne, hz⟩
    · subst e7; exact (h'.tdone j y hj hy).kept (by decide) kk
    · exact (h'.tdone j z hj hz).kept (by decide) kk
  · rcases hst j z hz with ⟨rfl, rfl⟩ | ⟨hne, hz⟩
    · exact (hr.base_mono hbase).kept (by decide) kk
    · exact (h'.sdone j z (by omega) hz).kept (by decide) kk
  · rcases hst j z hz with ⟨e7, rfl⟩ | ⟨hne, hz⟩
    · subst e7; exact h.trest j y hj hy
    · exact h.trest j z hj hz
  · rcases hst j z hz with ⟨rfl, rfl⟩ | ⟨hne, hz⟩
    · omega
    · exact h.srest j z (by omega) hz
  · have key : ∀ (j : Nat) z, (Y.set k { y with sv := v })[j]? = some z → ∃ z', Y[j]? = some z' ∧ z.tv = z'.tv := fun j z hz => by
      rcases hst j z hz with ⟨e7, rfl⟩ | ⟨hne, hz⟩
      · subst e7; exact ⟨y, hy, rfl⟩
      · exact ⟨z, hz, rfl⟩
    obtain ⟨p', hp', e8⟩ := key j p hp
    obtain ⟨r', hr', e9⟩ := key q r hq
    rw [e8] at hb1
    rw [e9] at hb2'
    exact h.tsep j q p' r' hjk hk hp' hr' bb hb1 hb2'
  · rcases hst j p hp with ⟨e7, -⟩ | ⟨hne, hp'⟩
    · omega
    rcases hst q r hq with ⟨e7, e8⟩ | ⟨hne2, hq'⟩
    · rw [e8] at hb2'
      have a1 := (h.sdone j p (by omega) hp').blk_lt hb1
      have a2 := (hr.blk hb2').1
      omega
    · exact h.ssep j q p r hjk (by omega) hp' hq' bb hb1 hb2'
  · exact (h'.notes.blk hb1).1
end
theorem turned_cell0 (w : World) (b j : Nat) (u : Value) : Turned b w (w.setCell ⟨b, j, none⟩ u) := ⟨rfl, rfl, rfl, by simp, fun i _ hb => heap_setCell_other w ⟨b, j, none⟩ i u hb⟩
theorem map_set_n {Y : List NV} {i : Nat} {y z : NV} (hy : Y[i]? = some y) (hz : z.n = y.n) : (Y.set i z).map NV.n = Y.map NV.n := by
  apply List.ext_getElem?
  intro j
  rw [List.getElem?_map, List.getElem?_map, List.getElem?_set]
  have hi := (List.getElem?_eq_some_iff.1 hy).1
  by_cases e : i = j
  · subst e; rw [if_pos rfl, if_pos hi, hy]; simp [hz]
  · rw [if_neg e]
structure OwnBQ (s : Shelf) (w : World) (bv nv : Value) (Y : List NV) (i k : Nat) (wx : World) : Prop where
  grow : Grow w wx
  box : wx.heap[w.heap.size]? = some (shB s bv nv)
  res : wx.heap[w.heap.size + 1]? = some (shB ⟨0, 0, 0, [], []⟩ (.slice none 0 0) (.slice none 0 0))
  own : OwnQ w.heap.size bv nv s.books Y i k w wx
  map : Y.map NV.n = s.notes
theorem OwnBQ.drew {s : Shelf} {w wx : World} {bv nv : Value} {Y : List NV} {i k : Nat} (h : OwnBQ s w bv nv Y i k wx) : OwnBQ s w bv nv Y i k wx.drew :=
  ⟨h.grow.drew, (Grow.refl wx).drew.blk h.box, (Grow.refl wx).drew.blk h.res, h.own.kept (.of_grow (Grow.refl wx).drew), h.map⟩
theorem grown_nil {w w' : World} {b : Option Nat} (hb : b = none) (g : w.grownBy w' b) : Grow w w' := by subst hb; exact Below.grown (Grow.refl _) g (Nat.le_refl _) (fun b hb => by cases hb)
theorem copy_begin {s : Shelf} {w V w1 w2 : World} {bv nv : Value} (h : ShelfR w s bv nv) (gV : Grow w V) (hb : V.heap[w.heap.size]? = some (shB s bv nv)) (hr : V.heap[w.heap.size + 1]? = some (shB ⟨0, 0, 0, [], []⟩ (.slice none 0 0) (.slice none 0 0)))
    {v1 v2 : Value} {xs1 xs2 : List Value} (r1 : RowO w.heap.size 37 2 v1 s.books.length xs1 w1) (g1 : Grow V w1) (l1 : xs1.length = s.books.length * 2) (c1 : ∀ (i : Nat) a, s.books[i]? = some a → BookR w a ((xs1.drop (i * 2)).take 2))
    (r2 : RowO w.heap.size 41 5 v2 s.notes.length xs2 w2) (g2 : Grow (w1.setCell ⟨w.heap.size, 3, none⟩ v1) w2) (l2 : xs2.length = s.notes.length * 5) (c2 : ∀ (i : Nat) a, s.notes[i]? = some a → NoteR w a ((xs2.drop (i * 5)).take 5)) :
    ∃ Y, OwnBQ s w v1 v2 Y 0 0 (w2.setCell ⟨w.heap.size, 4, none⟩ v2) := by
  obtain ⟨Y, h1, h2, h3⟩ := notes_cells s.notes xs2 l2 c2
  have e1 := books_cells s.books xs1 l1 c1
  subst e1 h2
  have hb1 := g1.blk hb
  have hr1 := g1.blk hr
  have t1 := turned_cell0 w1 w.heap.size 3 v1
  have hb2 := heap_setCell_same w1 w.heap.size 3 _ _ v1 hb1
  have hlt : w.heap.size + 1 < w1.heap.size := (Array.getElem?_eq_some_iff.1 hr1).1
  have hr2 := (t1.block _ hlt (by omega)).trans hr1
  have hb3 := g2.blk hb2
  have hr3 := g2.blk hr2
  have t2 := turned_cell0 w2 w.heap.size 4 v2
  have hb4 := heap_setCell_same w2 w.heap.size 4 _ _ v2 hb3
  have hlt2 : w.heap.size + 1 < w2.heap.size := (Array.getElem?_eq_some_iff.1 hr3).1
  have hr4 := (t2.block _ hlt2 (by omega)).trans hr3
  have hn : Y.length = s.notes.length := by rw [← h1, List.length_map]
  have k1 : KeptS w1 (w1.setCell ⟨w.heap.size, 3, none⟩ v1) := KeptS.of_turned t1 hb1 (by decide)
  have k2 : KeptS w2 (w2.setCell ⟨w.heap.size, 4, none⟩ v2) := KeptS.of_turned t2 hb3 (by decide)
  have kk := (k1.trans (.of_grow g2)).trans k2
  have one : ∀ {w w' : World} {e : TypeId} {base c : Nat} {v : Value} {n : Nat} {xs : List Value}, KeptS w w' → (e = 37 ∨ e = 41 ∨ e = 9 ∨ e = 3) → RowO base e c v n xs w → RowO base e c v n xs w' := fun k he hr =>
    hr.kept_of fun g hg => by obtain ⟨-, cur, hc⟩ := hr.blk hg; rw [hc]; exact k g cur _ he hc
  refine ⟨Y, t2.grow ((t1.grow (gV.trans g1) (Nat.le_refl _)).trans g2) (Nat.le_refl _), hb4.trans rfl, hr4, OwnQ.start (one kk (.inl rfl) r1) (one k2 (.inr (.inl rfl)) ?_) h3, h1⟩
  rw [hn]; exact r2
theorem copy_tags {s : Shelf} {w wr w1 : World} {bv : Value} {Y : List NV} {i k : Nat} {nb nc : Nat} (hB : OwnBQ s w bv (.slice (some ⟨nb, 0, none⟩) s.notes.length nc) Y i k wr) {y : NV} (hy : Y[i]? = some y) (hnv : (Value.slice (some ⟨nb, 0, none⟩) s.notes.length nc) = .slice (some ⟨nb, 0, none⟩) Y.length nc)
    {v : Value} {xs : List Value} (r : RowO wr.heap.size 9 1 v y.n.tags.length xs w1) (g : Grow wr w1) (l1 : xs.length = y.n.tags.length * 1) (c1 : ∀ (i : Nat) a, y.n.tags[i]? = some a → TextR w a ((xs.drop (i * 1)).take 1)) :
    OwnBQ s w bv (.slice (some ⟨nb, 0, none⟩) s.notes.length nc) (Y.set i { y with tv := v }) (i + 1) k (w1.setCell ⟨nb, i * 5 + 3, none⟩ v) := by
  have e1 := text_cells y.n.tags xs l1 c1
  subst e1
  obtain ⟨h1, h2, h3, cur, h4⟩ := hB.own.tag hy g r hB.grow.size hnv
  have hc := kept_of_turned h4 h2
  exact ⟨h2.grow (hB.grow.trans g) h3, hc _ _ _ _ (by decide) (g.blk hB.box), hc _ _ _ _ (by decide) (g.blk hB.res), h1, (map_set_n (z := { y with tv := v }) hy rfl).trans hB.map⟩
theorem copy_ints {s : Shelf} {w wr w1 : World} {bv : Value} {Y : List NV} {i k : Nat} {nb nc : Nat} (hB : OwnBQ s w bv (.slice (some ⟨nb, 0, none⟩) s.notes.length nc) Y i k wr) {y : NV} (hy : Y[k]? = some y) (hnv : (Value.slice (some ⟨nb, 0, none⟩) s.notes.length nc) = .slice (some ⟨nb, 0, none⟩) Y.length nc)
    {v : Value} {xs : List Value} (r : RowO wr.heap.size 3 1 v y.n.sheets.length xs w1) (g : Grow wr w1) (l1 : xs.length = y.n.sheets.length * 1) (c1 : ∀ (i : Nat) a, y.n.sheets[i]? = some a → IntR w a ((xs.drop (i * 1)).take 1)) :
    OwnBQ s w bv (.slice (some ⟨nb, 0, none⟩) s.notes.length nc) (Y.set k { y with sv := v }) i (k + 1) (w1.setCell ⟨nb, k * 5 + 4, none⟩ v) := by
  have e1 := int_cells y.n.sheets xs l1 c1
  subst e1
  obtain ⟨h1, h2, h3, cur, h4⟩ := hB.own.sheet hy g r hB.grow.size hnv
  have hc := kept_of_turned h4 h2
  exact ⟨h2.grow (hB.grow.trans g) h3, hc _ _ _ _ (by decide) (g.blk hB.box), hc _ _ _ _ (by decide) (g.blk hB.res), h1, (map_set_n (z := { y with sv := v }) hy rfl).trans hB.map⟩
end Go.Proofs.YtnajccljdjllgaaDoor
set_option linter.unusedVariables false
set_option linter.unusedSimpArgs false
namespace Go.Proofs.YtnajccljdjllgaaDoor
open Go.RowKit Go.Lib
set_option maxRecDepth 100000 in
set_option maxHeartbeats 4000000 in
theorem copy_any (s : Shelf) (bv nv : Value) (w : World) (h : ShelfR w s bv nv) (hz : Tame s) :
    Calls Tryd.prog 15 #[shelfV s bv nv] w (RetOwn s w) := by
  obtain ⟨ib, hib, ibz0, ibz1, ibz2⟩ := info_parts info_book
  obtain ⟨inn, hinn, innz0, innz1, innz2⟩ := info_parts info_note
  obtain ⟨it, hit, itz0, itz1, itz2⟩ := info_parts info_text
  obtain ⟨ii, hii, iiz0, iiz1, iiz2⟩ := info_parts info_int
  obtain ⟨a1, c1, rfl⟩ := h.1.mk
  obtain ⟨a2, c2, rfl⟩ := h.2.mk
  have HH := Lib.hid h
  have HZ := Lib.hid hz
  have hnl := hz.2.1
  have hbl := hz.1
  have HXX := Lib.hid (two_boxes2 w (shB s (.slice a1 s.books.length c1) (.slice a2 s.notes.length c2)) (shB ⟨0, 0, 0, [], []⟩ (.slice none 0 0) (.slice none 0 0)))
  clear h hz
  unfold shelfV
  go_enter Tryd.func15, Tryd.ntmps15
  go_upto_region 1 with (fail)
  generalize hV : (w.alloc (.cells #[.int .i64 s.nb, .int .i64 s.nn, .int .i64 s.ns, .slice a1 s.books.length c1, .slice a2 s.notes.length c2] 28)).alloc (.cells #[.int .i64 0, .int .i64 0, .int .i64 0, .slice none 0 0, .slice none 0 0] 28) = V
  have gV : Grow w V := by rw [← hV]; exact ((Grow.refl w).alloc _).alloc _
  have hbx : V.heap[w.heap.size]? = some (shB s (.slice a1 s.books.length c1) (.slice a2 s.notes.length c2)) := by rw [← hV]; exact HXX.out.1
  have hrx : V.heap[w.heap.size + 1]? = some (shB ⟨0, 0, 0, [], []⟩ (.slice none 0 0) (.slice none 0 0)) := by rw [← hV]; exact HXX.out.2
  have HBX := Lib.hid hbx
  have HRX := Lib.hid hrx
  have HGV := Lib.hid gV
  obtain ⟨p0, p1, p2, p3, p4⟩ := sh5 hbx
  have hsz : w.heap.size < V.heap.size := (Array.getElem?_eq_some_iff.1 hbx).1
  clear hV hbx hrx gV
  go_upto_region 2 with (at_builtin; refine app_Rd (R := fun _ => BookR w) (l := s.books) (base := w.heap.size) (by rfl) _ _ 25 (by rfl) 37 ib _ 2 24 Tryd.underlying25 hib ibz0 ibz1 ibz2 (by rfl) (by decide) (.slice none 0 0) (.slice a1 s.books.length c1) 0 [] (by rfl) V .nil HGV.out.size (by rfl) (Reads.hold HH.out.1 HGV.out) (fun a cs hh => one_book w a cs hh) ?_ (by decide) ?_; omega; intro v1 w1 ra; obtain ⟨xs1, rb, gb, -, lb, cb⟩ := ra; rw [Nat.zero_add, List.nil_append] at rb; have g1 := grown_nil rfl gb; obtain ⟨va, vc, e3, -⟩ := rb.slice; subst e3; have hb1 := g1.blk HBX.out; have HRB := Lib.hid rb; have HG1 := Lib.hid g1; have HLB := Lib.hid lb; have HCB := Lib.hid cb; obtain ⟨q0, q1, q2, q3, q4⟩ := sh5 hb1; have qf3 := frozen_of_row w1 w.heap.size 3 _ _ hb1; have hsz1 : w.heap.size < w1.heap.size := (Array.getElem?_eq_some_iff.1 hb1).1; clear rb gb lb cb g1 hb1)
  have hgw : Grow w (w1.setCell ⟨w.heap.size, 3, none⟩ (.slice va s.books.length vc)) := (turned_cell0 w1 w.heap.size 3 (.slice va s.books.length vc)).grow (HGV.out.trans HG1.out) (Nat.le_refl _)
  have hb2 := heap_setCell_same w1 w.heap.size 3 _ _ (.slice va s.books.length vc) (HG1.out.blk HBX.out)
  have hb2' : (w1.setCell ⟨w.heap.size, 3, none⟩ (.slice va s.books.length vc)).heap[w.heap.size]? = some (shB s (.slice va s.books.length vc) (.slice a2 s.notes.length c2)) := hb2
  generalize hW2 : w1.setCell ⟨w.heap.size, 3, none⟩ (.slice va s.books.length vc) = W2 at *
  have HW2 := Lib.hid hW2
  have HGW := Lib.hid hgw
  have HB2 := Lib.hid hb2'
  clear p0 p1 p2 p3 p4 q0 q1 q2 q3 q4 qf3 hsz1 hsz hb2 hgw hW2
  obtain ⟨p0, p1, p2, p3, p4⟩ := sh5 hb2'
  have hsz : w.heap.size < W2.heap.size := (Array.getElem?_eq_some_iff.1 hb2').1
  clear hb2'
  go_upto_region 3 with (at_builtin; refine app_Rd (R := fun _ => NoteR w) (l := s.notes) (base := w.heap.size) (by rfl) _ _ 26 (by rfl) 41 inn _ 5 80 Tryd.underlying26 hinn innz0 innz1 innz2 (by rfl) (by decide) (.slice none 0 0) (.slice a2 s.notes.length c2) 0 [] (by rfl) W2 .nil HGW.out.size (by rfl) (Reads.hold HH.out.2 HGW.out) (fun a cs hh => one_note w a cs hh) ?_ (by decide) ?_; omega; intro v1 w3 ra; obtain ⟨xs2, rb, gb, -, lb, cb⟩ := ra; rw [Nat.zero_add, List.nil_append] at rb; have g1 := grown_nil rfl gb; obtain ⟨na, nc, e3, -⟩ := rb.slice; subst e3; have hb1 := g1.blk HB2.out; have HRN := Lib.hid rb; have HG3 := Lib.hid g1; have HLN := Lib.hid lb; have HCN := Lib.hid cb; obtain ⟨q0, q1, q2, q3, q4⟩ := sh5 hb1; have qf4 := frozen_of_row w3 w.heap.size 4 _ _ hb1; have hsz3 : w.heap.size < w3.heap.size := (Array.getElem?_eq_some_iff.1 hb1).1; clear rb gb lb cb g1 hb1)
  obtain ⟨Y0, hb0⟩ := copy_begin HH.out HGV.out HBX.out HRX.out HRB.out HG1.out HLB.out HCB.out HRN.out (by rw [HW2.out]; exact HG3.out) HLN.out HCN.out
  generalize w3.setCell ⟨w.heap.size, 4, none⟩ (.slice na s.notes.length nc) = W4 at *
  have HB0 := Lib.hid hb0
  clear p0 p1 p2 p3 p4 q0 q1 q2 q3 q4 qf4 hsz3 hsz HB2 HGW HW2 HBX HRX HRB HG1 HLB HCB HRN HG3 HLN HCN
  obtain ⟨k0, k1, k2, k3, k4⟩ := sh5 hb0.box
  have hw0 : w.heap.size < W4.heap.size := (Array.getElem?_eq_some_iff.1 hb0.box).1
  clear hb0
  go_wp2_with fail
  go_loopw [3] (fun v3 wx => ∃ i : Nat, v3 = .int .i64 i ∧ i ≤ s.notes.length ∧ ∃ Y, OwnBQ s w (.slice va s.books.length vc) (.slice na s.notes.length nc) Y i i wx) (fun v3 _ => s.notes.length - (Go.RowKit.intOf v3).toNat)
  case atStart => exact ⟨0, rfl, by omega, _, HB0.out⟩
  case round =>
    obtain ⟨i, rfl, hi, Y, hb⟩ := hrel
    have HB := Lib.hid hb
    obtain ⟨k0, k1, k2, k3, k4⟩ := sh5 hb.box
    have hw1 : w.heap.size < wr.heap.size := (Array.getElem?_eq_some_iff.1 hb.box).1
    have hYl : Y.length = s.notes.length := by rw [← hb.map, List.length_map]
    have HYL := Lib.hid hYl
    by_cases hlt : i < s.notes.length
    · have hlt' : (i : Int) < s.notes.length := by omega
      obtain ⟨y, hy, -⟩ := lt_get (l := Y) (i := i) (by omega)
      have HY := Lib.hid hy
      have hyn : s.notes[i]? = some y.n := by rw [← hb.map, List.getElem?_map, hy]; rfl
      obtain ⟨z1, z2, z3, z4⟩ := HZ.out.note hyn
      have hty := hb.own.trest i y (Nat.le_refl _) hy
      have hsy := hb.own.srest i y (Nat.le_refl _) hy
      have hnb : ∃ b, na = some ⟨b, 0, none⟩ := by
        have hc : (Y.flatMap noteC)[i * 5 + 3]? = some y.tv := by rw [flat_get noteC (fun _ => rfl) Y i 3 y hy (by decide)]; rfl
        obtain ⟨b, c, e, -⟩ := hb.own.notes.cell hc
        injection e with e; exact ⟨b, e⟩
      obtain ⟨nb, rfl⟩ := hnb
      have HNV := Lib.hid (show (Value.slice (some ⟨nb, 0, none⟩) s.notes.length nc) = .slice (some ⟨nb, 0, none⟩) Y.length nc by rw [hYl])
      have q3 := hb.own.note hy HNV.out 3 _ rfl
      obtain ⟨ta, tc, etv⟩ := hty.mk
      obtain ⟨sa, sc, esv⟩ := hsy.mk
      have HTV := Lib.hid etv
      have HSV := Lib.hid esv
      have HTR := Lib.hid (Reads.hold hty (hb.grow.trans (Grow.refl wr).drew))
      rw [etv] at HTR
      rw [etv] at q3
      have q3c := q3.1
      have q3f := q3.2.1
      have hnbz := q3.2.2
      clear hb hYl hy hyn hty hsy etv esv q3 HB0
      go_upto_region 6 with (fail)
      go_region_law (refine step_Rd (R := fun _ => TextR w) (l := y.n.tags) (base := wr.heap.size) (by rfl) _ _ 38 (by rfl) 9 it _ 1 16 Tryd.underlying38 hit itz0 itz1 itz2 (by rfl) (by decide) (.slice none 0 0) (.slice ta y.n.tags.length tc) 0 [] (by rfl) wr.drew .nil (Grow.refl wr).drew.size (by rfl) HTR.out (fun a cs hh => one_text w a cs hh) ?_ (by decide) ?_; (rw [Nat.zero_add]; omega); intro v' w4 ra; obtain ⟨xs1, rb, gb, -, lb, cb⟩ := ra; rw [Nat.zero_add, List.nil_append] at rb; have g1 := Grow.trans (Grow.refl wr).drew (grown_nil rfl gb); obtain ⟨va1, vc1, e3, -⟩ := rb.slice; subst e3; have HB1 := Lib.hid (copy_tags HB.out HY.out HNV.out rb g1 lb cb); have hb1 := Grow.blk g1 HB.out.box; obtain ⟨m0, m1, m2, m3, m4⟩ := sh5 hb1; have hz4 := Nat.lt_of_lt_of_le hw1 g1.size; have hz5 := Nat.lt_of_lt_of_le hnbz g1.size; have m5 := (g1.cells nb (i * 5 + 3) hnbz).trans q3c; have m6 := (g1.marks nb (i * 5 + 3) hnbz).trans q3f; clear rb gb lb cb g1 hb1)
      all_goals
        generalize w4.setCell ⟨nb, i * 5 + 3, none⟩ (.slice va1 y.n.tags.length vc1) = W5 at *
        clear k0 k1 k2 k3 k4 m0 m1 m2 m3 m4 m5 m6 hz4 hz5 q3c q3f hnbz HTR
        have hb5 := HB1.out
        have hy5 : (Y.set i { y with tv := .slice va1 y.n.tags.length vc1 })[i]? = some { y with tv := .slice va1 y.n.tags.length vc1 } := List.getElem?_set_self (List.getElem?_eq_some_iff.1 HY.out).1
        have HNV5 := Lib.hid (show (Value.slice (some ⟨nb, 0, none⟩) s.notes.length nc) = .slice (some ⟨nb, 0, none⟩) (Y.set i { y with tv := .slice va1 y.n.tags.length vc1 }).length nc by rw [List.length_set, HYL.out])
        have q4 := hb5.own.note hy5 HNV5.out 4 _ rfl
        have hsy := hb5.own.srest i _ (Nat.le_refl _) hy5
        have HSR := Lib.hid (Reads.hold hsy (hb5.grow.trans (Grow.refl W5).drew))
        replace q4 : W5.cell? ⟨nb, i * 5 + 4, none⟩ = some (.slice sa y.n.sheets.length sc) ∧ W5.frozen? ⟨nb, i * 5 + 4, none⟩ = false ∧ nb < W5.heap.size := by rw [← HSV.out]; exact q4
        replace HSR : Hid (Reads (fun _ => IntR w) 1 W5.drew (.slice sa y.n.sheets.length sc) y.n.sheets) := by rw [← HSV.out]; exact HSR
        have q4c := q4.1
        have q4f := q4.2.1
        have hnbz := q4.2.2
        have HY5 := Lib.hid hy5
        obtain ⟨k0, k1, k2, k3, k4⟩ := sh5 hb5.box
        have hw5 : w.heap.size < W5.heap.size := (Array.getElem?_eq_some_iff.1 hb5.box).1
        clear hb5 q4 hsy hy5
        go_upto_region 7 with (fail)
        go_region_law (refine step_Rd (R := fun _ => IntR w) (l := y.n.sheets) (base := W5.heap.size) (by rfl) _ _ 39 (by rfl) 3 ii _ 1 8 Tryd.underlying39 hii iiz0 iiz1 iiz2 (by rfl) (by decide) (.slice none 0 0) (.slice sa y.n.sheets.length sc) 0 [] (by rfl) W5.drew .nil (Grow.refl W5).drew.size (by rfl) HSR.out (fun a cs hh => one_int w a cs hh) ?_ (by decide) ?_; (rw [Nat.zero_add]; omega); intro v' w4 ra; obtain ⟨xs1, rb, gb, -, lb, cb⟩ := ra; rw [Nat.zero_add, List.nil_append] at rb; have g1 := Grow.trans (Grow.refl W5).drew (grown_nil rfl gb); obtain ⟨va2, vc2, e3, -⟩ := rb.slice; subst e3; have HB6 := Lib.hid (copy_ints HB1.out HY5.out HNV5.out rb g1 lb cb); have hb1 := Grow.blk g1 HB1.out.box; obtain ⟨m0, m1, m2, m3, m4⟩ := sh5 hb1; have hz4 := Nat.lt_of_lt_of_le hw5 g1.size; have hz5 := Nat.lt_of_lt_of_le hnbz g1.size; have m5 := (g1.cells nb (i * 5 + 4) hnbz).trans q4c; have m6 := (g1.marks nb (i * 5 + 4) hnbz).trans q4f; clear rb gb lb cb g1 hb1)
        all_goals
          go_wp2_with fail
          go_roundw
          case rel => exact ⟨i + 1, by go_num, by omega, _, HB6.out⟩
          case measure => simp [Go.RowKit.intOf]; omega
    · have hlt' : ¬ (i : Int) < s.notes.length := by omega
      obtain ⟨e0, e1, e2, e3, e4⟩ := sh5 hb.res
      have f0 := frozen_of_row wr (w.heap.size + 1) 0 _ _ hb.res
      have f1 := frozen_of_row wr (w.heap.size + 1) 1 _ _ hb.res
      have f2 := frozen_of_row wr (w.heap.size + 1) 2 _ _ hb.res
      have f3 := frozen_of_row wr (w.heap.size + 1) 3 _ _ hb.res
      have f4 := frozen_of_row wr (w.heap.size + 1) 4 _ _ hb.res
      have hi' : Y.length ≤ i := by omega
      have HOD := Lib.hid (show OwnD2 w.heap.size (.slice va s.books.length vc) (.slice na s.notes.length nc) s.books Y w (w.heap.size + 1) wr from ⟨hb.grow, hb.own.all hi' hi', _, hb.res⟩)
      have HMP := Lib.hid hb.map
      have hw2 : w.heap.size + 1 < wr.heap.size := (Array.getElem?_eq_some_iff.1 hb.res).1
      clear hb hYl HB0 hi'
      go_wp2_with fail
      refine bodyPost_ret (v := .agg #[.int .i64 s.nb, .int .i64 s.nn, .int .i64 s.ns, .slice va s.books.length vc, .slice na s.notes.length nc]) ?_ rfl ?_
      · rw [results_cell rfl]
        go_simp
      · have hfin : ∀ W', OwnD2 w.heap.size (.slice va s.books.length vc) (.slice na s.notes.length nc) s.books Y w (w.heap.size + 1) W' → RetOwn s w (.returned (.agg #[.int .i64 s.nb, .int .i64 s.nn, .int .i64 s.ns, .slice va s.books.length vc, .slice na s.notes.length nc])) W' := fun W' hW => ⟨_, _, Y, rfl, hW.2.1, HMP.out, hW.1⟩
        refine hfin _ ?_
        repeat' (first | with_reducible exact HOD.out | with_reducible refine OwnD2.set ?_ (by omega) _ _)
end Go.Proofs.YtnajccljdjllgaaDoor
set_option linter.unusedVariables false
set_option linter.unusedSimpArgs false
namespace Go.Proofs.YtnajccljdjllgaaDoor
open Go.RowKit Go.Lib
theorem grown_of_grow {w w' : World} (g : Grow w w') (b : Option Nat) : w.grownBy w' b := ⟨g.os, g.tape, g.output, g.size, fun k hk _ => g.block k hk⟩
theorem flat_drop {α : Type} (enc : α → List Value) {k : Nat} (hk : ∀ x, (enc x).length = k) : ∀ (l : List α) (i : Nat), (l.flatMap enc).drop (i * k) = (l.drop i).flatMap enc
  | l, 0 => by simp
  | [], i + 1 => by simp
  | x :: l, i + 1 => by
    rw [List.drop_succ_cons, ← flat_drop enc hk l i, List.flatMap_cons, Nat.add_mul, Nat.one_mul, Nat.add_comm, ← hk x, List.drop_append]
    simp [hk x]
theorem erase_cat {α : Type} (l : List α) (i : Nat) : l.eraseIdx i = l.take i ++ l.drop (i + 1) := List.eraseIdx_eq_take_drop_succ l i
theorem map_erase {α β : Type} (f : α → β) (l : List α) (i : Nat) : (l.eraseIdx i).map f = (l.map f).eraseIdx i := by rw [erase_cat, erase_cat, List.map_append, List.map_take, List.map_drop]
theorem erase_len {α : Type} {l : List α} {i : Nat} (h : i < l.length) : (l.eraseIdx i).length = i + (l.length - (i + 1)) := by rw [List.length_eraseIdx_of_lt h]; omega
section
variable {P : Program}
/-- What the append leaves. -/
def Erased {α : Type} (enc : α → List Value) (base : Nat) (e : TypeId) (k : Nat) (w : World) (b : Nat) (l : List α) (i : Nat) (v' : Value) (w' : World) : Prop :=
  RowO base e k v' (l.eraseIdx i).length ((l.eraseIdx i).flatMap enc) w' ∧ w.grownBy w' (some b) ∧ ∀ g, blkOf v' = some g → g = b ∨ w.heap.size ≤ g
theorem run_erase {α : Type} (enc : α → List Value) {t ty e : TypeId} {i0 : TypeInfo} {z : Value} {k bytes : Nat} (hk : ∀ x, (enc x).length = k) (ht : P.underlying t = some (.slice e)) (hi : P.info? e = some i0) (hz : i0.zero = some z) (hsize : i0.size = k) (hby : i0.bytes = bytes) (hzs : z.cells.size = k) (h0 : 0 < k)
    {base b c i n : Nat} {l : List α} {w : World} (h : RowO base e k (.slice (some ⟨b, 0, none⟩) n c) n (l.flatMap enc) w) (hn : l.length = n) (hil : i < n) (hbase : base ≤ w.heap.size) (h1 : ∀ x ∈ l, ∀ u ∈ enc x, u.oneCell' = true) (hz : n ≤ 1000000) (hbytes : bytes ≤ 100)
    (ad : Option Addr) (m c' : Nat) (hm : m = n - (i + 1)) (had : i + 1 < n → ad = some ⟨b, (i + 1) * k, none⟩) :
    ∃ v' w', (Builtin.append_ #[t, t] ty #[.slice (some ⟨b, 0, none⟩) i c, .slice ad m c']).run P w = .ok v' w' ∧ Erased enc base e k w b l i v' w' := by
  subst hn hm
  obtain ⟨a9, c9, e9, hc9⟩ := h.slice
  injection e9 with e1 e2 e3
  subst e3
  cases c with
  | zero => omega
  | succ c0 =>
  obtain ⟨-, cur, hcur⟩ := h.blk (g := b) rfl
  have hcut := h.cut hcur hcur rfl (by omega : i ≤ l.length) (fun j _ => rfl)
  rw [flat_take enc hk] at hcut
  by_cases hlast : i + 1 < l.length
  · rw [had hlast]
    have hnews : ∀ j u, ((l.drop (i + 1)).flatMap enc)[j]? = some u → w.cell? ((⟨b, (i + 1) * k, none⟩ : Addr).add j) = some u := fun j u hj => by
      have : (⟨b, (i + 1) * k, none⟩ : Addr).add j = ⟨b, (i + 1) * k + j, none⟩ := by simp [Addr.add]
      rw [this]
      rw [← flat_drop enc hk, List.getElem?_drop] at hj
      obtain ⟨b', c', e', h2, -⟩ := h.cell hj
      injection e' with e'
      injection e' with e'
      injection e' with e'
      subst e'
      exact h2
    obtain ⟨v', w', hrun, hr, hg, g, hg1, hg2⟩ := run_appO (P := P) (ty := ty) ht hi ‹_› hsize hby hzs h0 hcut hbase ⟨b, (i + 1) * k, none⟩ (l.length - (i + 1)) c' (by omega) ((l.drop (i + 1)).flatMap enc) (by rw [flat_len enc hk, List.length_drop]) hnews (fun u hu => by
      obtain ⟨x, hm, hx⟩ := List.mem_flatMap.1 hu
      exact h1 x (List.mem_of_mem_drop hm) u hx) (by omega) hbytes
    refine ⟨v', w', hrun, ?_, hg, fun g' hg' => ?_⟩
    · rw [erase_len hil, erase_cat, List.flatMap_append]; exact hr
    · rw [hg1] at hg'
      obtain rfl := Option.some.inj hg'
      rcases hg2 with hg2 | hg2
      · exact .inl (Option.some.inj hg2).symm
      · exact .inr hg2
  · have hm0 : l.length - (i + 1) = 0 := by omega
    rw [hm0]
    refine ⟨_, w, append_none ht hi _ ad (by omega) w, ?_, World.grownBy.refl w _, fun g hg => .inl (Option.some.inj hg).symm⟩
    rw [erase_len hil, hm0, erase_cat, List.drop_of_length_le (by omega), List.append_nil]
    exact hcut
theorem step_erase {α : Type} (enc : α → List Value) {ops : Array Oper} {o : Oper} {a : Act} {K : Act → World → Prop} {Q : Exit → Act → World → Prop} {E : Prop} {t e : TypeId} {i0 : TypeInfo} {z : Value} {k bytes : Nat} (hk : ∀ x, (enc x).length = k) (hgd : o.guard = none) (s x : Operand)
    (ho : o.op = .call { callee := .builtin .append, args := #[s, x], argTypes := #[t, t] }) (ht : P.underlying t = some (.slice e)) (hi : P.info? e = some i0) (hz : i0.zero = some z) (hsize : i0.size = k) (hby : i0.bytes = bytes) (hzs : z.cells.size = k) (h0 : 0 < k)
    {base b c i n : Nat} {l : List α} (w : World) (h : RowO base e k (.slice (some ⟨b, 0, none⟩) n c) n (l.flatMap enc) w) (hn : l.length = n) (hil : i < n) (hbase : base ≤ w.heap.size) (h1 : ∀ x ∈ l, ∀ u ∈ enc x, u.oneCell' = true) (hz : n ≤ 1000000) (hbytes : bytes ≤ 100)
    (ad : Option Addr) (m c' : Nat) (hs : a.eval s = .slice (some ⟨b, 0, none⟩) i c) (hx : a.eval x = .slice ad m c') (hm : m = n - (i + 1)) (had : i + 1 < n → ad = some ⟨b, (i + 1) * k, none⟩)
    (hk' : ∀ v' w', Erased enc base e k w b l i v' w' → K (a.put o.dst v') w') : if Region.wanted o (yielded ops a.tmps) = true then Oper.wp P o a w K Q else E := by
  have hw : Region.wanted o (yielded ops a.tmps) = true := by simp [Region.wanted, hgd]
  rw [if_pos hw]
  obtain ⟨v', w', hrun, h2⟩ := run_erase (P := P) (ty := o.type) enc hk ht hi ‹_› hsize hby hzs h0 h hn hil hbase h1 ‹_› hbytes ad m c' hm had
  unfold Oper.wp execOp
  simp only [ho, resolve, invoke, builtin, Sem.run_bind, Sem.run_pure, Result.andThen_ok, List.map_toArray, List.map_cons, List.map_nil, hs, hx, hrun]
  exact hk' _ _ h2
end
theorem nv_sl {base : Nat} {bv nv : Value} {X : List Book} {Y : List NV} {w : World} (h : OwnS base bv nv X Y w) : ∀ x ∈ Y, ∃ ta tn tc sa sn sc, x.tv = .slice ta tn tc ∧ x.sv = .slice sa sn sc := fun x hx => by
  obtain ⟨a, c, e, -⟩ := (h.tags x hx).slice
  obtain ⟨a', c', e', -⟩ := (h.sheets x hx).slice
  exact ⟨a, _, c, a', _, c', e, e'⟩
theorem nv_one {base : Nat} {bv nv : Value} {X : List Book} {Y : List NV} {w : World} (h : OwnS base bv nv X Y w) : ∀ y ∈ Y, ∀ u ∈ noteC y, u.oneCell' = true := fun y hy u hu => by
  obtain ⟨a, c, e, -⟩ := (h.tags y hy).slice
  obtain ⟨a', c', e', -⟩ := (h.sheets y hy).slice
  simp only [noteC, List.mem_cons, List.not_mem_nil, or_false] at hu
  rcases hu with rfl | rfl | rfl | rfl | rfl
  · rfl
  · rfl
  · rfl
  · rw [e]; rfl
  · rw [e']; rfl
theorem erase_filter {α : Type} {p : α → Bool} {l : List α} {i : Nat} {x : α} (hx : l[i]? = some x) (hp : p x = true) (ho : ∀ (j : Nat) y, j ≠ i → l[j]? = some y → p y = false) : l.eraseIdx i = l.filter (fun x => !p x) := by
  have hl := (List.getElem?_eq_some_iff.1 hx).1
  have hsplit : l = l.take i ++ x :: l.drop (i + 1) := by
    have h1 := List.take_append_drop i l
    have h2 : l.drop i = x :: l.drop (i + 1) := by rw [List.drop_eq_getElem_cons hl]; congr 1; exact (List.getElem?_eq_some_iff.1 hx).2
    rw [h2] at h1; exact h1.symm
  rw [erase_cat]
  conv => rhs; rw [hsplit]
  rw [List.filter_append, List.filter_cons, hp]
  have e1 : (l.take i).filter (fun x => !p x) = l.take i := List.filter_eq_self.2 fun y hy => by
    obtain ⟨j, hj⟩ := List.getElem?_of_mem hy
    rw [List.getElem?_take] at hj
    split at hj
    · rw [ho j y (by omega) hj]; rfl
    · cases hj
  have e2 : (l.drop (i + 1)).filter (fun x => !p x) = l.drop (i + 1) := List.filter_eq_self.2 fun y hy => by
    obtain ⟨j, hj⟩ := List.getElem?_of_mem hy
    rw [List.getElem?_drop] at hj
    rw [ho _ y (by omega) hj]; rfl
  rw [e1, e2]; simp
theorem erase_books {s : Shelf} (hp : MayP s) {i : Nat} {x : Book} (hx : s.books[i]? = some x) : s.books.eraseIdx i = s.books.filter fun b => !(b.id == x.id) :=
  erase_filter (p := fun b : Book => b.id == x.id) hx (by simp) fun j y hj hy => by
    rcases Nat.lt_or_gt_of_ne hj with h | h
    · have := pair_get hp.binc hy hx h; simp; omega
    · have := pair_get hp.binc hx hy h; simp; omega
theorem erase_notes {s : Shelf} (hp : MayP s) {i : Nat} {x : Note} (hx : s.notes[i]? = some x) : s.notes.eraseIdx i = s.notes.filter fun b => !(b.id == x.id) :=
  erase_filter (p := fun b : Note => b.id == x.id) hx (by simp) fun j y hj hy => by
    rcases Nat.lt_or_gt_of_ne hj with h | h
    · have := pair_get hp.ninc hy hx h; simp; omega
    · have := pair_get hp.ninc hx hy h; simp; omega
theorem erase_tags {l : List ByteArray} (h : l.Pairwise fun a b => ltS a b = true) {i : Nat} {t : ByteArray} (hx : l[i]? = some t) : l.eraseIdx i = l.filter fun x => !(x.toList == t.toList) :=
  erase_filter (p := fun x : ByteArray => x.toList == t.toList) hx (by simp) fun j y hj hy => toList_ne.2 fun e => by
    subst e
    rcases Nat.lt_or_gt_of_ne hj with h2 | h2
    · have := pair_get h hy hx h2; rw [ltS_irrefl] at this; cases this
    · have := pair_get h hx hy h2; rw [ltS_irrefl] at this; cases this
end Go.Proofs.YtnajccljdjllgaaDoor
set_option linter.unusedVariables false
set_option linter.unusedSimpArgs false
namespace Go.Proofs.YtnajccljdjllgaaDoor
open Go.RowKit Go.Lib
def atR (s : Shelf) (id : Int) : Res := resOf (noteE s id) s (noteIx s id)
def hasIx (t : ByteArray) (l : List ByteArray) : Int := idx (fun y : ByteArray => y.toList == t.toList) l
theorem hasT_ix (t : ByteArray) (l : List ByteArray) : hasT t l = decide (0 ≤ hasIx t l) := by
  rw [Bool.eq_iff_iff, decide_eq_true_eq]
  unfold hasT hasIx
  rw [idx_nonneg, List.any_eq_true]
/-- A shelf that was answered, its rows the call's own. -/
def RetAt (s : Shelf) (n : Int) (w : World) (e : Ending) (w' : World) : Prop := ∃ bv nv Y, e = .returned (.tuple #[shelfV s bv nv, .int .i64 n, .int .i64 0]) ∧ OwnS w.heap.size bv nv s.books Y w' ∧ Y.map NV.n = s.notes ∧ Grow w w'
theorem RetM.at {r : Res} {s : Shelf} {n : Int} (hr : r = ⟨s, n, 0⟩) {w w' : World} {e : Ending} (h : RetM r w e w') : RetAt s n w e w' := by
  subst hr
  obtain ⟨g, bv, nv, Y, h1, h2, h3⟩ := h
  exact ⟨bv, nv, Y, h1, h2, h3, g⟩
/-- None was answered. -/
def RetBad (n : Int) (w : World) (e : Ending) (w' : World) : Prop := ∃ xa xc ya yc, e = .returned (.tuple #[.agg #[.int .i64 0, .int .i64 0, .int .i64 0, .slice xa 0 xc, .slice ya 0 yc], .int .i64 0, .int .i64 n]) ∧ Grow w w'
theorem RetM.none {r : Res} {n : Int} (hr : r = bad n) {w w' : World} {e : Ending} (h : RetM r w e w') : RetBad n w e w' := by
  subst hr
  obtain ⟨g, bv, nv, Y, h1, h2, h3⟩ := h
  have hY : Y = [] := List.map_eq_nil_iff.1 h3
  subst hY
  obtain ⟨xa, xc, e1, -⟩ := h2.books.slice
  obtain ⟨ya, yc, e2, -⟩ := h2.notes.slice
  exact ⟨xa, xc, ya, yc, by rw [h1, e1, e2]; rfl, g⟩
set_option maxRecDepth 100000 in
set_option maxHeartbeats 4000000 in
theorem refAt_any (s : Shelf) (bv nv : Value) (id : Int) (w : World) (h : ShelfR w s bv nv) (hz : TameS s) :
    Calls Tryd.prog 57 #[shelfV s bv nv, .int .i64 id] w (RetM (atR s id) w) := by
  have hT := True.intro
  have cM := fun W (g : Grow w W) => refMay_any s bv nv W (h.grow g) hz
  have cO := fun W (g : Grow w W) => copy_any s bv nv W (h.grow g) hz.1
  have cK : ∀ W, Grow w W → Calls Tryd.prog 76 #[shelfV s bv nv, .int .i64 id] W fun e w' => e = .returned (.int .i64 (noteIx s id)) ∧ Grow W w' := fun W g => refNote_any s bv nv id W (h.grow g) (by have := hz.1.2.1; omega)
  have hnl := hz.1.2.1
  have hnd := idx_bd (fun x : Note => x.id == id) s.notes
  rw [show idx (fun x : Note => x.id == id) s.notes = noteIx s id from rfl] at hnd
  obtain ⟨a1, c1, rfl⟩ := h.1.mk
  obtain ⟨a2, c2, rfl⟩ := h.2.mk
  have HXX := Lib.hid (two_boxes2 w (shB s (.slice a1 s.books.length c1) (.slice a2 s.notes.length c2)) (shB ⟨0, 0, 0, [], []⟩ (.slice none 0 0) (.slice none 0 0)))
  clear h hz hT
  unfold shelfV at *
  go_enter Tryd.func57, Tryd.ntmps57
  go_upto_region 1 with (fail)
  generalize hV : (w.alloc (.cells #[.int .i64 s.nb, .int .i64 s.nn, .int .i64 s.ns, .slice a1 s.books.length c1, .slice a2 s.notes.length c2] 28)).alloc (.cells #[.int .i64 0, .int .i64 0, .int .i64 0, .slice none 0 0, .slice none 0 0] 28) = V
  have gV : Grow w V := by rw [← hV]; exact ((Grow.refl w).alloc _).alloc _
  have HBX : Hid (V.heap[w.heap.size]? = some (shB s (.slice a1 s.books.length c1) (.slice a2 s.notes.length c2))) := by rw [← hV]; exact Lib.hid HXX.out.1
  have HRX : Hid (V.heap[w.heap.size + 1]? = some (shB ⟨0, 0, 0, [], []⟩ (.slice none 0 0) (.slice none 0 0))) := by rw [← hV]; exact Lib.hid HXX.out.2
  obtain ⟨⟨p0, p1, p2, p3, p4⟩, hpz⟩ := n5 HBX.out
  clear hV
  have cM1 := cM V gV
  cases hm : mayS s with
  | false =>
    have HM := Lib.hid hm
    rw [hm] at cM1
    clear hm cO
    go_wp2_with fail
    refine cM1.mono ?_
    rintro e w1 ⟨rfl, g1⟩
    clear cM1 p0 p1 p2 p3 p4
    have HE := Lib.hid (show atR s id = bad 2 from res_bad (by unfold noteE; rw [if_pos HM.out]) (by decide) _ _)
    obtain ⟨⟨e0, e1, e2, e3, e4⟩, hez⟩ := n5 (g1.blk HRX.out)
    have f0 := frozen_of_row _ (w.heap.size + 1) 0 _ _ (g1.blk HRX.out)
    have f1 := frozen_of_row _ (w.heap.size + 1) 1 _ _ (g1.blk HRX.out)
    have f2 := frozen_of_row _ (w.heap.size + 1) 2 _ _ (g1.blk HRX.out)
    have f3 := frozen_of_row _ (w.heap.size + 1) 3 _ _ (g1.blk HRX.out)
    have f4 := frozen_of_row _ (w.heap.size + 1) 4 _ _ (g1.blk HRX.out)
    go_wp2_with fail
    refine bodyPost_ret (v := .tuple #[.agg #[.int .i64 0, .int .i64 0, .int .i64 0, .slice none 0 0, .slice none 0 0], .int .i64 0, .int .i64 2]) ?_ rfl ?_
    · rw [results_cell_tmp2 (P := Tryd.prog) rfl]
      go_simp
    · refine ret_badM HE.out ?_
      repeat' (first | with_reducible exact gV.trans g1 | with_reducible refine Grow.set ?_ (by first | (simp; done) | (simp; omega)) _)
  | true =>
    have HM := Lib.hid hm
    rw [hm] at cM1
    clear hm
    go_wp2_with fail
    refine cM1.mono ?_
    rintro e w1 ⟨rfl, g1⟩
    clear cM1 p0 p1 p2 p3 p4
    obtain ⟨⟨p0, p1, p2, p3, p4⟩, hpz⟩ := n5 (g1.blk HBX.out)
    have cK1 := cK _ (gV.trans g1)
    by_cases hi : noteIx s id < 0
    · have HI := Lib.hid hi
      clear cO
      go_wp2_with fail
      refine cK1.mono ?_
      rintro e w2 ⟨rfl, g2⟩
      have gg := g1.trans g2
      clear cK1 g2 p0 p1 p2 p3 p4 hpz
      have HE := Lib.hid (show atR s id = bad 4 from res_bad (by unfold noteE; rw [if_neg (by rw [HM.out]; simp), if_pos HI.out]) (by decide) _ _)
      obtain ⟨⟨e0, e1, e2, e3, e4⟩, hez⟩ := n5 (gg.blk HRX.out)
      have f0 := frozen_of_row _ (w.heap.size + 1) 0 _ _ (gg.blk HRX.out)
      have f1 := frozen_of_row _ (w.heap.size + 1) 1 _ _ (gg.blk HRX.out)
      have f2 := frozen_of_row _ (w.heap.size + 1) 2 _ _ (gg.blk HRX.out)
      have f3 := frozen_of_row _ (w.heap.size + 1) 3 _ _ (gg.blk HRX.out)
      have f4 := frozen_of_row _ (w.heap.size + 1) 4 _ _ (gg.blk HRX.out)
      go_wp2_with fail
      refine bodyPost_ret (v := .tuple #[.agg #[.int .i64 0, .int .i64 0, .int .i64 0, .slice none 0 0, .slice none 0 0], .int .i64 0, .int .i64 4]) ?_ rfl ?_
      · rw [results_cell_tmp2 (P := Tryd.prog) rfl]
        go_simp
      · refine ret_badM HE.out ?_
        repeat' (first | with_reducible exact gV.trans gg | with_reducible refine Grow.set ?_ (by first | (simp; done) | (simp; omega)) _)
    · have HI := Lib.hid hi
      go_wp2_with fail
      refine cK1.mono ?_
      rintro e w2 ⟨rfl, g2⟩
      have gg := g1.trans g2
      clear cK1 g2 p0 p1 p2 p3 p4 hpz
      obtain ⟨⟨p0, p1, p2, p3, p4⟩, hpz⟩ := n5 (gg.blk HBX.out)
      have HE := Lib.hid (show atR s id = ⟨s, noteIx s id, 0⟩ from resOf_ok (noteE_zero.2 ⟨HM.out, by have := HI.out; omega⟩) _ _)
      have cO1 := cO _ (gV.trans gg)
      go_wp2_with fail
      refine cO1.mono ?_
      rintro e w3 ⟨bv', nv', Y, rfl, ho, hmap, g3⟩
      obtain ⟨ba, bc, ebv, -⟩ := ho.books.slice
      obtain ⟨na, nc, env, -⟩ := ho.notes.slice
      subst ebv env
      have HMAP := Lib.hid hmap
      have hbox := (gg.trans g3).blk HRX.out
      have HOD := Lib.hid (show OwnD2 w.heap.size (.slice ba s.books.length bc) (.slice na Y.length nc) s.books Y w (w.heap.size + 1) w3 from ⟨(gV.trans gg).trans g3, ho.base_mono (gV.trans gg).size, _, hbox⟩)
      obtain ⟨⟨e0, e1, e2, e3, e4⟩, hez⟩ := n5 hbox
      have f0 := frozen_of_row _ (w.heap.size + 1) 0 _ _ hbox
      have f1 := frozen_of_row _ (w.heap.size + 1) 1 _ _ hbox
      have f2 := frozen_of_row _ (w.heap.size + 1) 2 _ _ hbox
      have f3 := frozen_of_row _ (w.heap.size + 1) 3 _ _ hbox
      have f4 := frozen_of_row _ (w.heap.size + 1) 4 _ _ hbox
      clear cO1 cO ho hmap g3 p0 p1 p2 p3 p4 hpz hbox
      unfold shelfV
      go_wp2_with fail
      refine bodyPost_ret (v := .tuple #[.agg #[.int .i64 s.nb, .int .i64 s.nn, .int .i64 s.ns, .slice ba s.books.length bc, .slice na Y.length nc], .int .i64 (noteIx s id), .int .i64 0]) ?_ rfl ?_
      · rw [results_cell_tmp2 (P := Tryd.prog) rfl]
        go_simp
      · refine ret_okM (D := w.heap.size + 1) (s := s) HE.out ?_ HMAP.out
        repeat' (first | with_reducible exact HOD.out | with_reducible refine OwnD2.drew ?_ | with_reducible refine OwnD2.set ?_ (by omega) _ _)
set_option maxRecDepth 100000 in
set_option maxHeartbeats 1000000 in
theorem refHas_any (x : Note) (tv sv : Value) (t : ByteArray) (w : World) (h : Texts w tv x.tags) (hz : x.tags.length ≤ 1000000) :
    Calls Tryd.prog 90 #[.agg #[.int .i64 x.id, .int .i64 x.book, .string x.name, tv, sv], .string t] w fun e w' => e = .returned (.int .i64 (hasIx t x.tags)) ∧ Grow w w' := by
  obtain ⟨a1, c1, rfl⟩ := h.mk
  have HH := Lib.hid h
  clear h
  go_enter Tryd.func90, Tryd.ntmps90
  go_upto_region 1 with (fail)
  generalize hV : w.alloc (.cells #[.int .i64 x.id, .int .i64 x.book, .string x.name, .slice a1 x.tags.length c1, sv] 41) = V
  have gV : Grow w V := by rw [← hV]; exact (Grow.refl w).alloc _
  have q3 : V.cell? ⟨w.heap.size, 3, none⟩ = some (.slice a1 x.tags.length c1) := by rw [← hV]; simp [go_sem]
  clear hV
  go_wp2_with fail
  go_loop [5] (fun v5 => ∃ j : Nat, v5 = .int .i64 j ∧ j ≤ x.tags.length ∧ ∀ (k : Nat) y, k < j → x.tags[k]? = some y → (y.toList == t.toList) = false) (fun v5 => x.tags.length - (intOf v5).toNat)
  case atStart => exact ⟨0, rfl, by omega, fun k x h => absurd h (by omega)⟩
  case round =>
    obtain ⟨j, rfl, hj, hall⟩ := hrel
    have HA := Lib.hid hall
    clear hall
    by_cases hlt : j < x.tags.length
    · have hlt' : (j : Int) < x.tags.length := by omega
      obtain ⟨y, hy, -⟩ := lt_get hlt
      obtain ⟨bb, off, rfl, hbb, p0⟩ := (Texts.grow HH.out gV).at hy
      have HX := Lib.hid hy
      clear hy
      cases hp : (y.toList == t.toList)
      · have HP := Lib.hid hp
        go_wp2_with fail
        go_round
        case rel => exact ⟨j + 1, by go_num, by omega, fun k z hk hz => by
          rcases (by omega : k < j ∨ k = j) with h3 | rfl
          · exact HA.out k z h3 hz
          · rw [HX.out] at hz; injection hz with hz; rw [← hz]; exact HP.out⟩
        case measure => simp [intOf]; omega
      · have HR := Lib.hid (idx_some (p := fun y : ByteArray => y.toList == t.toList) HX.out hp HA.out)
        go_wp2_with fail
        go_ret
        exact ⟨ret_int HR.out.symm, gV⟩
    · have HR := Lib.hid (idx_none (p := fun y : ByteArray => y.toList == t.toList) (l := x.tags) (fun k x hx => HA.out k x (by have := (List.getElem?_eq_some_iff.1 hx).1; omega) hx))
      have hlt' : ¬ (j : Int) < x.tags.length := by omega
      go_wp2_with fail
      go_ret
      exact ⟨ret_int HR.out.symm, gV⟩
theorem drop_get {α : Type} {l : List α} {j : Nat} {y : α} (hy : l[j]? = some y) : l.drop j = y :: l.drop (j + 1) := by
  obtain ⟨h, e⟩ := List.getElem?_eq_some_iff.1 hy
  rw [List.drop_eq_getElem_cons h, e]
theorem insT_stop {l : List ByteArray} {t y : ByteArray} {j : Nat} (hy : l[j]? = some y) (hp : ltS y t = false) : insT t (l.drop j) = t :: l.drop j := by
  rw [drop_get hy, insT, if_neg (by rw [hp]; simp)]
theorem insT_next {l : List ByteArray} {t y : ByteArray} {j : Nat} (hy : l[j]? = some y) (hp : ltS y t = true) : l.take (j + 1) ++ insT t (l.drop (j + 1)) = l.take j ++ insT t (l.drop j) := by
  rw [drop_get hy, insT, if_pos hp, List.take_add_one, hy]; simp
theorem textsRd {base : Nat} {W w' : World} {v v' : Value} {n : Nat} {l0 l : List ByteArray} (h : AppRd TextR base 9 1 W v n (strC l0) l v' w') (hn : n = l0.length) : RowO base 9 1 v' (n + l.length) (strC (l0 ++ l)) w' ∧ W.grownBy w' (blkOf v) := by
  obtain ⟨news, h1, h2, -, h4, h5⟩ := h
  have := text_cells (w := W) l news h4 h5
  subst this hn
  refine ⟨?_, h2⟩
  unfold strC at h1 ⊢
  rw [List.map_append]
  exact h1
theorem texts_drop {W : World} {tb ad : Option Addr} {n c c' k m : Nat} {l : List ByteArray} (h : Texts W (.slice tb n c) l) (hk : k ≤ n) (hm : m = n - k) (had : k < n → ad = tb.map fun x => x.add k) (hc : m ≤ c') : Texts W (.slice ad m c') (l.drop k) := by
  obtain ⟨a', cc, e, hcc, hr⟩ := h
  injection e with e1 e2 e3
  subst e1 e2 e3 hm
  refine ⟨ad, c', by rw [List.length_drop], by rw [List.length_drop]; exact hc, fun hp => ?_⟩
  rw [List.length_drop] at hp ⊢
  obtain ⟨b, off, eb, hb, hcs⟩ := hr (by omega)
  subst eb
  refine ⟨b, off + k, (had (by omega)).trans (by simp [Addr.add]), hb, fun i hi => ?_⟩
  obtain ⟨cs, h1, h2, h3⟩ := hcs (k + i) (by omega)
  refine ⟨cs, h1, fun x hx => h2 x (by rw [List.getElem?_drop] at hx; exact hx), fun q v hq => ?_⟩
  have := h3 q v hq
  rw [show off + k + i * 1 + q = off + (k + i) * 1 + q by omega]
  exact this
theorem flat_str (l : List ByteArray) : l.flatMap (fun u : ByteArray => [Value.string u]) = strC l := by
  unfold strC
  induction l with
  | nil => rfl
  | cons x l ih => rw [List.flatMap_cons, ih]; rfl
theorem flat_int (l : List Int) : l.flatMap (fun u : Int => [Value.int .i64 u]) = intC l := by
  unfold intC
  induction l with
  | nil => rfl
  | cons x l ih => rw [List.flatMap_cons, ih]; rfl
theorem Reads.sub {α : Type} {R : World → α → List Value → Prop} {k : Nat} {w : World} {b off n c : Nat} {l : List α} (h : Reads R k w (.slice (some ⟨b, off, none⟩) n c) l) {j : Nat} (hj : j ≤ n) {ad : Option Addr} {c' : Nat} (had : j < n → ad = some ⟨b, off + j * k, none⟩) (hc' : n - j ≤ c') : Reads R k w (.slice ad (n - j) c') (l.drop j) := by
  obtain ⟨a', cc, e, hc, hr⟩ := h
  injection e with e1 e2 e3
  subst e1 e2 e3
  refine ⟨ad, c', by rw [List.length_drop], by rw [List.length_drop]; omega, fun hp => ?_⟩
  rw [List.length_drop] at hp ⊢
  obtain ⟨b', off', eb, hb, hcs⟩ := hr (by omega)
  injection eb with eb
  injection eb with eb1 eb2
  subst eb1 eb2
  refine ⟨b, off + j * k, had (by omega), hb, fun i hi => ?_⟩
  obtain ⟨cs, h1, h2, h3⟩ := hcs (j + i) (by omega)
  refine ⟨cs, h1, fun x hx => h2 x (by rw [List.getElem?_drop] at hx; exact hx), fun q v hq => ?_⟩
  have := h3 q v hq
  rw [show off + j * k + i * k + q = off + (j + i) * k + q by rw [Nat.add_mul]; omega]
  exact this
end Go.Proofs.YtnajccljdjllgaaDoor
set_option linter.unusedVariables false
set_option linter.unusedSimpArgs false
namespace Go.Proofs.YtnajccljdjllgaaDoor
open Go.RowKit Go.Lib
set_option maxRecDepth 100000 in
set_option maxHeartbeats 16000000 in
theorem refTag_any (s : Shelf) (bv nv : Value) (id : Int) (t : ByteArray) (w : World) (h : ShelfR w s bv nv) (hz : TameS s) (ht : t.size ≤ 1000000000) (hT : Tabs w) :
    Calls Tryd.prog 49 #[shelfV s bv nv, .int .i64 id, .string t] w (RetC (tagR s id t) w) := by
  obtain ⟨it, hit, itz0, itz1, itz2⟩ := info_parts info_text
  have cA := fun W (g : Grow w W) => refAt_any s bv nv id W (h.grow g) hz
  have cN := fun W => ref_may t W ht
  have HZ := Lib.hid hz
  have HH := Lib.hid h
  obtain ⟨a1, c1, rfl⟩ := h.1.mk
  obtain ⟨a2, c2, rfl⟩ := h.2.mk
  have HXX := Lib.hid (two_boxes2 w (shB s (.slice a1 s.books.length c1) (.slice a2 s.notes.length c2)) (shB ⟨0, 0, 0, [], []⟩ (.slice none 0 0) (.slice none 0 0)))
  clear h hz hT
  unfold shelfV at *
  go_enter Tryd.func49, Tryd.ntmps49
  go_upto_region 1 with (fail)
  generalize hV : (w.alloc (.cells #[.int .i64 s.nb, .int .i64 s.nn, .int .i64 s.ns, .slice a1 s.books.length c1, .slice a2 s.notes.length c2] 28)).alloc (.cells #[.int .i64 0, .int .i64 0, .int .i64 0, .slice none 0 0, .slice none 0 0] 28) = V
  have gV : Grow w V := by rw [← hV]; exact ((Grow.refl w).alloc _).alloc _
  have HBX : Hid (V.heap[w.heap.size]? = some (shB s (.slice a1 s.books.length c1) (.slice a2 s.notes.length c2))) := by rw [← hV]; exact Lib.hid HXX.out.1
  have HRX : Hid (V.heap[w.heap.size + 1]? = some (shB ⟨0, 0, 0, [], []⟩ (.slice none 0 0) (.slice none 0 0))) := by rw [← hV]; exact Lib.hid HXX.out.2
  obtain ⟨⟨p0, p1, p2, p3, p4⟩, hpz⟩ := n5 HBX.out
  clear hV
  rcases noteE_cases s id with h0 | ⟨h0, h1⟩
  rotate_left
  · have HEE := Lib.hid (show tagE s id t = noteE s id from tagE_of h0 t)
    have HN0 := Lib.hid h0
    have HBAD := Lib.hid (show atR s id = bad (noteE s id) from resOf_no h0 _ _)
    have cA1 := (cA V gV).mono fun _ _ => RetM.none HBAD.out
    generalize noteE s id = n at *
    clear cA h0
    go_wp2_with fail
    refine cA1.mono ?_
    rintro e w1 ⟨xa, xc, ya, yc, rfl, g1⟩
    clear cA1 p0 p1 p2 p3 p4 hpz
    have hb1 := g1.blk HBX.out
    obtain ⟨⟨p0, p1, p2, p3, p4⟩, hpz⟩ := n5 hb1
    have ff0 := frozen_of_row w1 w.heap.size 0 _ _ hb1
    have ff1 := frozen_of_row w1 w.heap.size 1 _ _ hb1
    have ff2 := frozen_of_row w1 w.heap.size 2 _ _ hb1
    have ff3 := frozen_of_row w1 w.heap.size 3 _ _ hb1
    have ff4 := frozen_of_row w1 w.heap.size 4 _ _ hb1
    have h5 := set5 hb1 (.int .i64 0) (.int .i64 0) (.int .i64 0) (.slice xa 0 xc) (.slice ya 0 yc)
    have hr5 := set5_other (.int .i64 0) (.int .i64 0) (.int .i64 0) (.slice xa 0 xc) (.slice ya 0 yc) (show w.heap.size + 1 ≠ w.heap.size by omega) (g1.blk HRX.out)
    have hg5 := h5.2.grow (gV.trans g1) (Nat.le_refl _)
    unfold set5w at h5 hr5 hg5
    go_upto_region 2 with (fail)
    generalize ((((w1.setCell ⟨w.heap.size, 0, none⟩ (.int .i64 0)).setCell ⟨w.heap.size, 1, none⟩ (.int .i64 0)).setCell ⟨w.heap.size, 2, none⟩ (.int .i64 0)).setCell ⟨w.heap.size, 3, none⟩ (.slice xa 0 xc)).setCell ⟨w.heap.size, 4, none⟩ (.slice ya 0 yc) = W at *
    have HRW := Lib.hid hr5
    have HGW := Lib.hid hg5
    clear p0 p1 p2 p3 p4 hpz ff0 ff1 ff2 ff3 ff4 h5 hr5 hg5 hb1
    have HE := Lib.hid (show tagR s id t = bad n from res_bad HEE.out HN0.out _ _)
    obtain ⟨⟨e0, e1, e2, e3, e4⟩, hez⟩ := n5 HRW.out
    have f0 := frozen_of_row _ (w.heap.size + 1) 0 _ _ HRW.out
    have f1 := frozen_of_row _ (w.heap.size + 1) 1 _ _ HRW.out
    have f2 := frozen_of_row _ (w.heap.size + 1) 2 _ _ HRW.out
    have f3 := frozen_of_row _ (w.heap.size + 1) 3 _ _ HRW.out
    have f4 := frozen_of_row _ (w.heap.size + 1) 4 _ _ HRW.out
    go_wp2_with fail
    refine bodyPost_ret (v := .tuple #[.agg #[.int .i64 0, .int .i64 0, .int .i64 0, .slice none 0 0, .slice none 0 0], .int .i64 n]) ?_ rfl ?_
    · rw [results_cell_tmp rfl]
      go_simp
    · refine ret_badC HE.out ?_
      repeat' (first | with_reducible exact HGW.out | with_reducible refine Grow.set ?_ (by first | (simp; done) | (simp; omega)) _)
  · have HN0 := Lib.hid h0
    obtain ⟨i, hi1, hi2, hil, hx, hxid⟩ := note_here h0
    have HAT := Lib.hid (show atR s id = ⟨s, i, 0⟩ by rw [atR, resOf_ok h0, hi2])
    obtain ⟨x, hxx⟩ : ∃ x, x = noteOf s id := ⟨_, rfl⟩
    rw [← hxx] at hx hxid
    have HXN := Lib.hid hxx
    have HX := Lib.hid hx
    have HXID := Lib.hid hxid
    have hil' : (i : Int) < s.notes.length := by omega
    obtain ⟨z1, z2, z3, z4⟩ := HZ.out.1.note hx
    have HMY := Lib.hid (mayS_iff.1 (noteE_zero.1 h0).1)
    clear h0 hi1 hi2 hxid hxx hx
    have cO1 := (cA V gV).mono fun _ _ => RetM.at HAT.out
    go_wp2_with fail
    refine cO1.mono ?_
    rintro e w3 ⟨bv', nv', Y, rfl, ho, hmap, g3⟩
    have hs : StB w w.heap.size (w.heap.size + 1) s.nb s.nn s.ns bv' nv' s.books Y (((((w3.setCell ⟨w.heap.size, 0, none⟩ (.int .i64 s.nb)).setCell ⟨w.heap.size, 1, none⟩ (.int .i64 s.nn)).setCell ⟨w.heap.size, 2, none⟩ (.int .i64 s.ns)).setCell ⟨w.heap.size, 3, none⟩ bv').setCell ⟨w.heap.size, 4, none⟩ nv') := StB.start (s := s) (D := w.heap.size + 1) gV HBX.out HRX.out (Grow.refl V) g3 ho ⟨Nat.le_refl _, by omega, by omega⟩
    obtain ⟨ba, bc, ebv, -⟩ := ho.books.slice
    obtain ⟨na, nc, env, -⟩ := ho.notes.slice
    have hYl : Y.length = s.notes.length := by rw [← hmap, List.length_map]
    rw [hYl] at env
    have HMAP := Lib.hid hmap
    have HYL := Lib.hid hYl
    subst ebv env
    obtain ⟨⟨p0', p1', p2', p3', p4'⟩, hpz'⟩ := n5 (((Grow.refl V).trans g3).blk HBX.out)
    have HF3 := Lib.hid (frozen_of_row w3 w.heap.size 0 _ _ (((Grow.refl V).trans g3).blk HBX.out))
    have ff : ∀ j, w3.frozen? ⟨w.heap.size, j, none⟩ = false := fun j => frozen_of_row w3 w.heap.size j _ _ (((Grow.refl V).trans g3).blk HBX.out)
    have ff0 := ff 0
    have ff1 := ff 1
    have ff2 := ff 2
    have ff3 := ff 3
    have ff4 := ff 4
    have HOW3 := Lib.hid ho
    have HG3 := Lib.hid ((Grow.refl V).trans g3)
    have hw3 : w.heap.size < w3.heap.size := hpz'
    clear cO1 cA ho hmap g3 hYl p0 p1 p2 p3 p4 ff
    unfold shelfV
    go_upto_region 2 with (fail)
    generalize ((((w3.setCell ⟨w.heap.size, 0, none⟩ (.int .i64 s.nb)).setCell ⟨w.heap.size, 1, none⟩ (.int .i64 s.nn)).setCell ⟨w.heap.size, 2, none⟩ (.int .i64 s.ns)).setCell ⟨w.heap.size, 3, none⟩ (.slice ba s.books.length bc)).setCell ⟨w.heap.size, 4, none⟩ (.slice na s.notes.length nc) = W at *
    have HS := Lib.hid hs
    obtain ⟨⟨p0, p1, p2, p3, p4⟩, hpz⟩ := hs.five
    have hb3 := hs.boxF 3
    have hb4 := hs.boxF 4
    clear hs p0' p1' p2' p3' p4' ff0 ff1 ff2 ff3 ff4 hpz'
    obtain ⟨z, hz, hzn⟩ := nv_get HMAP.out HX.out
    have HZN := Lib.hid hzn
    have HY := Lib.hid hz
    obtain ⟨b, cc, ebb, hbz, -, -, hcl⟩ := HS.out.own.note hz
    rw [HYL.out] at ebb
    injection ebb with eb1 eb2 eb3
    subst eb1 eb3
    have hrt := HS.out.own.tags z (List.mem_of_getElem? hz)
    have hrs := HS.out.own.sheets z (List.mem_of_getElem? hz)
    rw [hzn] at hrt hrs
    obtain ⟨tb, tcc, ezt, htcc⟩ := hrt.slice
    obtain ⟨sb, scc, ezs, hscc⟩ := hrs.slice
    rw [ezt] at hrt
    rw [ezs] at hrs
    have HEZT := Lib.hid ezt
    have HEZS := Lib.hid ezs
    have HRT := Lib.hid hrt
    have HRS := Lib.hid hrs
    obtain ⟨q3, qf3⟩ := hcl 3 _ rfl
    obtain ⟨q4, qf4⟩ := hcl 4 _ rfl
    have q0 : W.cell? ⟨b, i * 5, none⟩ = some (.int .i64 z.n.id) := (hcl 0 _ rfl).1
    have q1 := (hcl 1 _ rfl).1
    have q2 := (hcl 2 _ rfl).1
    rw [hzn] at q0 q1 q2
    rw [ezt] at q3
    rw [ezs] at q4
    clear hcl hz hzn ezt ezs hrt hrs
    have cN1 := cN W
    have cH := fun W' (g : Grow W W') => refHas_any x (.slice tb x.tags.length tcc) (.slice sb x.sheets.length scc) t W' (row_texts (HRT.out.grow g)) z2
    cases hn : mayB t with
    | false =>
      have HN := Lib.hid hn
      rw [hn] at cN1
      have HRW := Lib.hid HS.out.res
      have HGW := Lib.hid HS.out.grow
      clear hn
      go_wp2_with fail
      refine cN1.mono ?_
      rintro e w4 ⟨rfl, rfl⟩
      clear cN1 cH p0 p1 p2 p3 p4 hpz q0 q1 q2 q3 qf3 q4 qf4
      have HE := Lib.hid (show tagR s id t = bad 6 from res_bad (by unfold tagE; rw [if_neg (by rw [(noteE_zero.1 HN0.out).1]; simp), if_neg (by have := (noteE_zero.1 HN0.out).2; omega), if_pos HN.out]) (by decide) _ _)
      obtain ⟨⟨e0, e1, e2, e3, e4⟩, hez⟩ := n5 HRW.out
      have f0 := frozen_of_row _ (w.heap.size + 1) 0 _ _ HRW.out
      have f1 := frozen_of_row _ (w.heap.size + 1) 1 _ _ HRW.out
      have f2 := frozen_of_row _ (w.heap.size + 1) 2 _ _ HRW.out
      have f3 := frozen_of_row _ (w.heap.size + 1) 3 _ _ HRW.out
      have f4 := frozen_of_row _ (w.heap.size + 1) 4 _ _ HRW.out
      go_wp2_with fail
      refine bodyPost_ret (v := .tuple #[.agg #[.int .i64 0, .int .i64 0, .int .i64 0, .slice none 0 0, .slice none 0 0], .int .i64 6]) ?_ rfl ?_
      · rw [results_cell_tmp rfl]
        go_simp
      · refine ret_badC HE.out ?_
        repeat' (first | with_reducible exact HGW.out | with_reducible refine Grow.set ?_ (by first | (simp; done) | (simp; omega)) _)
    | true =>
      have HN := Lib.hid hn
      rw [hn] at cN1
      clear hn
      go_wp2_with fail
      refine cN1.mono ?_
      rintro e w4 ⟨rfl, rfl⟩
      have cH1 := cH W (Grow.refl W)
      have hbd := idx_bd (fun y : ByteArray => y.toList == t.toList) x.tags
      rw [show idx (fun y : ByteArray => y.toList == t.toList) x.tags = hasIx t x.tags from rfl] at hbd
      clear cN1 cN cH
      by_cases hh : 0 ≤ hasIx t x.tags
      · have HHT := Lib.hid (show hasT t (noteOf s id).tags = true by rw [← HXN.out, hasT_ix]; exact decide_eq_true hh)
        have HSG := Lib.hid HS.out
        go_wp2_with fail
        refine cH1.mono ?_
        rintro e w4 ⟨rfl, g4⟩
        have HRW := Lib.hid (g4.blk HSG.out.res)
        have HGW := Lib.hid (HSG.out.grow.trans g4)
        clear cH1 p0 p1 p2 p3 p4 hpz q0 q1 q2 q3 qf3 q4 qf4
        have HE := Lib.hid (show tagR s id t = bad 7 from res_bad (by unfold tagE; rw [if_neg (by rw [(noteE_zero.1 HN0.out).1]; simp), if_neg (by have := (noteE_zero.1 HN0.out).2; omega), if_neg (by rw [HN.out]; simp), if_pos HHT.out]) (by decide) _ _)
        obtain ⟨⟨e0, e1, e2, e3, e4⟩, hez⟩ := n5 HRW.out
        have f0 := frozen_of_row _ (w.heap.size + 1) 0 _ _ HRW.out
        have f1 := frozen_of_row _ (w.heap.size + 1) 1 _ _ HRW.out
        have f2 := frozen_of_row _ (w.heap.size + 1) 2 _ _ HRW.out
        have f3 := frozen_of_row _ (w.heap.size + 1) 3 _ _ HRW.out
        have f4 := frozen_of_row _ (w.heap.size + 1) 4 _ _ HRW.out
        go_wp2_with fail
        refine bodyPost_ret (v := .tuple #[.agg #[.int .i64 0, .int .i64 0, .int .i64 0, .slice none 0 0, .slice none 0 0], .int .i64 7]) ?_ rfl ?_
        · rw [results_cell_tmp rfl]
          go_simp
        · refine ret_badC HE.out ?_
          repeat' (first | with_reducible exact HGW.out | with_reducible refine Grow.set ?_ (by first | (simp; done) | (simp; omega)) _)
      · have HHT := Lib.hid (show hasT t (noteOf s id).tags = false by rw [← HXN.out, hasT_ix]; exact decide_eq_false hh)
        have HHX := Lib.hid (show hasT t x.tags = false by rw [hasT_ix]; exact decide_eq_false hh)
        go_wp2_with fail
        refine cH1.mono ?_
        rintro e w4 ⟨rfl, g4⟩
        have hs4 := HS.out.more g4
        have q3' := (g4.cells b (i * 5 + 3) hbz).trans q3
        have qf3' := (g4.marks b (i * 5 + 3) hbz).trans qf3
        have hbz' := Nat.lt_of_lt_of_le hbz g4.size
        have hrt4 := HRT.out.grow g4
        have HRT4 := Lib.hid hrt4
        have HG4 := Lib.hid g4
        clear cH1 p0 p1 p2 p3 p4 hpz q0 q1 q2 q3 qf3 q4 qf4 hrt4
        have HS4 := Lib.hid hs4
        obtain ⟨⟨p0, p1, p2, p3, p4⟩, hpz⟩ := hs4.five
        clear hs4 HS
        by_cases hl : 4 ≤ (x.tags.length : Int)
        · have HL := Lib.hid (show 4 ≤ ((noteOf s id).tags.length : Int) by rw [← HXN.out]; exact hl)
          have HRW := Lib.hid HS4.out.res
          have HGW := Lib.hid HS4.out.grow
          have HE := Lib.hid (show tagR s id t = bad 3 from res_bad (by unfold tagE; rw [if_neg (by rw [(noteE_zero.1 HN0.out).1]; simp), if_neg (by have := (noteE_zero.1 HN0.out).2; omega), if_neg (by rw [HN.out]; simp), if_neg (by rw [HHT.out]; simp), if_pos HL.out]) (by decide) _ _)
          obtain ⟨⟨e0, e1, e2, e3, e4⟩, hez⟩ := n5 HRW.out
          have f0 := frozen_of_row _ (w.heap.size + 1) 0 _ _ HRW.out
          have f1 := frozen_of_row _ (w.heap.size + 1) 1 _ _ HRW.out
          have f2 := frozen_of_row _ (w.heap.size + 1) 2 _ _ HRW.out
          have f3 := frozen_of_row _ (w.heap.size + 1) 3 _ _ HRW.out
          have f4 := frozen_of_row _ (w.heap.size + 1) 4 _ _ HRW.out
          go_wp2_with fail
          refine bodyPost_ret (v := .tuple #[.agg #[.int .i64 0, .int .i64 0, .int .i64 0, .slice none 0 0, .slice none 0 0], .int .i64 3]) ?_ rfl ?_
          · rw [results_cell_tmp rfl]
            go_simp
          · refine ret_badC HE.out ?_
            repeat' (first | with_reducible exact HGW.out | with_reducible refine Grow.set ?_ (by first | (simp; done) | (simp; omega)) _)
        · have hez : tagE s id t = 0 := tagE_zero.2 ⟨(noteE_zero.1 HN0.out).1, (noteE_zero.1 HN0.out).2, HN.out, HHT.out, by rw [← HXN.out]; omega⟩
          have HE := Lib.hid (show tagR s id t = ⟨{ s with notes := updN id (fun n => { n with tags := insT t n.tags }) s.notes }, 0, 0⟩ from resOf_ok hez _ _)
          clear hez
          go_upto_block 1 with (fail)
          go_cut [11] (fun v11 wx => wx = w4 ∧ ∃ k : Nat, v11 = .int .i64 k ∧ k ≤ x.tags.length ∧ x.tags.take k ++ t :: x.tags.drop k = insT t x.tags)
          case first =>
            go_wp2_with fail
            go_loop [11] (fun v11 => ∃ j : Nat, v11 = .int .i64 j ∧ j ≤ x.tags.length ∧ x.tags.take j ++ insT t (x.tags.drop j) = insT t x.tags) (fun v11 => x.tags.length - (intOf v11).toNat)
            case atStart => exact ⟨0, rfl, by omega, rfl⟩
            case round =>
              obtain ⟨j, rfl, hj, hall⟩ := hrel
              have HA := Lib.hid hall
              clear hall
              by_cases hlt : j < x.tags.length
              · have hlt' : (j : Int) < x.tags.length := by omega
                obtain ⟨y, hy, -⟩ := lt_get hlt
                obtain ⟨bb, off, hbe, hbb, m0⟩ := (row_texts HRT4.out).at hy
                have HYY := Lib.hid hy
                subst hbe
                clear hy
                cases hp : ltS y t
                · have HP := Lib.hid hp
                  have hpl : Op.bytesLess y.toList t.toList = false := hp
                  go_wp2_with fail
                  go_meet
                  exact ⟨rfl, j, rfl, hj, by rw [← HA.out]; congr 1; exact (insT_stop HYY.out HP.out).symm⟩
                · have HP := Lib.hid hp
                  have hpl : Op.bytesLess y.toList t.toList = true := hp
                  go_wp2_with fail
                  go_round
                  case rel => exact ⟨j + 1, by go_num, by omega, by rw [← HA.out]; exact insT_next HYY.out HP.out⟩
                  case measure => simp [intOf]; omega
              · have hlt' : ¬ (j : Int) < x.tags.length := by omega
                go_wp2_with fail
                go_meet
                exact ⟨rfl, j, rfl, hj, by rw [← HA.out, List.drop_of_length_le (by omega)]; rfl⟩
          case rest =>
            obtain ⟨rfl, k, rfl, hk, hins⟩ := hcut
            have HINS := Lib.hid hins
            clear hins
            have hlk : (x.tags.take k).length = k := by rw [List.length_take]; omega
            have HT1 := Lib.hid (Reads.take (Texts.grow (row_texts HRT4.out) (Grow.refl wc).drew) (i := k) hk)
            have HT1B := Lib.hid (Reads.take (Texts.grow (row_texts HRT4.out) ((Grow.refl wc).alloc (.cells #[.string t] 9)).drew) (i := k) hk)
            have HC0 := Lib.hid (Texts.grow (show Texts (wc.alloc (.cells #[.string t] 9)) (.slice (some ⟨wc.heap.size, 0, none⟩) 1 1) [t] from lit_reads (fun t : ByteArray => [Value.string t]) (fun _ => rfl) wc [t] 9 (fun x => rfl)) (Grow.refl _).drew)
            have hkc : (k : Int) ≤ tcc := by omega
            have hkx : (k : Int) ≤ x.tags.length := by omega
            have HLK := Lib.hid hlk
            have hl3 : x.tags.length ≤ 1000000 := z2
            clear hlk
            go_wp2_with fail
            have HKK := Lib.hid hk
            have HTC := Lib.hid htcc
            have hbB : ¬ b = w.heap.size := fun e => by
              obtain ⟨-, cur, hc⟩ := HS4.out.nrow HY.out (by rw [HYL.out])
              rw [e, HS4.out.box] at hc
              injection hc with hc
              injection hc with h1 h2
              revert h2; decide
            have hBb : ¬ w.heap.size = b := fun e => hbB e.symm
            go_cut [] (fun wx => ∃ va vc, StB w w.heap.size (w.heap.size + 1) s.nb s.nn s.ns (.slice ba s.books.length bc) (.slice (some ⟨b, 0, none⟩) s.notes.length nc) s.books (Y.set i ⟨{ z.n with tags := insT t x.tags }, .slice va (insT t x.tags).length vc, z.sv⟩) wx)
            case first =>
              rcases Classical.em (tcc = k) with rfl | hci
              · have HT3 := Lib.hid (show ∀ W, Grow wc W → Texts W (.slice tb 0 0) (x.tags.drop tcc) from fun W g => texts_drop (Texts.grow (row_texts HRT4.out) g) HKK.out (by have := HKK.out; have := HTC.out; omega) (fun h => absurd h (by have := HTC.out; omega)) (by omega))
                go_region_held3 (fun w' => w'.cell? ⟨w.heap.size, 4, none⟩ = some (.slice (some ⟨b, 0, none⟩) s.notes.length nc)) (first | exact x4 | exact y4 | exact w4' | go_keep) (first
                  | (refine step_Rd (R := TextR) (l := x.tags.take tcc) (base := wc.heap.size) (by rfl) _ _ 38 (by rfl) 9 it _ 1 16 Tryd.underlying38 hit itz0 itz1 itz2 (by rfl) (by decide) (.slice none 0 0) (.slice tb tcc tcc) 0 [] (by rfl) wc.drew .nil (Grow.refl wc).drew.size (by rfl) HT1.out (one_text _) ?_ (by decide) ?_; (rw [Nat.zero_add, HLK.out]; have := HKK.out; omega); intro v1 w5 ra; obtain ⟨rb, gb⟩ := textsRd (l0 := []) ra rfl; rw [HLK.out, Nat.zero_add, List.nil_append] at rb; obtain ⟨va1, vc1, e3, -⟩ := rb.slice; subst e3; have HR1 := Lib.hid rb; have HG1 := Lib.hid (Grow.trans (Grow.refl wc).drew (grown_nil rfl gb)); obtain ⟨⟨x0, x1, x2, x3, x4⟩, x5⟩ := n5 (HG1.out.blk HS4.out.box); clear ra rb gb) | (refine step_Rd (R := TextR) (l := x.tags.take tcc) (base := wc.heap.size) (by rfl) _ _ 38 (by rfl) 9 it _ 1 16 Tryd.underlying38 hit itz0 itz1 itz2 (by rfl) (by decide) (.slice none 0 0) (.slice tb tcc tcc) 0 [] (by rfl) (wc.alloc (.cells #[.string t] 9)).drew .nil ((Grow.refl wc).alloc _).drew.size (by rfl) HT1B.out (one_text _) ?_ (by decide) ?_; (rw [Nat.zero_add, HLK.out]; have := HKK.out; omega); intro v1 w5 ra; obtain ⟨rb, gb⟩ := textsRd (l0 := []) ra rfl; rw [HLK.out, Nat.zero_add, List.nil_append] at rb; obtain ⟨va1, vc1, e3, -⟩ := rb.slice; subst e3; have HR1 := Lib.hid rb; have HG1 := Lib.hid (Grow.trans ((Grow.refl wc).alloc _).drew (grown_nil rfl gb)); have HC := Lib.hid (Texts.grow HC0.out (grown_nil rfl gb)); obtain ⟨⟨x0, x1, x2, x3, x4⟩, x5⟩ := n5 (HG1.out.blk HS4.out.box); clear ra rb gb)
                  | (refine step_R (base := wc.heap.size) (by rfl) _ _ 38 (by rfl) 9 it _ 1 16 Tryd.underlying38 hit itz0 itz1 itz2 (by rfl) (by decide) (.slice va1 tcc vc1) tcc (strC (x.tags.take tcc)) (by rfl) w5 HR1.out HG1.out.size [.string t] rfl ?_ (by rfl) ?_ (by decide) ?_; (intro u hu; simp at hu; subst hu; rfl); (have := HKK.out; omega); intro v2 w6 ra; obtain ⟨va2, vc2, e3, -⟩ := ra.1.slice; subst e3; have HR2 := Lib.hid ra.1; have HG2 := Lib.hid (grown_grow HG1.out HR1.out ra.2.1); obtain ⟨⟨y0, y1, y2, y3, y4⟩, y5⟩ := n5 (HG2.out.blk HS4.out.box); clear ra) | (refine step_Rd (R := TextR) (l := [t]) (base := wc.heap.size) (by rfl) _ _ 38 (by rfl) 9 it _ 1 16 Tryd.underlying38 hit itz0 itz1 itz2 (by rfl) (by decide) (.slice va1 tcc vc1) (.slice (some ⟨wc.heap.size, 0, none⟩) 1 1) tcc (strC (x.tags.take tcc)) (by rfl) w5 HR1.out HG1.out.size (by rfl) HC.out (one_text _) ?_ (by decide) ?_; (have := HKK.out; simp; omega); intro v2 w6 ra; obtain ⟨rb, gb⟩ := textsRd (l0 := x.tags.take tcc) ra HLK.out.symm; rw [show strC (x.tags.take tcc ++ [t]) = strC (x.tags.take tcc) ++ [.string t] from List.map_append] at rb; obtain ⟨va2, vc2, e3, -⟩ := rb.slice; subst e3; have HR2 := Lib.hid (show RowO wc.heap.size 9 1 (.slice va2 (tcc + 1) vc2) (tcc + 1) (strC (x.tags.take tcc) ++ [.string t]) w6 from rb); have HG2 := Lib.hid (grown_grow HG1.out HR1.out gb); obtain ⟨⟨y0, y1, y2, y3, y4⟩, y5⟩ := n5 (HG2.out.blk HS4.out.box); clear ra rb gb)
                  | (refine step_Rd (R := TextR) (l := x.tags.drop tcc) (base := wc.heap.size) (by rfl) _ _ 38 (by rfl) 9 it _ 1 16 Tryd.underlying38 hit itz0 itz1 itz2 (by rfl) (by decide) (.slice va2 (tcc + 1) vc2) (.slice tb 0 0) (tcc + 1) (strC (x.tags.take tcc) ++ [.string t]) (by rfl) w6 HR2.out HG2.out.size (by rfl) (HT3.out _ HG2.out) (one_text _) ?_ (by decide) ?_; (rw [List.length_drop]; have := HKK.out; omega); intro v3 w7 ra; obtain ⟨rb, gb⟩ := textsRd (l0 := x.tags.take tcc ++ [t]) (by unfold strC at ra ⊢; rw [List.map_append]; exact ra) (by rw [List.length_append, HLK.out] <;> rfl); have hg7 := grown_grow HG2.out HR2.out gb; have hlen : tcc + 1 + (x.tags.drop tcc).length = (insT t x.tags).length := (by rw [← HINS.out, List.length_append, List.length_cons, HLK.out] <;> omega); rw [hlen, List.append_assoc, List.singleton_append, HINS.out] at rb; obtain ⟨va3, vc3, e3, -⟩ := rb.slice; subst e3; obtain ⟨k3, f3, z5, hs5⟩ := HS4.out.retag HY.out (rb.base_mono HS4.out.grow.size) (grown_of_grow hg7 _) (fun q hq => .inr (rb.blk hq).1) (by rw [HYL.out]); rw [HEZT.out] at k3; obtain ⟨⟨w0', w1', w2', w3', w4'⟩, w5'⟩ := n5 (hg7.blk HS4.out.box); have HS5 := Lib.hid hs5; clear ra rb gb hg7 hlen hs5))
                all_goals
                  go_wp2_with fail
                  all_goals
                    go_meet
                    exact ⟨_, _, HS5.out⟩
              · have HT3 := Lib.hid (show ∀ W, Grow wc W → Texts W (.slice (Option.map (fun x => x.add k) tb) (x.tags.length - k) (tcc - k)) (x.tags.drop k) from fun W g => texts_drop (Texts.grow (row_texts HRT4.out) g) HKK.out rfl (fun _ => rfl) (by have := HKK.out; have := HTC.out; omega))
                go_region_held3 (fun w' => w'.cell? ⟨w.heap.size, 4, none⟩ = some (.slice (some ⟨b, 0, none⟩) s.notes.length nc)) (first | exact x4 | exact y4 | exact w4' | go_keep) (first
                  | (refine step_Rd (R := TextR) (l := x.tags.take k) (base := wc.heap.size) (by rfl) _ _ 38 (by rfl) 9 it _ 1 16 Tryd.underlying38 hit itz0 itz1 itz2 (by rfl) (by decide) (.slice none 0 0) (.slice tb k tcc) 0 [] (by rfl) wc.drew .nil (Grow.refl wc).drew.size (by rfl) HT1.out (one_text _) ?_ (by decide) ?_; (rw [Nat.zero_add, HLK.out]; have := HKK.out; omega); intro v1 w5 ra; obtain ⟨rb, gb⟩ := textsRd (l0 := []) ra rfl; rw [HLK.out, Nat.zero_add, List.nil_append] at rb; obtain ⟨va1, vc1, e3, -⟩ := rb.slice; subst e3; have HR1 := Lib.hid rb; have HG1 := Lib.hid (Grow.trans (Grow.refl wc).drew (grown_nil rfl gb)); obtain ⟨⟨x0, x1, x2, x3, x4⟩, x5⟩ := n5 (HG1.out.blk HS4.out.box); clear ra rb gb) | (refine step_Rd (R := TextR) (l := x.tags.take k) (base := wc.heap.size) (by rfl) _ _ 38 (by rfl) 9 it _ 1 16 Tryd.underlying38 hit itz0 itz1 itz2 (by rfl) (by decide) (.slice none 0 0) (.slice tb k tcc) 0 [] (by rfl) (wc.alloc (.cells #[.string t] 9)).drew .nil ((Grow.refl wc).alloc _).drew.size (by rfl) HT1B.out (one_text _) ?_ (by decide) ?_; (rw [Nat.zero_add, HLK.out]; have := HKK.out; omega); intro v1 w5 ra; obtain ⟨rb, gb⟩ := textsRd (l0 := []) ra rfl; rw [HLK.out, Nat.zero_add, List.nil_append] at rb; obtain ⟨va1, vc1, e3, -⟩ := rb.slice; subst e3; have HR1 := Lib.hid rb; have HG1 := Lib.hid (Grow.trans ((Grow.refl wc).alloc _).drew (grown_nil rfl gb)); have HC := Lib.hid (Texts.grow HC0.out (grown_nil rfl gb)); obtain ⟨⟨x0, x1, x2, x3, x4⟩, x5⟩ := n5 (HG1.out.blk HS4.out.box); clear ra rb gb)
                  | (refine step_R (base := wc.heap.size) (by rfl) _ _ 38 (by rfl) 9 it _ 1 16 Tryd.underlying38 hit itz0 itz1 itz2 (by rfl) (by decide) (.slice va1 k vc1) k (strC (x.tags.take k)) (by rfl) w5 HR1.out HG1.out.size [.string t] rfl ?_ (by rfl) ?_ (by decide) ?_; (intro u hu; simp at hu; subst hu; rfl); (have := HKK.out; omega); intro v2 w6 ra; obtain ⟨va2, vc2, e3, -⟩ := ra.1.slice; subst e3; have HR2 := Lib.hid ra.1; have HG2 := Lib.hid (grown_grow HG1.out HR1.out ra.2.1); obtain ⟨⟨y0, y1, y2, y3, y4⟩, y5⟩ := n5 (HG2.out.blk HS4.out.box); clear ra) | (refine step_Rd (R := TextR) (l := [t]) (base := wc.heap.size) (by rfl) _ _ 38 (by rfl) 9 it _ 1 16 Tryd.underlying38 hit itz0 itz1 itz2 (by rfl) (by decide) (.slice va1 k vc1) (.slice (some ⟨wc.heap.size, 0, none⟩) 1 1) k (strC (x.tags.take k)) (by rfl) w5 HR1.out HG1.out.size (by rfl) HC.out (one_text _) ?_ (by decide) ?_; (have := HKK.out; simp; omega); intro v2 w6 ra; obtain ⟨rb, gb⟩ := textsRd (l0 := x.tags.take k) ra HLK.out.symm; rw [show strC (x.tags.take k ++ [t]) = strC (x.tags.take k) ++ [.string t] from List.map_append] at rb; obtain ⟨va2, vc2, e3, -⟩ := rb.slice; subst e3; have HR2 := Lib.hid (show RowO wc.heap.size 9 1 (.slice va2 (k + 1) vc2) (k + 1) (strC (x.tags.take k) ++ [.string t]) w6 from rb); have HG2 := Lib.hid (grown_grow HG1.out HR1.out gb); obtain ⟨⟨y0, y1, y2, y3, y4⟩, y5⟩ := n5 (HG2.out.blk HS4.out.box); clear ra rb gb)
                  | (refine step_Rd (R := TextR) (l := x.tags.drop k) (base := wc.heap.size) (by rfl) _ _ 38 (by rfl) 9 it _ 1 16 Tryd.underlying38 hit itz0 itz1 itz2 (by rfl) (by decide) (.slice va2 (k + 1) vc2) (.slice (Option.map (fun x => x.add k) tb) (x.tags.length - k) (tcc - k)) (k + 1) (strC (x.tags.take k) ++ [.string t]) (by rfl) w6 HR2.out HG2.out.size (by rfl) (HT3.out _ HG2.out) (one_text _) ?_ (by decide) ?_; (rw [List.length_drop]; have := HKK.out; omega); intro v3 w7 ra; obtain ⟨rb, gb⟩ := textsRd (l0 := x.tags.take k ++ [t]) (by unfold strC at ra ⊢; rw [List.map_append]; exact ra) (by rw [List.length_append, HLK.out] <;> rfl); have hg7 := grown_grow HG2.out HR2.out gb; have hlen : k + 1 + (x.tags.drop k).length = (insT t x.tags).length := (by rw [← HINS.out, List.length_append, List.length_cons, HLK.out] <;> omega); rw [hlen, List.append_assoc, List.singleton_append, HINS.out] at rb; obtain ⟨va3, vc3, e3, -⟩ := rb.slice; subst e3; obtain ⟨k3, f3, z5, hs5⟩ := HS4.out.retag HY.out (rb.base_mono HS4.out.grow.size) (grown_of_grow hg7 _) (fun q hq => .inr (rb.blk hq).1) (by rw [HYL.out]); rw [HEZT.out] at k3; obtain ⟨⟨w0', w1', w2', w3', w4'⟩, w5'⟩ := n5 (hg7.blk HS4.out.box); have HS5 := Lib.hid hs5; clear ra rb gb hg7 hlen hs5))
                all_goals
                  go_wp2_with fail
                  all_goals
                    go_meet
                    exact ⟨_, _, HS5.out⟩
            case rest =>
              obtain ⟨va3, vc3, hs5⟩ := hcut
              have HS5 := Lib.hid hs5
              clear hs5
              obtain ⟨m, hm⟩ : ∃ m, m = (insT t x.tags).length := ⟨_, rfl⟩
              rw [← hm] at HS5
              have HMQ := Lib.hid (map_setN HMY.out.ninc HMAP.out HY.out (z := ⟨{ z.n with tags := insT t x.tags }, .slice va3 m vc3, z.sv⟩) (fun n => { n with tags := insT t n.tags }) (by rw [HZN.out]) (show z.n.id = id by rw [HZN.out]; exact HXID.out))
              clear p0 p1 p2 p3 p4 hpz q3' qf3' hm HS4
              obtain ⟨⟨p0, p1, p2, p3, p4⟩, hpz⟩ := HS5.out.five
              obtain ⟨⟨e0, e1, e2, e3, e4⟩, hez⟩ := HS5.out.res5
              have f0 := HS5.out.resF 0
              have f1 := HS5.out.resF 1
              have f2 := HS5.out.resF 2
              have f3 := HS5.out.resF 3
              have f4 := HS5.out.resF 4
              have HOD := Lib.hid HS5.out.fin
              go_wp2_with fail
              refine bodyPost_ret (v := .tuple #[.agg #[.int .i64 s.nb, .int .i64 s.nn, .int .i64 s.ns, .slice ba s.books.length bc, .slice (some ⟨b, 0, none⟩) s.notes.length nc], .int .i64 0]) ?_ rfl ?_
              · rw [results_cell_tmp rfl]
                go_simp
              · refine ret_okC (D := w.heap.size + 1) (s := { s with notes := updN id (fun n => { n with tags := insT t n.tags }) s.notes }) HE.out ?_ HMQ.out
                repeat' (first | with_reducible exact HOD.out | with_reducible refine OwnD2.drew ?_ | with_reducible refine OwnD2.set ?_ (by omega) _ _)
end Go.Proofs.YtnajccljdjllgaaDoor
set_option linter.unusedVariables false
set_option linter.unusedSimpArgs false
namespace Go.Proofs.YtnajccljdjllgaaDoor
open Go.RowKit Go.Lib
set_option maxRecDepth 100000 in
set_option maxHeartbeats 4000000 in
theorem refUntag_any (s : Shelf) (bv nv : Value) (id : Int) (t : ByteArray) (w : World) (h : ShelfR w s bv nv) (hz : TameS s) (ht : t.size ≤ 1000000000) (hT : Tabs w) :
    Calls Tryd.prog 51 #[shelfV s bv nv, .int .i64 id, .string t] w (RetC (untagR s id t) w) := by
  obtain ⟨it, hit, itz0, itz1, itz2⟩ := info_parts info_text
  have cA := fun W (g : Grow w W) => refAt_any s bv nv id W (h.grow g) hz
  have HZ := Lib.hid hz
  have HH := Lib.hid h
  obtain ⟨a1, c1, rfl⟩ := h.1.mk
  obtain ⟨a2, c2, rfl⟩ := h.2.mk
  have HXX := Lib.hid (two_boxes2 w (shB s (.slice a1 s.books.length c1) (.slice a2 s.notes.length c2)) (shB ⟨0, 0, 0, [], []⟩ (.slice none 0 0) (.slice none 0 0)))
  clear h hz hT
  unfold shelfV at *
  go_enter Tryd.func51, Tryd.ntmps51
  go_upto_region 1 with (fail)
  generalize hV : (w.alloc (.cells #[.int .i64 s.nb, .int .i64 s.nn, .int .i64 s.ns, .slice a1 s.books.length c1, .slice a2 s.notes.length c2] 28)).alloc (.cells #[.int .i64 0, .int .i64 0, .int .i64 0, .slice none 0 0, .slice none 0 0] 28) = V
  have gV : Grow w V := by rw [← hV]; exact ((Grow.refl w).alloc _).alloc _
  have HBX : Hid (V.heap[w.heap.size]? = some (shB s (.slice a1 s.books.length c1) (.slice a2 s.notes.length c2))) := by rw [← hV]; exact Lib.hid HXX.out.1
  have HRX : Hid (V.heap[w.heap.size + 1]? = some (shB ⟨0, 0, 0, [], []⟩ (.slice none 0 0) (.slice none 0 0))) := by rw [← hV]; exact Lib.hid HXX.out.2
  obtain ⟨⟨p0, p1, p2, p3, p4⟩, hpz⟩ := n5 HBX.out
  clear hV
  rcases noteE_cases s id with h0 | ⟨h0, h1⟩
  rotate_left
  · have HEE := Lib.hid (show untagE s id t = noteE s id from untagE_of h0 t)
    have HN0 := Lib.hid h0
    have HBAD := Lib.hid (show atR s id = bad (noteE s id) from resOf_no h0 _ _)
    have cA1 := (cA V gV).mono fun _ _ => RetM.none HBAD.out
    generalize noteE s id = n at *
    clear cA h0
    go_wp2_with fail
    refine cA1.mono ?_
    rintro e w1 ⟨xa, xc, ya, yc, rfl, g1⟩
    clear cA1 p0 p1 p2 p3 p4 hpz
    have hb1 := g1.blk HBX.out
    obtain ⟨⟨p0, p1, p2, p3, p4⟩, hpz⟩ := n5 hb1
    have ff0 := frozen_of_row w1 w.heap.size 0 _ _ hb1
    have ff1 := frozen_of_row w1 w.heap.size 1 _ _ hb1
    have ff2 := frozen_of_row w1 w.heap.size 2 _ _ hb1
    have ff3 := frozen_of_row w1 w.heap.size 3 _ _ hb1
    have ff4 := frozen_of_row w1 w.heap.size 4 _ _ hb1
    have h5 := set5 hb1 (.int .i64 0) (.int .i64 0) (.int .i64 0) (.slice xa 0 xc) (.slice ya 0 yc)
    have hr5 := set5_other (.int .i64 0) (.int .i64 0) (.int .i64 0) (.slice xa 0 xc) (.slice ya 0 yc) (show w.heap.size + 1 ≠ w.heap.size by omega) (g1.blk HRX.out)
    have hg5 := h5.2.grow (gV.trans g1) (Nat.le_refl _)
    unfold set5w at h5 hr5 hg5
    go_upto_region 2 with (fail)
    generalize ((((w1.setCell ⟨w.heap.size, 0, none⟩ (.int .i64 0)).setCell ⟨w.heap.size, 1, none⟩ (.int .i64 0)).setCell ⟨w.heap.size, 2, none⟩ (.int .i64 0)).setCell ⟨w.heap.size, 3, none⟩ (.slice xa 0 xc)).setCell ⟨w.heap.size, 4, none⟩ (.slice ya 0 yc) = W at *
    have HRW := Lib.hid hr5
    have HGW := Lib.hid hg5
    clear p0 p1 p2 p3 p4 hpz ff0 ff1 ff2 ff3 ff4 h5 hr5 hg5 hb1
    have HE := Lib.hid (show untagR s id t = bad n from res_bad HEE.out HN0.out _ _)
    obtain ⟨⟨e0, e1, e2, e3, e4⟩, hez⟩ := n5 HRW.out
    have f0 := frozen_of_row _ (w.heap.size + 1) 0 _ _ HRW.out
    have f1 := frozen_of_row _ (w.heap.size + 1) 1 _ _ HRW.out
    have f2 := frozen_of_row _ (w.heap.size + 1) 2 _ _ HRW.out
    have f3 := frozen_of_row _ (w.heap.size + 1) 3 _ _ HRW.out
    have f4 := frozen_of_row _ (w.heap.size + 1) 4 _ _ HRW.out
    go_wp2_with fail
    refine bodyPost_ret (v := .tuple #[.agg #[.int .i64 0, .int .i64 0, .int .i64 0, .slice none 0 0, .slice none 0 0], .int .i64 n]) ?_ rfl ?_
    · rw [results_cell_tmp rfl]
      go_simp
    · refine ret_badC HE.out ?_
      repeat' (first | with_reducible exact HGW.out | with_reducible refine Grow.set ?_ (by first | (simp; done) | (simp; omega)) _)
  · have HN0 := Lib.hid h0
    obtain ⟨i, hi1, hi2, hil, hx, hxid⟩ := note_here h0
    have HAT := Lib.hid (show atR s id = ⟨s, i, 0⟩ by rw [atR, resOf_ok h0, hi2])
    obtain ⟨x, hxx⟩ : ∃ x, x = noteOf s id := ⟨_, rfl⟩
    rw [← hxx] at hx hxid
    have HXN := Lib.hid hxx
    have HX := Lib.hid hx
    have HXID := Lib.hid hxid
    have hil' : (i : Int) < s.notes.length := by omega
    obtain ⟨z1, z2, z3, z4⟩ := HZ.out.1.note hx
    have HMY := Lib.hid (mayS_iff.1 (noteE_zero.1 h0).1)
    clear h0 hi1 hi2 hxid hxx hx
    have cO1 := (cA V gV).mono fun _ _ => RetM.at HAT.out
    go_wp2_with fail
    refine cO1.mono ?_
    rintro e w3 ⟨bv', nv', Y, rfl, ho, hmap, g3⟩
    have hs : StB w w.heap.size (w.heap.size + 1) s.nb s.nn s.ns bv' nv' s.books Y (((((w3.setCell ⟨w.heap.size, 0, none⟩ (.int .i64 s.nb)).setCell ⟨w.heap.size, 1, none⟩ (.int .i64 s.nn)).setCell ⟨w.heap.size, 2, none⟩ (.int .i64 s.ns)).setCell ⟨w.heap.size, 3, none⟩ bv').setCell ⟨w.heap.size, 4, none⟩ nv') := StB.start (s := s) (D := w.heap.size + 1) gV HBX.out HRX.out (Grow.refl V) g3 ho ⟨Nat.le_refl _, by omega, by omega⟩
    obtain ⟨ba, bc, ebv, -⟩ := ho.books.slice
    obtain ⟨na, nc, env, -⟩ := ho.notes.slice
    have hYl : Y.length = s.notes.length := by rw [← hmap, List.length_map]
    rw [hYl] at env
    have HMAP := Lib.hid hmap
    have HYL := Lib.hid hYl
    subst ebv env
    obtain ⟨⟨p0', p1', p2', p3', p4'⟩, hpz'⟩ := n5 (((Grow.refl V).trans g3).blk HBX.out)
    have HF3 := Lib.hid (frozen_of_row w3 w.heap.size 0 _ _ (((Grow.refl V).trans g3).blk HBX.out))
    have ff : ∀ j, w3.frozen? ⟨w.heap.size, j, none⟩ = false := fun j => frozen_of_row w3 w.heap.size j _ _ (((Grow.refl V).trans g3).blk HBX.out)
    have ff0 := ff 0
    have ff1 := ff 1
    have ff2 := ff 2
    have ff3 := ff 3
    have ff4 := ff 4
    have HOW3 := Lib.hid ho
    have HG3 := Lib.hid ((Grow.refl V).trans g3)
    have hw3 : w.heap.size < w3.heap.size := hpz'
    clear cO1 cA ho hmap g3 hYl p0 p1 p2 p3 p4 ff
    unfold shelfV
    go_upto_region 2 with (fail)
    generalize ((((w3.setCell ⟨w.heap.size, 0, none⟩ (.int .i64 s.nb)).setCell ⟨w.heap.size, 1, none⟩ (.int .i64 s.nn)).setCell ⟨w.heap.size, 2, none⟩ (.int .i64 s.ns)).setCell ⟨w.heap.size, 3, none⟩ (.slice ba s.books.length bc)).setCell ⟨w.heap.size, 4, none⟩ (.slice na s.notes.length nc) = W at *
    have HS := Lib.hid hs
    obtain ⟨⟨p0, p1, p2, p3, p4⟩, hpz⟩ := hs.five
    have hb3 := hs.boxF 3
    have hb4 := hs.boxF 4
    clear hs p0' p1' p2' p3' p4' ff0 ff1 ff2 ff3 ff4 hpz'
    obtain ⟨z, hz, hzn⟩ := nv_get HMAP.out HX.out
    have HZN := Lib.hid hzn
    have HY := Lib.hid hz
    obtain ⟨b, cc, ebb, hbz, -, -, hcl⟩ := HS.out.own.note hz
    rw [HYL.out] at ebb
    injection ebb with eb1 eb2 eb3
    subst eb1 eb3
    have hrt := HS.out.own.tags z (List.mem_of_getElem? hz)
    have hrs := HS.out.own.sheets z (List.mem_of_getElem? hz)
    rw [hzn] at hrt hrs
    obtain ⟨tb, tcc, ezt, htcc⟩ := hrt.slice
    obtain ⟨sb, scc, ezs, hscc⟩ := hrs.slice
    rw [ezt] at hrt
    rw [ezs] at hrs
    have HEZT := Lib.hid ezt
    have HEZS := Lib.hid ezs
    have HRT := Lib.hid hrt
    have HRS := Lib.hid hrs
    obtain ⟨q3, qf3⟩ := hcl 3 _ rfl
    obtain ⟨q4, qf4⟩ := hcl 4 _ rfl
    have q0 : W.cell? ⟨b, i * 5, none⟩ = some (.int .i64 z.n.id) := (hcl 0 _ rfl).1
    have q1 := (hcl 1 _ rfl).1
    have q2 := (hcl 2 _ rfl).1
    rw [hzn] at q0 q1 q2
    rw [ezt] at q3
    rw [ezs] at q4
    clear hcl hz hzn ezt ezs hrt hrs
    have cH1 := refHas_any x (.slice tb x.tags.length tcc) (.slice sb x.sheets.length scc) t W (row_texts HRT.out) z2
    have hbd := idx_bd (fun y : ByteArray => y.toList == t.toList) x.tags
    rw [show idx (fun y : ByteArray => y.toList == t.toList) x.tags = hasIx t x.tags from rfl] at hbd
    by_cases hh : hasIx t x.tags < 0
    · have HHT := Lib.hid (show hasT t (noteOf s id).tags = false by rw [← HXN.out, hasT_ix]; exact decide_eq_false (by omega))
      have HSG := Lib.hid HS.out
      go_wp2_with fail
      refine cH1.mono ?_
      rintro e w4 ⟨rfl, g4⟩
      have HRW := Lib.hid (g4.blk HSG.out.res)
      have HGW := Lib.hid (HSG.out.grow.trans g4)
      clear cH1 p0 p1 p2 p3 p4 hpz q0 q1 q2 q3 qf3 q4 qf4
      have HE := Lib.hid (show untagR s id t = bad 4 from res_bad (by unfold untagE; rw [if_neg (by rw [(noteE_zero.1 HN0.out).1]; simp), if_neg (by have := (noteE_zero.1 HN0.out).2; omega), if_pos HHT.out]) (by decide) _ _)
      obtain ⟨⟨e0, e1, e2, e3, e4⟩, hez⟩ := n5 HRW.out
      have f0 := frozen_of_row _ (w.heap.size + 1) 0 _ _ HRW.out
      have f1 := frozen_of_row _ (w.heap.size + 1) 1 _ _ HRW.out
      have f2 := frozen_of_row _ (w.heap.size + 1) 2 _ _ HRW.out
      have f3 := frozen_of_row _ (w.heap.size + 1) 3 _ _ HRW.out
      have f4 := frozen_of_row _ (w.heap.size + 1) 4 _ _ HRW.out
      go_wp2_with fail
      refine bodyPost_ret (v := .tuple #[.agg #[.int .i64 0, .int .i64 0, .int .i64 0, .slice none 0 0, .slice none 0 0], .int .i64 4]) ?_ rfl ?_
      · rw [results_cell_tmp rfl]
        go_simp
      · refine ret_badC HE.out ?_
        repeat' (first | with_reducible exact HGW.out | with_reducible refine Grow.set ?_ (by first | (simp; done) | (simp; omega)) _)
    · obtain ⟨q, hq⟩ : ∃ q : Nat, hasIx t x.tags = q := ⟨(hasIx t x.tags).toNat, by omega⟩
      obtain ⟨y, hy, hyp⟩ := idx_get (p := fun y : ByteArray => y.toList == t.toList) (l := x.tags) hq (by omega)
      rw [Int.toNat_natCast] at hy
      have hyt : y = t := toList_eq.1 hyp
      subst hyt
      have hql : q < x.tags.length := (List.getElem?_eq_some_iff.1 hy).1
      have hez : untagE s id y = 0 := untagE_zero.2 ⟨(noteE_zero.1 HN0.out).1, (noteE_zero.1 HN0.out).2, by rw [← HXN.out, hasT_ix]; exact decide_eq_true (by omega)⟩
      have HE := Lib.hid (show untagR s id y = ⟨{ s with notes := updN id (fun n => { n with tags := n.tags.filter (fun x => !(x.toList == y.toList)) }) s.notes }, 0, 0⟩ from resOf_ok hez _ _)
      have HER := Lib.hid (show x.tags.eraseIdx q = x.tags.filter (fun x => !(x.toList == y.toList)) from erase_tags (HMY.out.tinc x (List.mem_of_getElem? HX.out)) hy)
      obtain ⟨eb, ec, eeb, -, -, -, hbk0⟩ := HRT.out.cell (j := q) (u := .string y) (by unfold strC; rw [List.getElem?_map, hy]; rfl)
      injection eeb with ee1 ee2 ee3
      subst ee1
      have HBK := Lib.hid hbk0
      rw [hq] at cH1
      have hqq : ¬ (q : Int) < 0 := by omega
      clear hh hbd hq hez hy hyp hbk0 ee2 ee3
      go_wp2_with fail
      refine cH1.mono ?_
      rintro e w4 ⟨rfl, g4⟩
      have hs4 := HS.out.more g4
      have q3' := (g4.cells b (i * 5 + 3) hbz).trans q3
      have qf3' := (g4.marks b (i * 5 + 3) hbz).trans qf3
      have hbz' := Nat.lt_of_lt_of_le hbz g4.size
      have HROW := Lib.hid ((HRT.out.grow g4).grow (Grow.refl w4).drew)
      rw [← flat_str] at HROW
      clear cH1 p0 p1 p2 p3 p4 hpz q0 q1 q2 q3 qf3 q4 qf4 g4
      have HS4 := Lib.hid hs4
      obtain ⟨⟨p0, p1, p2, p3, p4⟩, hpz⟩ := hs4.five
      clear hs4 HS
      have hc0 : ¬ tcc = 0 := by omega
      have hile : (q : Int) ≤ tcc := by omega
      have hile2 : (q : Int) + 1 ≤ x.tags.length := by omega
      have hile3 : 0 ≤ (q : Int) + 1 := by omega
      have hile4 : (q : Int) ≤ (q : Int) + 1 := by omega
      have hile5 : (q : Int) ≤ x.tags.length := by omega
      have hwr : IntKind.i64.wrap ((q : Int) + 1) = ((q + 1 : Nat) : Int) := by have := IntWalk.i64_in ((q : Int) + 1) (by omega); omega
      go_upto_region 7 with (fail)
      go_cut [] (fun wx => ∃ va vc, StB w w.heap.size (w.heap.size + 1) s.nb s.nn s.ns (.slice ba s.books.length bc) (.slice (some ⟨b, 0, none⟩) s.notes.length nc) s.books (Y.set i ⟨{ z.n with tags := x.tags.eraseIdx q }, .slice va (x.tags.eraseIdx q).length vc, z.sv⟩) wx)
      case first =>
        go_region_law (go_must (refine step_erase (P := Tryd.prog) (i := q) (l := x.tags) (base := w.heap.size) (b := eb) (c := tcc) (fun u : ByteArray => [Value.string u]) (fun _ => rfl) (by rfl) _ _ (by rfl) Tryd.underlying38 hit itz0 itz1 itz2 (by rfl) (by decide) (n := x.tags.length) w4.drew HROW.out rfl (by omega) HS4.out.grow.drew.size (fun x _ u hu => by simp at hu; subst hu; rfl) (by omega) (by decide) (if tcc = q + 1 then some ⟨eb, 0, none⟩ else some ⟨eb, q + 1, none⟩) (x.tags.length - (q + 1)) (tcc - (q + 1)) (by rfl) (by rfl) (by omega) (fun hlt => (if_neg (by omega)).trans (by simp)) ?_; intro v' w5 ra; obtain ⟨hr, hg, hbk⟩ := ra; rw [flat_str] at hr; obtain ⟨va, vc, e3, -⟩ := hr.slice; subst e3; obtain ⟨k3, f3, z5, hs5⟩ := (HS4.out.more (Grow.refl w4).drew).retag HY.out hr (by rw [HEZT.out, HBK.out]; exact hg) (fun g hg' => (hbk g hg').imp (fun e => by rw [HEZT.out, HBK.out, e]) (fun e => e)) (by rw [HYL.out]); rw [HEZT.out] at k3; obtain ⟨hB5, -⟩ := (HS4.out.more (Grow.refl w4).drew).keep (by decide) (HROW.out.keeps (by rw [HBK.out]; exact hg)); obtain ⟨⟨b0, b1, b2, b3, b4⟩, b5⟩ := n5 hB5; have HS5 := Lib.hid hs5; clear hs5 hr hg hbk hB5))
        all_goals
          go_wp2_with fail
          all_goals
            go_meet
            exact ⟨va, vc, HS5.out⟩
      case rest =>
        obtain ⟨va, vc, hs5⟩ := hcut
        have HS5 := Lib.hid hs5
        clear hs5
        obtain ⟨m, hm⟩ : ∃ m, m = (x.tags.eraseIdx q).length := ⟨_, rfl⟩
        rw [← hm] at HS5
        have HMQ := Lib.hid (map_setN HMY.out.ninc HMAP.out HY.out (z := ⟨{ z.n with tags := x.tags.eraseIdx q }, .slice va m vc, z.sv⟩) (fun n => { n with tags := n.tags.filter (fun x => !(x.toList == y.toList)) }) (by simp only [HZN.out, HER.out]) (show z.n.id = id by rw [HZN.out]; exact HXID.out))
        clear p0 p1 p2 p3 p4 hpz q3' qf3' hm HS4
        obtain ⟨⟨p0, p1, p2, p3, p4⟩, hpz⟩ := HS5.out.five
        obtain ⟨⟨e0, e1, e2, e3, e4⟩, hez⟩ := HS5.out.res5
        have f0 := HS5.out.resF 0
        have f1 := HS5.out.resF 1
        have f2 := HS5.out.resF 2
        have f3 := HS5.out.resF 3
        have f4 := HS5.out.resF 4
        have HOD := Lib.hid HS5.out.fin
        go_wp2_with fail
        refine bodyPost_ret (v := .tuple #[.agg #[.int .i64 s.nb, .int .i64 s.nn, .int .i64 s.ns, .slice ba s.books.length bc, .slice (some ⟨b, 0, none⟩) s.notes.length nc], .int .i64 0]) ?_ rfl ?_
        · rw [results_cell_tmp rfl]
          go_simp
        · refine ret_okC (D := w.heap.size + 1) (s := { s with notes := updN id (fun n => { n with tags := n.tags.filter (fun x => !(x.toList == y.toList)) }) s.notes }) HE.out ?_ HMQ.out
          repeat' (first | with_reducible exact HOD.out | with_reducible refine OwnD2.drew ?_ | with_reducible refine OwnD2.set ?_ (by omega) _ _)
end Go.Proofs.YtnajccljdjllgaaDoor
set_option linter.unusedVariables false
set_option linter.unusedSimpArgs false
namespace Go.Proofs.YtnajccljdjllgaaDoor
open Go.RowKit Go.Lib
set_option maxRecDepth 100000 in
set_option maxHeartbeats 4000000 in
theorem refAppend_any (s : Shelf) (bv nv : Value) (id : Int) (w : World) (h : ShelfR w s bv nv) (hz : TameS s) (hT : Tabs w) :
    Calls Tryd.prog 52 #[shelfV s bv nv, .int .i64 id] w (RetM (appendR s id) w) := by
  obtain ⟨ii, hii, hiz0, hiz1, hiz2⟩ := info_parts info_int
  have cA := fun W (g : Grow w W) => refAt_any s bv nv id W (h.grow g) hz
  have HZ := Lib.hid hz
  have HH := Lib.hid h
  obtain ⟨a1, c1, rfl⟩ := h.1.mk
  obtain ⟨a2, c2, rfl⟩ := h.2.mk
  have HXX := Lib.hid (two_boxes2 w (shB s (.slice a1 s.books.length c1) (.slice a2 s.notes.length c2)) (shB ⟨0, 0, 0, [], []⟩ (.slice none 0 0) (.slice none 0 0)))
  clear h hz hT
  unfold shelfV at *
  go_enter Tryd.func52, Tryd.ntmps52
  go_upto_region 1 with (fail)
  generalize hV : (w.alloc (.cells #[.int .i64 s.nb, .int .i64 s.nn, .int .i64 s.ns, .slice a1 s.books.length c1, .slice a2 s.notes.length c2] 28)).alloc (.cells #[.int .i64 0, .int .i64 0, .int .i64 0, .slice none 0 0, .slice none 0 0] 28) = V
  have gV : Grow w V := by rw [← hV]; exact ((Grow.refl w).alloc _).alloc _
  have HBX : Hid (V.heap[w.heap.size]? = some (shB s (.slice a1 s.books.length c1) (.slice a2 s.notes.length c2))) := by rw [← hV]; exact Lib.hid HXX.out.1
  have HRX : Hid (V.heap[w.heap.size + 1]? = some (shB ⟨0, 0, 0, [], []⟩ (.slice none 0 0) (.slice none 0 0))) := by rw [← hV]; exact Lib.hid HXX.out.2
  obtain ⟨⟨p0, p1, p2, p3, p4⟩, hpz⟩ := n5 HBX.out
  clear hV
  rcases noteE_cases s id with h0 | ⟨h0, h1⟩
  rotate_left
  · have HEE := Lib.hid (show appendE s id = noteE s id from appendE_of h0)
    have HN0 := Lib.hid h0
    have HBAD := Lib.hid (show atR s id = bad (noteE s id) from resOf_no h0 _ _)
    have cA1 := (cA V gV).mono fun _ _ => RetM.none HBAD.out
    generalize noteE s id = n at *
    clear cA h0
    go_wp2_with fail
    refine cA1.mono ?_
    rintro e w1 ⟨xa, xc, ya, yc, rfl, g1⟩
    clear cA1 p0 p1 p2 p3 p4 hpz
    have hb1 := g1.blk HBX.out
    obtain ⟨⟨p0, p1, p2, p3, p4⟩, hpz⟩ := n5 hb1
    have ff0 := frozen_of_row w1 w.heap.size 0 _ _ hb1
    have ff1 := frozen_of_row w1 w.heap.size 1 _ _ hb1
    have ff2 := frozen_of_row w1 w.heap.size 2 _ _ hb1
    have ff3 := frozen_of_row w1 w.heap.size 3 _ _ hb1
    have ff4 := frozen_of_row w1 w.heap.size 4 _ _ hb1
    have h5 := set5 hb1 (.int .i64 0) (.int .i64 0) (.int .i64 0) (.slice xa 0 xc) (.slice ya 0 yc)
    have hr5 := set5_other (.int .i64 0) (.int .i64 0) (.int .i64 0) (.slice xa 0 xc) (.slice ya 0 yc) (show w.heap.size + 1 ≠ w.heap.size by omega) (g1.blk HRX.out)
    have hg5 := h5.2.grow (gV.trans g1) (Nat.le_refl _)
    unfold set5w at h5 hr5 hg5
    go_upto_region 2 with (fail)
    generalize ((((w1.setCell ⟨w.heap.size, 0, none⟩ (.int .i64 0)).setCell ⟨w.heap.size, 1, none⟩ (.int .i64 0)).setCell ⟨w.heap.size, 2, none⟩ (.int .i64 0)).setCell ⟨w.heap.size, 3, none⟩ (.slice xa 0 xc)).setCell ⟨w.heap.size, 4, none⟩ (.slice ya 0 yc) = W at *
    have HRW := Lib.hid hr5
    have HGW := Lib.hid hg5
    clear p0 p1 p2 p3 p4 hpz ff0 ff1 ff2 ff3 ff4 h5 hr5 hg5 hb1
    have HE := Lib.hid (show appendR s id = bad n from res_bad HEE.out HN0.out _ _)
    obtain ⟨⟨e0, e1, e2, e3, e4⟩, hez⟩ := n5 HRW.out
    have f0 := frozen_of_row _ (w.heap.size + 1) 0 _ _ HRW.out
    have f1 := frozen_of_row _ (w.heap.size + 1) 1 _ _ HRW.out
    have f2 := frozen_of_row _ (w.heap.size + 1) 2 _ _ HRW.out
    have f3 := frozen_of_row _ (w.heap.size + 1) 3 _ _ HRW.out
    have f4 := frozen_of_row _ (w.heap.size + 1) 4 _ _ HRW.out
    go_wp2_with fail
    refine bodyPost_ret (v := .tuple #[.agg #[.int .i64 0, .int .i64 0, .int .i64 0, .slice none 0 0, .slice none 0 0], .int .i64 0, .int .i64 n]) ?_ rfl ?_
    · rw [results_cell_tmp2 (P := Tryd.prog) rfl]
      go_simp
    · refine ret_badM HE.out ?_
      repeat' (first | with_reducible exact HGW.out | with_reducible refine Grow.set ?_ (by first | (simp; done) | (simp; omega)) _)
  · have HN0 := Lib.hid h0
    obtain ⟨i, hi1, hi2, hil, hx, hxid⟩ := note_here h0
    have HAT := Lib.hid (show atR s id = ⟨s, i, 0⟩ by rw [atR, resOf_ok h0, hi2])
    obtain ⟨x, hxx⟩ : ∃ x, x = noteOf s id := ⟨_, rfl⟩
    rw [← hxx] at hx hxid
    have HXN := Lib.hid hxx
    have HX := Lib.hid hx
    have HXID := Lib.hid hxid
    have hil' : (i : Int) < s.notes.length := by omega
    obtain ⟨z1, z2, z3, z4⟩ := HZ.out.1.note hx
    have HMY := Lib.hid (mayS_iff.1 (noteE_zero.1 h0).1)
    clear h0 hi1 hi2 hxid hxx hx
    have cO1 := (cA V gV).mono fun _ _ => RetM.at HAT.out
    go_wp2_with fail
    refine cO1.mono ?_
    rintro e w3 ⟨bv', nv', Y, rfl, ho, hmap, g3⟩
    have hs : StB w w.heap.size (w.heap.size + 1) s.nb s.nn s.ns bv' nv' s.books Y (((((w3.setCell ⟨w.heap.size, 0, none⟩ (.int .i64 s.nb)).setCell ⟨w.heap.size, 1, none⟩ (.int .i64 s.nn)).setCell ⟨w.heap.size, 2, none⟩ (.int .i64 s.ns)).setCell ⟨w.heap.size, 3, none⟩ bv').setCell ⟨w.heap.size, 4, none⟩ nv') := StB.start (s := s) (D := w.heap.size + 1) gV HBX.out HRX.out (Grow.refl V) g3 ho ⟨Nat.le_refl _, by omega, by omega⟩
    obtain ⟨ba, bc, ebv, -⟩ := ho.books.slice
    obtain ⟨na, nc, env, -⟩ := ho.notes.slice
    have hYl : Y.length = s.notes.length := by rw [← hmap, List.length_map]
    rw [hYl] at env
    have HMAP := Lib.hid hmap
    have HYL := Lib.hid hYl
    subst ebv env
    obtain ⟨⟨p0', p1', p2', p3', p4'⟩, hpz'⟩ := n5 (((Grow.refl V).trans g3).blk HBX.out)
    have HF3 := Lib.hid (frozen_of_row w3 w.heap.size 0 _ _ (((Grow.refl V).trans g3).blk HBX.out))
    have ff : ∀ j, w3.frozen? ⟨w.heap.size, j, none⟩ = false := fun j => frozen_of_row w3 w.heap.size j _ _ (((Grow.refl V).trans g3).blk HBX.out)
    have ff0 := ff 0
    have ff1 := ff 1
    have ff2 := ff 2
    have ff3 := ff 3
    have ff4 := ff 4
    have HOW3 := Lib.hid ho
    have HG3 := Lib.hid ((Grow.refl V).trans g3)
    have hw3 : w.heap.size < w3.heap.size := hpz'
    clear cO1 cA ho hmap g3 hYl p0 p1 p2 p3 p4 ff
    unfold shelfV
    go_upto_region 2 with (fail)
    generalize ((((w3.setCell ⟨w.heap.size, 0, none⟩ (.int .i64 s.nb)).setCell ⟨w.heap.size, 1, none⟩ (.int .i64 s.nn)).setCell ⟨w.heap.size, 2, none⟩ (.int .i64 s.ns)).setCell ⟨w.heap.size, 3, none⟩ (.slice ba s.books.length bc)).setCell ⟨w.heap.size, 4, none⟩ (.slice na s.notes.length nc) = W at *
    have HS := Lib.hid hs
    obtain ⟨⟨p0, p1, p2, p3, p4⟩, hpz⟩ := hs.five
    have hb3 := hs.boxF 3
    have hb4 := hs.boxF 4
    clear hs p0' p1' p2' p3' p4' ff0 ff1 ff2 ff3 ff4 hpz'
    obtain ⟨z, hz, hzn⟩ := nv_get HMAP.out HX.out
    have HZN := Lib.hid hzn
    have HY := Lib.hid hz
    obtain ⟨b, cc, ebb, hbz, -, -, hcl⟩ := HS.out.own.note hz
    rw [HYL.out] at ebb
    injection ebb with eb1 eb2 eb3
    subst eb1 eb3
    have hrt := HS.out.own.tags z (List.mem_of_getElem? hz)
    have hrs := HS.out.own.sheets z (List.mem_of_getElem? hz)
    rw [hzn] at hrt hrs
    obtain ⟨tb, tcc, ezt, htcc⟩ := hrt.slice
    obtain ⟨sb, scc, ezs, hscc⟩ := hrs.slice
    rw [ezt] at hrt
    rw [ezs] at hrs
    have HEZT := Lib.hid ezt
    have HEZS := Lib.hid ezs
    have HRT := Lib.hid hrt
    have HRS := Lib.hid hrs
    obtain ⟨q3, qf3⟩ := hcl 3 _ rfl
    obtain ⟨q4, qf4⟩ := hcl 4 _ rfl
    have q0 : W.cell? ⟨b, i * 5, none⟩ = some (.int .i64 z.n.id) := (hcl 0 _ rfl).1
    have q1 := (hcl 1 _ rfl).1
    have q2 := (hcl 2 _ rfl).1
    rw [hzn] at q0 q1 q2
    rw [ezt] at q3
    rw [ezs] at q4
    clear hcl hz hzn ezt ezs hrt hrs
    by_cases hl : 8 ≤ (x.sheets.length : Int)
    · have HL := Lib.hid (show 8 ≤ ((noteOf s id).sheets.length : Int) by rw [← HXN.out]; exact hl)
      have HRW := Lib.hid HS.out.res
      have HGW := Lib.hid HS.out.grow
      have HE := Lib.hid (show appendR s id = bad 3 from res_bad (by unfold appendE; rw [if_neg (by rw [(noteE_zero.1 HN0.out).1]; simp), if_neg (by have := (noteE_zero.1 HN0.out).2; omega), if_pos (.inl HL.out)]) (by decide) _ _)
      obtain ⟨⟨e0, e1, e2, e3, e4⟩, hez⟩ := n5 HRW.out
      have f0 := frozen_of_row _ (w.heap.size + 1) 0 _ _ HRW.out
      have f1 := frozen_of_row _ (w.heap.size + 1) 1 _ _ HRW.out
      have f2 := frozen_of_row _ (w.heap.size + 1) 2 _ _ HRW.out
      have f3 := frozen_of_row _ (w.heap.size + 1) 3 _ _ HRW.out
      have f4 := frozen_of_row _ (w.heap.size + 1) 4 _ _ HRW.out
      go_wp2_with fail
      refine bodyPost_ret (v := .tuple #[.agg #[.int .i64 0, .int .i64 0, .int .i64 0, .slice none 0 0, .slice none 0 0], .int .i64 0, .int .i64 3]) ?_ rfl ?_
      · rw [results_cell_tmp2 (P := Tryd.prog) rfl]
        go_simp
      · refine ret_badM HE.out ?_
        repeat' (first | with_reducible exact HGW.out | with_reducible refine Grow.set ?_ (by first | (simp; done) | (simp; omega)) _)
    · by_cases hk : 4095 < s.ns
      · have HL := Lib.hid hk
        have HRW := Lib.hid HS.out.res
        have HGW := Lib.hid HS.out.grow
        have HE := Lib.hid (show appendR s id = bad 3 from res_bad (by unfold appendE; rw [if_neg (by rw [(noteE_zero.1 HN0.out).1]; simp), if_neg (by have := (noteE_zero.1 HN0.out).2; omega), if_pos (.inr HL.out)]) (by decide) _ _)
        obtain ⟨⟨e0, e1, e2, e3, e4⟩, hez⟩ := n5 HRW.out
        have f0 := frozen_of_row _ (w.heap.size + 1) 0 _ _ HRW.out
        have f1 := frozen_of_row _ (w.heap.size + 1) 1 _ _ HRW.out
        have f2 := frozen_of_row _ (w.heap.size + 1) 2 _ _ HRW.out
        have f3 := frozen_of_row _ (w.heap.size + 1) 3 _ _ HRW.out
        have f4 := frozen_of_row _ (w.heap.size + 1) 4 _ _ HRW.out
        go_wp2_with fail
        refine bodyPost_ret (v := .tuple #[.agg #[.int .i64 0, .int .i64 0, .int .i64 0, .slice none 0 0, .slice none 0 0], .int .i64 0, .int .i64 3]) ?_ rfl ?_
        · rw [results_cell_tmp2 (P := Tryd.prog) rfl]
          go_simp
        · refine ret_badM HE.out ?_
          repeat' (first | with_reducible exact HGW.out | with_reducible refine Grow.set ?_ (by first | (simp; done) | (simp; omega)) _)
      · have hez : appendE s id = 0 := appendE_zero.2 ⟨(noteE_zero.1 HN0.out).1, (noteE_zero.1 HN0.out).2, by rw [← HXN.out]; omega, by omega⟩
        have hns := HMY.out.ns
        have HE := Lib.hid (show appendR s id = ⟨{ s with ns := s.ns + 1, notes := updN id (fun n => { n with sheets := n.sheets ++ [s.ns] }) s.notes }, s.ns, 0⟩ from resOf_ok hez _ _)
        have HRSD := Lib.hid (HRS.out.grow (Grow.refl W).drew)
        have hyl8 : x.sheets.length ≤ 8 := by omega
        clear hez q0 q1 q2 q3 qf3
        go_upto_region 7 with (fail)
        go_region_law (refine step_R (base := w.heap.size) (by rfl) _ _ 39 (by rfl) 3 ii _ 1 8 Tryd.underlying39 hii hiz0 hiz1 hiz2 (by rfl) (by decide) (.slice sb x.sheets.length scc) x.sheets.length (intC x.sheets) (by rfl) W.drew HRSD.out HS.out.grow.drew.size [.int .i64 s.ns] rfl ?_ (by rfl) ?_ (by decide) ?_; (intro u hu; simp at hu; subst hu; rfl); omega; intro v' w4 ra; obtain ⟨va, vc, e3, -⟩ := ra.1.slice; subst e3; obtain ⟨k3, f3, z5, hs4⟩ := (HS.out.more (Grow.refl W).drew).sheetApp HY.out (by rw [HEZS.out, HZN.out]; exact ra) (by rw [HYL.out]); rw [HEZS.out] at k3; obtain ⟨hB5, -⟩ := (HS.out.more (Grow.refl W).drew).keep (by decide) (HRSD.out.keeps ra.2.1); obtain ⟨⟨b0, b1, b2, b3, b4⟩, b5⟩ := n5 hB5; have HS4 := Lib.hid hs4; clear hs4 ra hB5)
        all_goals
          generalize w4.setCell ⟨b, i * 5 + 4, none⟩ (.slice va (x.sheets.length + 1) vc) = W4 at *
          have HMQ := Lib.hid (map_setN HMY.out.ninc HMAP.out HY.out (z := ⟨{ z.n with sheets := z.n.sheets ++ [s.ns] }, z.tv, .slice va (x.sheets.length + 1) vc⟩) (fun n => { n with sheets := n.sheets ++ [s.ns] }) rfl (show z.n.id = id by rw [HZN.out]; exact HXID.out))
          clear k3 f3 z5 q4 qf4 p0 p1 p2 p3 p4 hpz hb3 hb4 b0 b1 b2 b3 b4 b5 HS
          obtain ⟨⟨p0, p1, p2, p3, p4⟩, hpz⟩ := HS4.out.five
          have hb2 := HS4.out.boxF 2
          have HS5 := Lib.hid (HS4.out.num2 (s.ns + 1))
          go_upto_region 9 with (fail)
          generalize W4.setCell ⟨w.heap.size, 2, none⟩ (.int .i64 (s.ns + 1)) = W5 at *
          clear p0 p1 p2 p3 p4 hpz hb2 HS4
          obtain ⟨⟨p0, p1, p2, p3, p4⟩, hpz⟩ := HS5.out.five
          obtain ⟨⟨e0, e1, e2, e3, e4⟩, hez⟩ := HS5.out.res5
          have f0 := HS5.out.resF 0
          have f1 := HS5.out.resF 1
          have f2 := HS5.out.resF 2
          have f3 := HS5.out.resF 3
          have f4 := HS5.out.resF 4
          have HOD := Lib.hid HS5.out.fin
          go_wp2_with fail
          refine bodyPost_ret (v := .tuple #[.agg #[.int .i64 s.nb, .int .i64 s.nn, .int .i64 (s.ns + 1), .slice ba s.books.length bc, .slice (some ⟨b, 0, none⟩) s.notes.length nc], .int .i64 (s.ns), .int .i64 0]) ?_ rfl ?_
          · rw [results_cell_tmp2 (P := Tryd.prog) rfl]
            go_simp
          · refine ret_okM (D := w.heap.size + 1) (s := { s with ns := s.ns + 1, notes := updN id (fun n => { n with sheets := n.sheets ++ [s.ns] }) s.notes }) HE.out ?_ HMQ.out
            repeat' (first | with_reducible exact HOD.out | with_reducible refine OwnD2.drew ?_ | with_reducible refine OwnD2.set ?_ (by omega) _ _)
end Go.Proofs.YtnajccljdjllgaaDoor
set_option linter.unusedVariables false
set_option linter.unusedSimpArgs false
namespace Go.Proofs.YtnajccljdjllgaaDoor
open Go.RowKit Go.Lib
set_option maxRecDepth 100000 in
set_option maxHeartbeats 4000000 in
theorem refSheet_any (s : Shelf) (bv nv : Value) (id k : Int) (w : World) (h : ShelfR w s bv nv) (hz : TameS s) :
    Calls Tryd.prog 18 #[shelfV s bv nv, .int .i64 id, .int .i64 k] w fun e w' => e = .returned (.tuple #[.int .i64 (sheetV s id k), .int .i64 (sheetE s id k)]) ∧ Grow w w' := by
  have cA := fun W (g : Grow w W) => refAt_any s bv nv id W (h.grow g) hz
  have HZ := Lib.hid hz
  obtain ⟨a1, c1, rfl⟩ := h.1.mk
  obtain ⟨a2, c2, rfl⟩ := h.2.mk
  have HXX := Lib.hid (heap_alloc_new w (.cells #[.int .i64 s.nb, .int .i64 s.nn, .int .i64 s.ns, .slice a1 s.books.length c1, .slice a2 s.notes.length c2] 28))
  clear h hz
  unfold shelfV at *
  go_enter Tryd.func18, Tryd.ntmps18
  go_upto_region 1 with (fail)
  generalize hV : w.alloc (.cells #[.int .i64 s.nb, .int .i64 s.nn, .int .i64 s.ns, .slice a1 s.books.length c1, .slice a2 s.notes.length c2] 28) = V
  have gV : Grow w V := by rw [← hV]; exact (Grow.refl w).alloc _
  have HBX : Hid (V.heap[w.heap.size]? = some (.cells #[.int .i64 s.nb, .int .i64 s.nn, .int .i64 s.ns, .slice a1 s.books.length c1, .slice a2 s.notes.length c2] 28 (0, 0))) := by rw [← hV]; exact Lib.hid HXX.out
  obtain ⟨⟨p0, p1, p2, p3, p4⟩, hpz⟩ := n5 HBX.out
  clear hV HXX
  rcases noteE_cases s id with h0 | ⟨h0, h1⟩
  rotate_left
  · have HRE := Lib.hid (show sheetE s id k = noteE s id from sheetE_of h0 k)
    have HRV := Lib.hid (show sheetV s id k = 0 by unfold sheetV; rw [if_neg (by rw [sheetE_of h0 k]; exact h0)])
    have HBAD := Lib.hid (show atR s id = bad (noteE s id) from resOf_no h0 _ _)
    have cA1 := (cA V gV).mono fun _ _ => RetM.none HBAD.out
    have HN0 := Lib.hid h0
    generalize noteE s id = n at *
    clear cA h0
    go_wp2_with fail
    refine cA1.mono ?_
    rintro e w1 ⟨xa, xc, ya, yc, rfl, g1⟩
    clear cA1 p0 p1 p2 p3 p4 hpz
    have hb1 := g1.blk HBX.out
    obtain ⟨⟨p0, p1, p2, p3, p4⟩, hpz⟩ := n5 hb1
    have ff0 := frozen_of_row w1 w.heap.size 0 _ _ hb1
    have ff1 := frozen_of_row w1 w.heap.size 1 _ _ hb1
    have ff2 := frozen_of_row w1 w.heap.size 2 _ _ hb1
    have ff3 := frozen_of_row w1 w.heap.size 3 _ _ hb1
    have ff4 := frozen_of_row w1 w.heap.size 4 _ _ hb1
    have h5 := set5 hb1 (.int .i64 0) (.int .i64 0) (.int .i64 0) (.slice xa 0 xc) (.slice ya 0 yc)
    have hg5 := h5.2.grow (gV.trans g1) (Nat.le_refl _)
    unfold set5w at h5 hg5
    go_upto_region 2 with (fail)
    generalize ((((w1.setCell ⟨w.heap.size, 0, none⟩ (.int .i64 0)).setCell ⟨w.heap.size, 1, none⟩ (.int .i64 0)).setCell ⟨w.heap.size, 2, none⟩ (.int .i64 0)).setCell ⟨w.heap.size, 3, none⟩ (.slice xa 0 xc)).setCell ⟨w.heap.size, 4, none⟩ (.slice ya 0 yc) = W at *
    clear p0 p1 p2 p3 p4 hpz ff0 ff1 ff2 ff3 ff4 h5 hb1
    have HGW := Lib.hid hg5
    go_wp2_with fail
    go_ret2
    exact ⟨by rw [HRE.out, HRV.out]; rfl, HGW.out⟩
  · obtain ⟨i, hi1, hi2, hil, hx, hxid⟩ := note_here h0
    have HAT := Lib.hid (show atR s id = ⟨s, i, 0⟩ by rw [atR, resOf_ok h0, hi2])
    have cA1 := (cA V gV).mono fun _ _ => RetM.at HAT.out
    obtain ⟨x, hxx⟩ : ∃ x, x = noteOf s id := ⟨_, rfl⟩
    rw [← hxx] at hx hxid
    have HXN := Lib.hid hxx
    have hil' : (i : Int) < s.notes.length := by omega
    have HN0 := Lib.hid h0
    have HX := Lib.hid hx
    clear h0 hi1 hi2 hxid hxx hx cA
    go_wp2_with fail
    refine cA1.mono ?_
    rintro e w1 ⟨bv', nv', Y, rfl, ho, hmap, g1⟩
    obtain ⟨ba, bc, ebv, -⟩ := ho.books.slice
    obtain ⟨na, nc, env, -⟩ := ho.notes.slice
    have hYl : Y.length = s.notes.length := by rw [← hmap, List.length_map]
    rw [hYl] at env
    subst ebv env
    clear cA1 p0 p1 p2 p3 p4 hpz
    have hb1 := g1.blk HBX.out
    obtain ⟨⟨p0, p1, p2, p3, p4⟩, hpz⟩ := n5 hb1
    have ff0 := frozen_of_row w1 w.heap.size 0 _ _ hb1
    have ff1 := frozen_of_row w1 w.heap.size 1 _ _ hb1
    have ff2 := frozen_of_row w1 w.heap.size 2 _ _ hb1
    have ff3 := frozen_of_row w1 w.heap.size 3 _ _ hb1
    have ff4 := frozen_of_row w1 w.heap.size 4 _ _ hb1
    have h5 := set5 hb1 (.int .i64 s.nb) (.int .i64 s.nn) (.int .i64 s.ns) (.slice ba s.books.length bc) (.slice na s.notes.length nc)
    have hg5 := h5.2.grow (gV.trans g1) (Nat.le_refl _)
    have hoW := ho.kept (shelf_kept hb1 h5.2)
    unfold set5w at h5 hg5 hoW
    unfold shelfV
    go_upto_region 2 with (fail)
    generalize ((((w1.setCell ⟨w.heap.size, 0, none⟩ (.int .i64 s.nb)).setCell ⟨w.heap.size, 1, none⟩ (.int .i64 s.nn)).setCell ⟨w.heap.size, 2, none⟩ (.int .i64 s.ns)).setCell ⟨w.heap.size, 3, none⟩ (.slice ba s.books.length bc)).setCell ⟨w.heap.size, 4, none⟩ (.slice na s.notes.length nc) = W at *
    clear p0 p1 p2 p3 p4 hpz ff0 ff1 ff2 ff3 ff4 hb1 ho
    obtain ⟨⟨p0, p1, p2, p3, p4⟩, hpz⟩ := n5 h5.1
    obtain ⟨z, hz, hzn⟩ := nv_get hmap HX.out
    obtain ⟨b, cc, ebb, hbz, -, -, hcl⟩ := hoW.note hz
    rw [hYl] at ebb
    injection ebb with eb1 eb2 eb3
    subst eb1 eb3
    have hrs := hoW.sheets z (List.mem_of_getElem? hz)
    obtain ⟨q4, -⟩ := hcl 4 _ rfl
    rw [hzn] at hrs
    obtain ⟨sb, scc, ezs, -⟩ := hrs.slice
    rw [ezs] at hrs q4
    have HGW := Lib.hid hg5
    have HSR := Lib.hid (row_ints hrs)
    clear h5 hg5 hoW hcl hrs ezs hz hzn hmap hYl
    by_cases hk0 : k < 0
    · have HE := Lib.hid (show sheetE s id k = 2 by unfold sheetE; rw [if_neg (by rw [(noteE_zero.1 HN0.out).1]; simp), if_neg (by have := (noteE_zero.1 HN0.out).2; omega), if_pos (.inl hk0)])
      go_wp2_with fail
      go_ret2
      exact ⟨by rw [HE.out, sheetV, if_neg (by rw [HE.out]; decide)]; rfl, HGW.out⟩
    · obtain ⟨q, rfl⟩ : ∃ q : Nat, k = q := ⟨k.toNat, by omega⟩
      by_cases hkl : q < x.sheets.length
      · have hkl' : (q : Int) < x.sheets.length := by omega
        have HE := Lib.hid (show sheetE s id q = 0 from sheetE_zero.2 ⟨(noteE_zero.1 HN0.out).1, (noteE_zero.1 HN0.out).2, by omega, by rw [← HXN.out]; exact hkl'⟩)
        obtain ⟨u, hu, -⟩ := lt_get hkl
        have HV := Lib.hid (show sheetV s id q = u by unfold sheetV sheetN; rw [if_pos HE.out, ← HXN.out, Int.toNat_natCast, getD_of hu])
        obtain ⟨mb, mo, em, hmb, m0⟩ := HSR.out.at hu
        subst em
        clear hu
        go_wp2_with fail
        go_ret2
        exact ⟨by rw [HE.out, HV.out]; rfl, HGW.out⟩
      · have hkl' : ¬ (q : Int) < x.sheets.length := by omega
        have hkl2 : (x.sheets.length : Int) ≤ q := by omega
        have HE := Lib.hid (show sheetE s id q = 2 by unfold sheetE; rw [if_neg (by rw [(noteE_zero.1 HN0.out).1]; simp), if_neg (by have := (noteE_zero.1 HN0.out).2; omega), if_pos (.inr (by rw [← HXN.out]; omega))])
        go_wp2_with fail
        go_ret2
        exact ⟨by rw [HE.out, sheetV, if_neg (by rw [HE.out]; decide)]; rfl, HGW.out⟩
end Go.Proofs.YtnajccljdjllgaaDoor
set_option linter.unusedVariables false
set_option linter.unusedSimpArgs false
namespace Go.Proofs.YtnajccljdjllgaaDoor
open Go.RowKit Go.Lib
set_option maxRecDepth 100000 in
set_option maxHeartbeats 4000000 in
theorem refReplace_any (s : Shelf) (bv nv : Value) (id k : Int) (w : World) (h : ShelfR w s bv nv) (hz : TameS s) (hT : Tabs w) :
    Calls Tryd.prog 54 #[shelfV s bv nv, .int .i64 id, .int .i64 k] w (RetM (replaceR s id k) w) := by
  have cF := fun W (g : Grow w W) => refSheet_any s bv nv id k W (h.grow g) hz
  have cO := fun W (g : Grow w W) => copy_any s bv nv W (h.grow g) hz.1
  have HZ := Lib.hid hz
  have HH := Lib.hid h
  obtain ⟨a1, c1, rfl⟩ := h.1.mk
  obtain ⟨a2, c2, rfl⟩ := h.2.mk
  have HXX := Lib.hid (two_boxes2 w (shB s (.slice a1 s.books.length c1) (.slice a2 s.notes.length c2)) (shB ⟨0, 0, 0, [], []⟩ (.slice none 0 0) (.slice none 0 0)))
  clear h hz hT
  unfold shelfV at *
  go_enter Tryd.func54, Tryd.ntmps54
  go_upto_region 1 with (fail)
  generalize hV : (w.alloc (.cells #[.int .i64 s.nb, .int .i64 s.nn, .int .i64 s.ns, .slice a1 s.books.length c1, .slice a2 s.notes.length c2] 28)).alloc (.cells #[.int .i64 0, .int .i64 0, .int .i64 0, .slice none 0 0, .slice none 0 0] 28) = V
  have gV : Grow w V := by rw [← hV]; exact ((Grow.refl w).alloc _).alloc _
  have HBX : Hid (V.heap[w.heap.size]? = some (shB s (.slice a1 s.books.length c1) (.slice a2 s.notes.length c2))) := by rw [← hV]; exact Lib.hid HXX.out.1
  have HRX : Hid (V.heap[w.heap.size + 1]? = some (shB ⟨0, 0, 0, [], []⟩ (.slice none 0 0) (.slice none 0 0))) := by rw [← hV]; exact Lib.hid HXX.out.2
  obtain ⟨⟨p0, p1, p2, p3, p4⟩, hpz⟩ := n5 HBX.out
  clear hV
  have cF1 := cF V gV
  by_cases h0 : sheetE s id k = 0
  rotate_left
  · have h1 : (sheetE s id k == 0) = false := beq_eq_false_iff_ne.2 h0
    have HF := Lib.hid (show sheetV s id k = 0 by unfold sheetV; rw [if_neg h0])
    have HN0 := Lib.hid h0
    have HRR := Lib.hid (show replaceR s id k = bad (sheetE s id k) from resOf_no h0 _ _)
    rw [HF.out] at cF1
    generalize sheetE s id k = n at *
    clear cO
    go_wp2_with fail
    refine cF1.mono ?_
    rintro e w1 ⟨rfl, g1⟩
    clear cF1 p0 p1 p2 p3 p4 hpz h0
    have HE := Lib.hid (show replaceR s id k = bad n from HRR.out)
    obtain ⟨⟨e0, e1, e2, e3, e4⟩, hez⟩ := n5 (g1.blk HRX.out)
    have f0 := frozen_of_row _ (w.heap.size + 1) 0 _ _ (g1.blk HRX.out)
    have f1 := frozen_of_row _ (w.heap.size + 1) 1 _ _ (g1.blk HRX.out)
    have f2 := frozen_of_row _ (w.heap.size + 1) 2 _ _ (g1.blk HRX.out)
    have f3 := frozen_of_row _ (w.heap.size + 1) 3 _ _ (g1.blk HRX.out)
    have f4 := frozen_of_row _ (w.heap.size + 1) 4 _ _ (g1.blk HRX.out)
    go_wp2_with fail
    refine bodyPost_ret (v := .tuple #[.agg #[.int .i64 0, .int .i64 0, .int .i64 0, .slice none 0 0, .slice none 0 0], .int .i64 0, .int .i64 n]) ?_ rfl ?_
    · rw [results_cell_tmp2 (P := Tryd.prog) rfl]
      go_simp
    · refine ret_badM HE.out ?_
      repeat' (first | with_reducible exact gV.trans g1 | with_reducible refine Grow.set ?_ (by first | (simp; done) | (simp; omega)) _)
  · obtain ⟨u, hu⟩ : ∃ u, sheetN s id k = u := ⟨_, rfl⟩
    have HV := Lib.hid (show sheetV s id k = u by unfold sheetV; rw [if_pos h0, hu])
    have HE := Lib.hid (show replaceR s id k = ⟨s, u, 0⟩ by rw [replaceR, resOf_ok h0, hu])
    rw [h0, HV.out] at cF1
    clear h0 hu
    go_wp2_with fail
    refine cF1.mono ?_
    rintro e w1 ⟨rfl, g1⟩
    clear cF1 p0 p1 p2 p3 p4 hpz
    obtain ⟨⟨p0, p1, p2, p3, p4⟩, hpz⟩ := n5 (g1.blk HBX.out)
    have cO1 := cO _ (gV.trans g1)
    go_wp2_with fail
    refine cO1.mono ?_
    rintro e w3 ⟨bv', nv', Y, rfl, ho, hmap, g3⟩
    obtain ⟨ba, bc, ebv, -⟩ := ho.books.slice
    obtain ⟨na, nc, env, -⟩ := ho.notes.slice
    subst ebv env
    have HMAP := Lib.hid hmap
    have hbox := (g1.trans g3).blk HRX.out
    have HOD := Lib.hid (show OwnD2 w.heap.size (.slice ba s.books.length bc) (.slice na Y.length nc) s.books Y w (w.heap.size + 1) w3 from ⟨(gV.trans g1).trans g3, ho.base_mono (gV.trans g1).size, _, hbox⟩)
    obtain ⟨⟨e0, e1, e2, e3, e4⟩, hez⟩ := n5 hbox
    have f0 := frozen_of_row _ (w.heap.size + 1) 0 _ _ hbox
    have f1 := frozen_of_row _ (w.heap.size + 1) 1 _ _ hbox
    have f2 := frozen_of_row _ (w.heap.size + 1) 2 _ _ hbox
    have f3 := frozen_of_row _ (w.heap.size + 1) 3 _ _ hbox
    have f4 := frozen_of_row _ (w.heap.size + 1) 4 _ _ hbox
    clear cO1 cO ho hmap g3 p0 p1 p2 p3 p4 hpz hbox
    unfold shelfV
    go_wp2_with fail
    refine bodyPost_ret (v := .tuple #[.agg #[.int .i64 s.nb, .int .i64 s.nn, .int .i64 s.ns, .slice ba s.books.length bc, .slice na Y.length nc], .int .i64 u, .int .i64 0]) ?_ rfl ?_
    · rw [results_cell_tmp2 (P := Tryd.prog) rfl]
      go_simp
    · refine ret_okM (D := w.heap.size + 1) (s := s) HE.out ?_ HMAP.out
      repeat' (first | with_reducible exact HOD.out | with_reducible refine OwnD2.drew ?_ | with_reducible refine OwnD2.set ?_ (by omega) _ _)
end Go.Proofs.YtnajccljdjllgaaDoor
set_option linter.unusedVariables false
set_option linter.unusedSimpArgs false
namespace Go.Proofs.YtnajccljdjllgaaDoor
open Go.RowKit Go.Lib
set_option maxRecDepth 100000 in
set_option maxHeartbeats 4000000 in
theorem refRemove_any (s : Shelf) (bv nv : Value) (id k : Int) (w : World) (h : ShelfR w s bv nv) (hz : TameS s) (hT : Tabs w) :
    Calls Tryd.prog 55 #[shelfV s bv nv, .int .i64 id, .int .i64 k] w (RetM (removeR s id k) w) := by
  obtain ⟨ii, hii, iiz0, iiz1, iiz2⟩ := info_parts info_int
  have cF := fun W (g : Grow w W) => refSheet_any s bv nv id k W (h.grow g) hz
  have cO := True.intro
  have cA := fun W (g : Grow w W) => refAt_any s bv nv id W (h.grow g) hz
  have HZ := Lib.hid hz
  have HH := Lib.hid h
  obtain ⟨a1, c1, rfl⟩ := h.1.mk
  obtain ⟨a2, c2, rfl⟩ := h.2.mk
  have HXX := Lib.hid (two_boxes2 w (shB s (.slice a1 s.books.length c1) (.slice a2 s.notes.length c2)) (shB ⟨0, 0, 0, [], []⟩ (.slice none 0 0) (.slice none 0 0)))
  clear h hz hT
  unfold shelfV at *
  go_enter Tryd.func55, Tryd.ntmps55
  go_upto_region 1 with (fail)
  generalize hV : (w.alloc (.cells #[.int .i64 s.nb, .int .i64 s.nn, .int .i64 s.ns, .slice a1 s.books.length c1, .slice a2 s.notes.length c2] 28)).alloc (.cells #[.int .i64 0, .int .i64 0, .int .i64 0, .slice none 0 0, .slice none 0 0] 28) = V
  have gV : Grow w V := by rw [← hV]; exact ((Grow.refl w).alloc _).alloc _
  have HBX : Hid (V.heap[w.heap.size]? = some (shB s (.slice a1 s.books.length c1) (.slice a2 s.notes.length c2))) := by rw [← hV]; exact Lib.hid HXX.out.1
  have HRX : Hid (V.heap[w.heap.size + 1]? = some (shB ⟨0, 0, 0, [], []⟩ (.slice none 0 0) (.slice none 0 0))) := by rw [← hV]; exact Lib.hid HXX.out.2
  obtain ⟨⟨p0, p1, p2, p3, p4⟩, hpz⟩ := n5 HBX.out
  clear hV
  have cF1 := cF V gV
  by_cases h0 : sheetE s id k = 0
  rotate_left
  · have h1 : (sheetE s id k == 0) = false := beq_eq_false_iff_ne.2 h0
    have HF := Lib.hid (show sheetV s id k = 0 by unfold sheetV; rw [if_neg h0])
    have HN0 := Lib.hid h0
    have HRR := Lib.hid (show removeR s id k = bad (sheetE s id k) from resOf_no h0 _ _)
    rw [HF.out] at cF1
    generalize sheetE s id k = n at *
    clear cO cA
    go_wp2_with fail
    refine cF1.mono ?_
    rintro e w1 ⟨rfl, g1⟩
    clear cF1 p0 p1 p2 p3 p4 hpz h0
    have HE := Lib.hid (show removeR s id k = bad n from HRR.out)
    obtain ⟨⟨e0, e1, e2, e3, e4⟩, hez⟩ := n5 (g1.blk HRX.out)
    have f0 := frozen_of_row _ (w.heap.size + 1) 0 _ _ (g1.blk HRX.out)
    have f1 := frozen_of_row _ (w.heap.size + 1) 1 _ _ (g1.blk HRX.out)
    have f2 := frozen_of_row _ (w.heap.size + 1) 2 _ _ (g1.blk HRX.out)
    have f3 := frozen_of_row _ (w.heap.size + 1) 3 _ _ (g1.blk HRX.out)
    have f4 := frozen_of_row _ (w.heap.size + 1) 4 _ _ (g1.blk HRX.out)
    go_wp2_with fail
    refine bodyPost_ret (v := .tuple #[.agg #[.int .i64 0, .int .i64 0, .int .i64 0, .slice none 0 0, .slice none 0 0], .int .i64 0, .int .i64 n]) ?_ rfl ?_
    · rw [results_cell_tmp2 (P := Tryd.prog) rfl]
      go_simp
    · refine ret_badM HE.out ?_
      repeat' (first | with_reducible exact gV.trans g1 | with_reducible refine Grow.set ?_ (by first | (simp; done) | (simp; omega)) _)
  · have HN0 := Lib.hid h0
    obtain ⟨i, q, hi1, hi2, hkq, hil, hx, hxid, hq, -⟩ := sheet_here h0
    have HAT := Lib.hid (show atR s id = ⟨s, i, 0⟩ by rw [atR, resOf_ok (noteE_zero.2 ⟨(sheetE_zero.1 h0).1, (sheetE_zero.1 h0).2.1⟩), hi2])
    obtain ⟨x, hxx⟩ : ∃ x, x = noteOf s id := ⟨_, rfl⟩
    rw [← hxx] at hx hxid hq
    obtain ⟨u, hu⟩ : ∃ u, u = sheetN s id k := ⟨_, rfl⟩
    rw [← hu] at hq
    have HV := Lib.hid (show sheetV s id k = u by unfold sheetV; rw [if_pos h0, hu])
    have HX := Lib.hid hx
    have HXID := Lib.hid hxid
    have hil' : (i : Int) < s.notes.length := by omega
    obtain ⟨z1, z2, z3, z4⟩ := HZ.out.1.note hx
    have hql : q < x.sheets.length := (List.getElem?_eq_some_iff.1 hq).1
    have HMY := Lib.hid (mayS_iff.1 (sheetE_zero.1 h0).1)
    have HE := Lib.hid (show removeR s id k = ⟨{ s with notes := updN id (fun n => { n with sheets := n.sheets.eraseIdx q }) s.notes }, u, 0⟩ by
      rw [removeR, resOf_ok h0, hu, show k.toNat = q by omega])
    rw [h0, HV.out] at cF1
    subst hkq
    have HQ := Lib.hid hq
    clear h0 hi1 hi2 hxid hxx hu hx hq
    go_wp2_with fail
    refine cF1.mono ?_
    rintro e w1 ⟨rfl, g1⟩
    clear cF1 p0 p1 p2 p3 p4 hpz
    obtain ⟨⟨p0, p1, p2, p3, p4⟩, hpz⟩ := n5 (g1.blk HBX.out)
    have cO1 := (cA _ (gV.trans g1)).mono fun _ _ => RetM.at HAT.out
    go_wp2_with fail
    refine cO1.mono ?_
    rintro e w3 ⟨bv', nv', Y, rfl, ho, hmap, g3⟩
    have hs : StB w w.heap.size (w.heap.size + 1) s.nb s.nn s.ns bv' nv' s.books Y (((((w3.setCell ⟨w.heap.size, 0, none⟩ (.int .i64 s.nb)).setCell ⟨w.heap.size, 1, none⟩ (.int .i64 s.nn)).setCell ⟨w.heap.size, 2, none⟩ (.int .i64 s.ns)).setCell ⟨w.heap.size, 3, none⟩ bv').setCell ⟨w.heap.size, 4, none⟩ nv') := StB.start (s := s) (D := w.heap.size + 1) gV HBX.out HRX.out g1 g3 ho ⟨Nat.le_refl _, by omega, by omega⟩
    obtain ⟨ba, bc, ebv, -⟩ := ho.books.slice
    obtain ⟨na, nc, env, -⟩ := ho.notes.slice
    have hYl : Y.length = s.notes.length := by rw [← hmap, List.length_map]
    rw [hYl] at env
    have HMAP := Lib.hid hmap
    have HYL := Lib.hid hYl
    subst ebv env
    obtain ⟨⟨p0', p1', p2', p3', p4'⟩, hpz'⟩ := n5 ((g1.trans g3).blk HBX.out)
    have HF3 := Lib.hid (frozen_of_row w3 w.heap.size 0 _ _ ((g1.trans g3).blk HBX.out))
    have ff : ∀ j, w3.frozen? ⟨w.heap.size, j, none⟩ = false := fun j => frozen_of_row w3 w.heap.size j _ _ ((g1.trans g3).blk HBX.out)
    have ff0 := ff 0
    have ff1 := ff 1
    have ff2 := ff 2
    have ff3 := ff 3
    have ff4 := ff 4
    have HOW3 := Lib.hid ho
    have HG3 := Lib.hid (g1.trans g3)
    have hw3 : w.heap.size < w3.heap.size := hpz'
    clear cO1 cA ho hmap g3 hYl p0 p1 p2 p3 p4 ff
    unfold shelfV
    go_upto_region 5 with (fail)
    generalize ((((w3.setCell ⟨w.heap.size, 0, none⟩ (.int .i64 s.nb)).setCell ⟨w.heap.size, 1, none⟩ (.int .i64 s.nn)).setCell ⟨w.heap.size, 2, none⟩ (.int .i64 s.ns)).setCell ⟨w.heap.size, 3, none⟩ (.slice ba s.books.length bc)).setCell ⟨w.heap.size, 4, none⟩ (.slice na s.notes.length nc) = W at *
    have HS := Lib.hid hs
    obtain ⟨⟨p0, p1, p2, p3, p4⟩, hpz⟩ := hs.five
    have hb3 := hs.boxF 3
    have hb4 := hs.boxF 4
    clear hs p0' p1' p2' p3' p4' ff0 ff1 ff2 ff3 ff4 hpz'
    obtain ⟨z, hz, hzn⟩ := nv_get HMAP.out HX.out
    have HZN := Lib.hid hzn
    have HY := Lib.hid hz
    obtain ⟨b, cc, ebb, hbz, -, -, hcl⟩ := HS.out.own.note hz
    rw [HYL.out] at ebb
    injection ebb with eb1 eb2 eb3
    subst eb1 eb3
    have hrs := HS.out.own.sheets z (List.mem_of_getElem? hz)
    rw [hzn] at hrs
    obtain ⟨eb, scc, ezs, -, -, -, hbk0⟩ := hrs.cell (j := q) (u := .int .i64 u) (by unfold intC; rw [List.getElem?_map, HQ.out]; rfl)
    obtain ⟨sa', sc', es', hscc⟩ := hrs.slice
    rw [ezs] at es'
    injection es' with es1 es2 es3
    subst es3
    rw [ezs] at hrs hbk0
    have HEZS := Lib.hid ezs
    have HBK := Lib.hid hbk0
    have HROW := Lib.hid (hrs.grow (Grow.refl W).drew)
    rw [← flat_int] at HROW
    obtain ⟨q4, qf4⟩ := hcl 4 _ rfl
    rw [ezs] at q4
    clear hcl hz hzn ezs hrs hbk0 es1 es2
    have hc0 : ¬ scc = 0 := by omega
    have hile : (q : Int) ≤ scc := by omega
    have hile2 : (q : Int) + 1 ≤ x.sheets.length := by omega
    have hile3 : 0 ≤ (q : Int) + 1 := by omega
    have hile4 : (q : Int) ≤ (q : Int) + 1 := by omega
    have hile5 : (q : Int) ≤ x.sheets.length := by omega
    have hwr : IntKind.i64.wrap ((q : Int) + 1) = ((q + 1 : Nat) : Int) := by have := IntWalk.i64_in ((q : Int) + 1) (by omega); omega
    go_cut [] (fun wx => ∃ va vc, StB w w.heap.size (w.heap.size + 1) s.nb s.nn s.ns (.slice ba s.books.length bc) (.slice (some ⟨b, 0, none⟩) s.notes.length nc) s.books (Y.set i ⟨{ z.n with sheets := x.sheets.eraseIdx q }, z.tv, .slice va (x.sheets.eraseIdx q).length vc⟩) wx)
    case first =>
      go_region_law (go_must (refine step_erase (P := Tryd.prog) (i := q) (l := x.sheets) (base := w.heap.size) (b := eb) (c := scc) (fun u : Int => [Value.int .i64 u]) (fun _ => rfl) (by rfl) _ _ (by rfl) Tryd.underlying39 hii iiz0 iiz1 iiz2 (by rfl) (by decide) (n := x.sheets.length) W.drew HROW.out rfl (by omega) HS.out.grow.drew.size (fun x _ u hu => by simp at hu; subst hu; rfl) (by omega) (by decide) (if scc = q + 1 then some ⟨eb, 0, none⟩ else some ⟨eb, q + 1, none⟩) (x.sheets.length - (q + 1)) (scc - (q + 1)) (by rfl) (by rfl) (by omega) (fun hlt => (if_neg (by omega)).trans (by simp)) ?_; intro v' w5 ra; obtain ⟨hr, hg, hbk⟩ := ra; rw [flat_int] at hr; obtain ⟨va, vc, e3, -⟩ := hr.slice; subst e3; obtain ⟨k3, f3, z5, hs5⟩ := (HS.out.more (Grow.refl W).drew).resheet HY.out hr (by rw [HEZS.out, HBK.out]; exact hg) (fun g hg' => (hbk g hg').imp (fun e => by rw [HEZS.out, HBK.out, e]) (fun e => e)) (by rw [HYL.out]); rw [HEZS.out] at k3; obtain ⟨hB5, -⟩ := (HS.out.more (Grow.refl W).drew).keep (by decide) (HROW.out.keeps (by rw [HBK.out]; exact hg)); obtain ⟨⟨b0, b1, b2, b3, b4⟩, b5⟩ := n5 hB5; have HS5 := Lib.hid hs5; clear hs5 hr hg hbk hB5))
      all_goals
        go_wp2_with fail
        all_goals
          go_meet
          exact ⟨va, vc, HS5.out⟩
    case rest =>
      obtain ⟨va, vc, hs5⟩ := hcut
      have HS5 := Lib.hid hs5
      clear hs5
      obtain ⟨m, hm⟩ : ∃ m, m = (x.sheets.eraseIdx q).length := ⟨_, rfl⟩
      rw [← hm] at HS5
      have HMQ := Lib.hid (map_setN HMY.out.ninc HMAP.out HY.out (z := ⟨{ z.n with sheets := x.sheets.eraseIdx q }, z.tv, .slice va m vc⟩) (fun n => { n with sheets := n.sheets.eraseIdx q }) (by simp only [HZN.out]) (show z.n.id = id by rw [HZN.out]; exact HXID.out))
      clear p0 p1 p2 p3 p4 hpz q4 qf4 hm HS
      obtain ⟨⟨p0, p1, p2, p3, p4⟩, hpz⟩ := HS5.out.five
      obtain ⟨⟨e0, e1, e2, e3, e4⟩, hez⟩ := HS5.out.res5
      have f0 := HS5.out.resF 0
      have f1 := HS5.out.resF 1
      have f2 := HS5.out.resF 2
      have f3 := HS5.out.resF 3
      have f4 := HS5.out.resF 4
      have HOD := Lib.hid HS5.out.fin
      go_wp2_with fail
      refine bodyPost_ret (v := .tuple #[.agg #[.int .i64 s.nb, .int .i64 s.nn, .int .i64 s.ns, .slice ba s.books.length bc, .slice (some ⟨b, 0, none⟩) s.notes.length nc], .int .i64 (u), .int .i64 0]) ?_ rfl ?_
      · rw [results_cell_tmp2 (P := Tryd.prog) rfl]
        go_simp
      · refine ret_okM (D := w.heap.size + 1) (s := { s with notes := updN id (fun n => { n with sheets := n.sheets.eraseIdx q }) s.notes }) HE.out ?_ HMQ.out
        repeat' (first | with_reducible exact HOD.out | with_reducible refine OwnD2.drew ?_ | with_reducible refine OwnD2.set ?_ (by omega) _ _)
end Go.Proofs.YtnajccljdjllgaaDoor
