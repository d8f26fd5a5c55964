/- What the document's Read reads, leniently: the shelf and what is left of the bytes. The walks of the document's reader of bytes. The walks of jotterlaw0's LendBytes and KeptBytes. The state of the document's Read. The document's Read, step by step: the plain laws. -/
import Derived.Test.YtbdbmigkcpgmkaaDoorReadL
import Derived.Test.YtbdbmigkcpgmkaaDoorOver
import Derived.Test.YtbdbmigkcpgmkaaDoorLayo
import Derived.Test.YtbdbmigkcpgmkaaDoorSameY
import Derived.Laws.MakeOwn
import Derived.Test.YtbdbmigkcpgmkaaDoorRs
import Derived.Test.YtbdbmigkcpgmkaaDoorReadI
set_option linter.unusedVariables false
set_option linter.unusedSimpArgs false
namespace Go.Proofs.YtbdbmigkcpgmkaaDoor
open Go.RowKit Go.Lib
section
variable {α β : Type}
theorem books_bind (f : α → Option β) (C : List UInt8 → List Book → Option α) : ∀ (k : Nat) (l : List UInt8) (X : List Book), booksR k l X (fun l X => (C l X).bind f) = (booksR k l X C).bind f
  | 0, _, _ => rfl
  | k + 1, l, X => by
    unfold booksR
    split
    · rfl
    · exact books_bind f C k _ _
theorem tags_bind (f : α → Option β) (C : List UInt8 → List ByteArray → Option α) : ∀ (k : Nat) (l : List UInt8) (X : List ByteArray), tagsR k l X (fun l X => (C l X).bind f) = (tagsR k l X C).bind f
  | 0, _, _ => rfl
  | k + 1, l, X => by
    unfold tagsR
    split
    · rfl
    · exact tags_bind f C k _ _
theorem sheets_bind (f : α → Option β) (C : List UInt8 → List Int → Option α) : ∀ (k : Nat) (l : List UInt8) (X : List Int), sheetsR k l X (fun l X => (C l X).bind f) = (sheetsR k l X C).bind f
  | 0, _, _ => rfl
  | k + 1, l, X => by
    unfold sheetsR
    split
    · rfl
    · exact sheets_bind f C k _ _
theorem notes_bind (f : α → Option β) (C : List UInt8 → List Note → Option α) : ∀ (k : Nat) (l : List UInt8) (Y : List Note), notesR k l Y (fun l Y => (C l Y).bind f) = (notesR k l Y C).bind f
  | 0, _, _ => rfl
  | k + 1, l, Y => by
    rw [notesR_succ, notesR_succ]
    split
    · rfl
    · rw [← tags_bind]
      congr 1
      funext l1 T
      unfold ctags
      split
      · rfl
      · rw [← sheets_bind]
        congr 1
        funext l2 S
        exact notes_bind f C k _ _
end
def endQ (nb nn ns : Int) (X : List Book) (l : List UInt8) (Y : List Note) : Option (Shelf × List UInt8) := some (⟨nb, nn, ns, X, Y⟩, l)
def midQ (nb nn ns : Int) (l : List UInt8) (X : List Book) : Option (Shelf × List UInt8) := if numO l 1 false then none else notesR (numV l 1) (numL l 1) [] (endQ nb nn ns X)
def readQ (l : List UInt8) : Option (Shelf × List UInt8) := if numO (h3L l) 1 (h3O l) then none else booksR (numV (h3L l) 1) (numL (h3L l) 1) [] (midQ (numV l 3) (numV (h1L l) 3) (numV (h2L l) 3))
def overQ (p : Shelf × List UInt8) : Option Shelf := if p.2.isEmpty && mayS p.1 then some p.1 else none
theorem readR_Q (l : List UInt8) : readR l = (readQ l).bind overQ := by
  unfold readR readQ
  split
  · rfl
  · rw [← books_bind]
    congr 1
    funext l X
    unfold midR midQ
    split
    · rfl
    · rw [← notes_bind]
      congr 1
theorem readQ_sound {l r : List UInt8} {s : Shelf} (h : readQ l = some (s, r)) : l = layB s ++ r := by
  unfold readQ at h
  split at h
  · cases h
  · rename_i hb
    have hb2 : numO (h3L l) 1 (h3O l) = false := by simpa using hb
    have h0 : h3O l = false := by
      cases e : h3O l with
      | false => rfl
      | true => rw [e, numO_true] at hb2; cases hb2
    rw [h0] at hb2
    unfold h3O at h0
    have h1 : numO l 3 false = false := by
      cases e : numO l 3 false with
      | false => rfl
      | true => rw [e, numO_true, numO_true] at h0; cases h0
    rw [h1] at h0
    have h2 : numO (numL l 3) 3 false = false := by
      cases e : numO (numL l 3) 3 false with
      | false => rfl
      | true => rw [e, numO_true] at h0; cases h0
    rw [h2] at h0
    obtain ⟨X, l1, x1, x2, x3⟩ := books_sound _ _ _ h
    unfold midQ at x3
    split at x3
    · cases x3
    · rename_i hc
      have hc2 : numO l1 1 false = false := by simpa using hc
      obtain ⟨Y, l2, y1, y2, y3⟩ := notes_sound _ _ _ x3
      unfold endQ at y3
      obtain ⟨hs, rfl⟩ := Prod.mk.inj (Option.some.inj y3)
      have e1 := num_sound (by decide) h1
      have e2 := num_sound (by decide) h2
      have e3 := num_sound (by decide) h0
      have e4 := num_sound (l := h3L l) (by decide) hb2
      have e5 := num_sound (by decide) hc2
      rw [lay_eq, ← hs]
      simp only [List.nil_append, List.append_assoc]
      rw [← y2, y1, ← e5, ← x2, x1, ← e4]
      show l = putB (numV l 3 : Nat) 3 ++ (putB (numV (numL l 3) 3 : Nat) 3 ++ (putB (numV (numL (numL l 3) 3) 3 : Nat) 3 ++ numL (numL (numL l 3) 3) 3))
      rw [← e3, ← e2, ← e1]
/-- What the document answers. -/
theorem readQ_none {l : List UInt8} (h : readQ l = none) : readR l = none := by rw [readR_Q, h]; rfl
theorem readQ_some {l r : List UInt8} {s : Shelf} (h : readQ l = some (s, r)) : readR l = if mayS s = true ∧ layB s = l then some s else none := by
  rw [readR_Q, h]
  have e := readQ_sound h
  show overQ (s, r) = _
  unfold overQ
  by_cases hm : mayS s = true
  · by_cases hr : r = []
    · subst hr
      rw [List.append_nil] at e
      simp [hm, e.symm]
    · have : ¬ layB s = l := fun h2 => hr (by
        rw [h2] at e
        have := congrArg List.length e
        rw [List.length_append] at this
        exact List.eq_nil_of_length_eq_zero (by omega))
      simp [hr, this]
  · simp [hm]
end Go.Proofs.YtbdbmigkcpgmkaaDoor
set_option linter.unusedVariables false
set_option linter.unusedSimpArgs false
namespace Go.Proofs.YtbdbmigkcpgmkaaDoor
open Go.RowKit Go.Lib
/-- A reader at block B of what is left, and whether there were too few. -/
structure Rq (W0 : World) (B : Nat) (l0 l : List UInt8) (bad : Bool) (w : World) : Prop where
  grow : Grow W0 w
  low : W0.heap.size ≤ B
  box : ∃ v n, w.heap[B]? = some (.cells #[v, .int .i64 (n : Nat), .bool bad] 81 (0, 0)) ∧ Bytes W0 v l0 ∧ n ≤ l0.length ∧ l = l0.drop n
def nvQ (l : List UInt8) (n : Nat) (bad : Bool) : Nat := if bad then 0 else numV l n
def nlQ (l : List UInt8) (n : Nat) (bad : Bool) : List UInt8 := if bad then l else numL l n
def tvQ (l : List UInt8) (bad : Bool) : ByteArray := if bad then ⟨#[]⟩ else txV l
def tlQ (l : List UInt8) (bad : Bool) : List UInt8 := if bad then l else txL l
theorem add_k (b n k : Nat) : (⟨b, n, none⟩ : Addr).add k = ⟨b, n + k, none⟩ := by simp [Addr.add]
theorem Turned.setN (w : World) (B o : Nat) (u : Value) (k : Nat) : Turned B w ((w.drewN k).setCell ⟨B, o, none⟩ u) := (Turned.of_grow ((Grow.refl w).drewN k)).trans (Turned.set _ _ _ _)
theorem wrap_two (a x : Nat) (ha : a < 256 ^ 2) (hx : x < 256) : wrap64 (wrap64 ((a : Int) * 256) + x) = ((a * 256 + x : Nat) : Int) := by
  have : a < 65536 := ha
  unfold wrap64; omega
theorem heapN (w : World) (k : Nat) : (w.drewN k).heap = w.heap := by
  induction k with
  | zero => rfl
  | succ k ih => exact ih
set_option maxRecDepth 100000 in
set_option maxHeartbeats 1000000 in
theorem numQ_any (W0 : World) (B : Nat) (l0 l : List UInt8) (bad : Bool) (n : Nat) (w : World) (h : Rq W0 B l0 l bad w) (hl : l0.length ≤ 1000000) (hn : n ≤ 3) :
    Calls Tryd.prog 48 #[.pointer (some ⟨B, 0, none⟩), .int .i64 n] w fun e w' => e = .returned (.int .i64 (nvQ l n bad)) ∧ Turned B w w' ∧ Rq W0 B l0 (nlQ l n bad) (numO l n bad) w' := by
  obtain ⟨hg, hlow, v, q, hbox, hv, hq, rfl⟩ := h
  obtain ⟨a, c, rfl⟩ := hv.mk
  have hc := hv.len.2
  have HV := Lib.hid hv
  have HB := Lib.hid hbox
  have c0 : w.cell? ⟨B, 0, none⟩ = some (.slice a l0.length c) := (cell_of_row w B 0 _ _ _ hbox).trans rfl
  have c1 : w.cell? ⟨B, 1, none⟩ = some (.int .i64 q) := (cell_of_row w B 1 _ _ _ hbox).trans rfl
  have c2 : w.cell? ⟨B, 2, none⟩ = some (.bool bad) := (cell_of_row w B 2 _ _ _ hbox).trans rfl
  have f1 : w.frozen? ⟨B, 1, none⟩ = false := by simp [World.frozen?, hbox]
  have f2 : w.frozen? ⟨B, 2, none⟩ = false := by simp [World.frozen?, hbox]
  have hBs : B < w.heap.size := (Array.getElem?_eq_some_iff.1 hbox).1
  have hdl : (l0.drop q).length = l0.length - q := List.length_drop
  clear hv hbox
  cases bad
  · by_cases hlt : l0.length - q < n
    · have hlt' : ((l0.length : Int) - q) < n := by omega
      go_enter Tryd.func48, Tryd.ntmps48
      go_wp2_with fail
      go_quiet (fail)
      go_wp2_with fail
      go_ret
      refine ⟨?_, Turned.setN _ _ _ _ _, Turned.grow (Turned.setN _ _ _ _ _) hg hlow, hlow, _, q, ?_, HV.out, hq, ?_⟩
      · unfold nvQ numV; rw [if_neg (by simp), if_neg (by omega)]; rfl
      · rw [heap_setCell_same _ B 2 _ _ _ ((congrArg (·[B]?) (heapN w _)).trans HB.out)]; unfold numO; rw [if_neg (by omega)]; rfl
      · unfold nlQ numL; rw [if_neg (by simp), if_neg (by omega)]
    · have hlt' : ¬ ((l0.length : Int) - q) < n := by omega
      go_enter Tryd.func48, Tryd.ntmps48
      go_wp2_with fail
      go_quiet (fail)
      go_wp2_with fail
      go_loopw [5, 6] (fun v5 v6 wx => (∃ k : Nat, v6 = .int .i64 k ∧ k ≤ n ∧ v5 = .int .i64 (numB ((l0.drop q).take k))) ∧ ∃ t, wx = w.drewN t) (fun _ v6 _ => n - (intOf v6).toNat)
      case atStart => exact ⟨⟨0, rfl, by omega, rfl⟩, _, rfl⟩
      case round =>
        obtain ⟨⟨k, rfl, hk, rfl⟩, t, rfl⟩ := hrel
        by_cases hkn : k < n
        · have hkn' : (k : Int) < n := by omega
          obtain ⟨x, hx, -⟩ := lt_get (l := l0) (i := q + k) (by omega)
          obtain ⟨b, off, rfl, hb, hcc⟩ := HV.out.at hx
          replace hcc := (hg.cells _ _ hb).trans hcc
          have hx8 := x.toNat_lt
          have HB2 := Lib.hid (numB_lt ((l0.drop q).take k))
          have HX := Lib.hid hx
          clear hx
          go_wp2_with fail
          go_quiet (fail)
          go_wp2_with fail
          go_roundw
          case rel =>
            refine ⟨⟨k + 1, by go_num, by omega, ?_⟩, _, rfl⟩
            have hx2 : (l0.drop q)[k]? = some x := by rw [List.getElem?_drop]; exact HX.out
            obtain ⟨hi, e⟩ := List.getElem?_eq_some_iff.1 hx2
            rw [List.take_succ_eq_append_getElem hi, e, numB_snoc]
            have h3 : ((l0.drop q).take k).length ≤ 2 := by rw [List.length_take]; omega
            have h4 := Nat.lt_of_lt_of_le HB2.out (Nat.pow_le_pow_right (by decide) h3)
            exact congrArg (Value.int IntKind.i64) (wrap_two _ _ h4 hx8)
          case measure => simp [intOf]; omega
        · have hkn' : ¬ (k : Int) < n := by omega
          obtain rfl : k = n := by omega
          go_wp2_with fail
          go_ret
          refine ⟨?_, Turned.setN _ _ _ _ _, Turned.grow (Turned.setN _ _ _ _ _) hg hlow, hlow, _, q + k, ?_, HV.out, by omega, ?_⟩
          · unfold nvQ numV; rw [if_neg (by simp), if_pos (by omega)]; rfl
          · rw [heap_setCell_same _ B 1 _ _ _ ((congrArg (·[B]?) (heapN w _)).trans HB.out)]; unfold numO; rw [if_pos (by omega)]; rfl
          · unfold nlQ numL; rw [if_neg (by simp), if_pos (by omega), List.drop_drop]
  · go_enter Tryd.func48, Tryd.ntmps48
    go_wp2_with fail
    go_quiet (fail)
    go_wp2_with fail
    go_ret
    refine ⟨rfl, Turned.setN _ _ _ _ _, Turned.grow (Turned.setN _ _ _ _ _) hg hlow, hlow, _, q, ?_, HV.out, hq, rfl⟩
    rw [heap_setCell_same _ B 2 _ _ _ ((congrArg (·[B]?) (heapN w _)).trans HB.out), numO_true]; rfl
theorem drop_take_sl {l : List UInt8} {a b : Nat} : (l.take b).drop a = (l.drop a).take (b - a) := by rw [List.drop_take]
theorem slicedQ {W : World} {a : Option Addr} {c : Nat} {l0 : List UInt8} (h : Bytes W (.slice a l0.length c) l0) {q n : Nat} (hn : q + n ≤ l0.length) : Bytes W (sliced a q (q + n) c 1) ((l0.drop q).take n) := by
  have h1 := h.sl_take hn
  have e : (l0.take (q + n)).length = q + n := by rw [List.length_take]; omega
  have h2 : Bytes W (.slice a (l0.take (q + n)).length c) (l0.take (q + n)) := by rw [e]; exact h1
  have h3 := h2.sl_drop (n := q) (by omega)
  rw [e, drop_take_sl, show q + n - q = n by omega] at h3
  exact h3
theorem slicedQ2 {W : World} {a : Option Addr} {c : Nat} {l0 : List UInt8} (h : Bytes W (.slice a l0.length c) l0) {q n : Nat} (hn : q + n ≤ l0.length) (hc : l0.length ≤ c) : Bytes W (.slice (if c = q then a else a.map (fun x => x.add q)) n (c - q)) ((l0.drop q).take n) := by
  have h1 := slicedQ h hn
  have e : sliced a q (q + n) c 1 = .slice (if c = q then a else a.map (fun x => x.add q)) n (c - q) := by
    unfold sliced
    rw [show q + n - q = n by omega]
    by_cases h2 : c = q
    · subst h2; simp
    · rw [if_neg (by omega), if_neg h2, Nat.mul_one]
  rw [← e]; exact h1
set_option maxRecDepth 100000 in
set_option maxHeartbeats 1000000 in
theorem textQ_any (W0 : World) (B : Nat) (l0 l : List UInt8) (bad : Bool) (w : World) (h : Rq W0 B l0 l bad w) (hl : l0.length ≤ 1000000) :
    Calls Tryd.prog 49 #[.pointer (some ⟨B, 0, none⟩)] w fun e w' => e = .returned (.string (tvQ l bad)) ∧ Turned B w w' ∧ Rq W0 B l0 (tlQ l bad) (txO l bad) w' := by
  have k1 := numQ_any W0 B l0 l bad 1 w h hl (by decide)
  go_enter Tryd.func49, Tryd.ntmps49
  go_wp2_with fail
  refine k1.mono ?_
  rintro e w1 ⟨rfl, ht, hr⟩
  have hlow := h.low
  clear h k1
  obtain ⟨hg, -, v, q, hbox, hv, hq, hl1⟩ := hr
  obtain ⟨a, c, rfl⟩ := hv.mk
  have hc := hv.len.2
  have HV := Lib.hid hv
  have HB := Lib.hid hbox
  have c0 : w1.cell? ⟨B, 0, none⟩ = some (.slice a l0.length c) := (cell_of_row w1 B 0 _ _ _ hbox).trans rfl
  have c1 : w1.cell? ⟨B, 1, none⟩ = some (.int .i64 q) := (cell_of_row w1 B 1 _ _ _ hbox).trans rfl
  have c2 : w1.cell? ⟨B, 2, none⟩ = some (.bool (numO l 1 bad)) := (cell_of_row w1 B 2 _ _ _ hbox).trans rfl
  have f1 : w1.frozen? ⟨B, 1, none⟩ = false := by simp [World.frozen?, hbox]
  have f2 : w1.frozen? ⟨B, 2, none⟩ = false := by simp [World.frozen?, hbox]
  have hBs : B < w1.heap.size := (Array.getElem?_eq_some_iff.1 hbox).1
  have hdl : (l0.drop q).length = l0.length - q := List.length_drop
  clear hv hbox
  have HE := Lib.hid hl1
  clear hl1
  by_cases hb : numO l 1 bad = true
  · rw [hb] at HB c2
    go_wp2_with fail
    go_quiet (fail)
    go_wp2_with fail
    go_ret
    have key : tvQ l bad = ⟨#[]⟩ ∧ tlQ l bad = nlQ l 1 bad ∧ txO l bad = true := by
      cases bad
      · cases l with
        | nil => exact ⟨rfl, rfl, rfl⟩
        | cons x l => unfold numO at hb; simp at hb
      · exact ⟨rfl, rfl, txO_true l⟩
    refine ⟨by rw [key.1]; rfl, ht.trans (Turned.setN _ _ _ _ _), Turned.grow (Turned.setN _ _ _ _ _) hg hlow, hlow, _, q, ?_, HV.out, hq, ?_⟩
    · rw [heap_setCell_same _ B 2 _ _ _ ((congrArg (·[B]?) (heapN w1 _)).trans HB.out), key.2.2]; rfl
    · rw [key.2.1]; exact HE.out
  · have hb' : numO l 1 bad = false := by simpa using hb
    rw [hb'] at HB c2
    obtain ⟨rfl, x, t, rfl⟩ : bad = false ∧ ∃ x t, l = x :: t := by
      cases bad
      · cases l with
        | nil => cases hb'
        | cons x t => exact ⟨rfl, x, t, rfl⟩
      · rw [numO_true] at hb'; cases hb'
    have e1 : nvQ (x :: t) 1 false = x.toNat := by unfold nvQ numV; rw [if_neg (by simp), if_pos (by simp)]; simp [numB]
    have e2 : nlQ (x :: t) 1 false = t := by unfold nlQ numL; rw [if_neg (by simp), if_pos (by simp)]; rfl
    rw [e2] at HE
    rw [e1]
    have ht1 : t.length = l0.length - q := by rw [HE.out]; exact hdl
    have hx8 := x.toNat_lt
    clear e1 e2 hb hb'
    by_cases hlt : l0.length - q < x.toNat
    · have hlt' : ((l0.length : Int) - q) < x.toNat := by omega
      go_wp2_with fail
      go_quiet (fail)
      go_wp2_with fail
      go_ret
      have hn : ¬ x.toNat ≤ t.length := by omega
      refine ⟨?_, ht.trans (Turned.setN _ _ _ _ _), Turned.grow (Turned.setN _ _ _ _ _) hg hlow, hlow, _, q, ?_, HV.out, hq, ?_⟩
      · unfold tvQ txV; simp only [if_neg hn]; rfl
      · rw [heap_setCell_same _ B 2 _ _ _ ((congrArg (·[B]?) (heapN w1 _)).trans HB.out)]; unfold txO; simp only [if_neg hn]; rfl
      · unfold tlQ txL; simp only [if_neg hn]; exact HE.out
    · have hlt' : ¬ ((l0.length : Int) - q) < x.toNat := by omega
      have h0 : (0 : Int) ≤ (q : Int) + x.toNat - x.toNat := by omega
      have h1 : (q : Int) + x.toNat - x.toNat ≤ (q : Int) + x.toNat := by omega
      have h2 : (q : Int) + x.toNat ≤ (c : Int) := by omega
      have hn : x.toNat ≤ t.length := by omega
      obtain ⟨Q, hQ⟩ : ∃ Q, Q = q + x.toNat := ⟨_, rfl⟩
      have hs := fun k m => conv_bytes (w := ((w1.drewN k).setCell ⟨B, 1, none⟩ (.int .i64 ((q : Int) + x.toNat))).drewN m) (Bytes.grow (slicedQ2 HV.out (q := q) (n := x.toNat) (by omega) hc) (((Turned.setN w1 B 1 (.int .i64 ((q : Int) + x.toNat)) k).grow hg hlow).drewN m))
      go_wp2_with fail
      go_quiet (fail)
      go_wp2_with fail
      go_quiet (fail)
      go_wp2_with fail
      all_goals (
        go_ret
        refine ⟨?_, (ht.trans (Turned.setN _ _ _ _ _)).trans (Turned.of_grow ((Grow.refl _).drewN _)), ((Turned.setN _ _ _ _ _).grow hg hlow).drewN _, hlow, _, Q, ?_, HV.out, by omega, ?_⟩
        · unfold tvQ txV; simp only [if_pos hn]; rw [← HE.out]; rfl
        · subst hQ; rw [heapN, heap_setCell_same _ B 1 _ _ _ ((congrArg (·[B]?) (heapN w1 _)).trans HB.out)]; unfold txO; simp only [if_pos hn]; rfl
        · subst hQ; unfold tlQ txL; simp only [if_pos hn]; rw [HE.out, ← List.drop_drop]; rfl)
end Go.Proofs.YtbdbmigkcpgmkaaDoor
set_option linter.unusedVariables false
set_option linter.unusedSimpArgs false
namespace Go.Proofs.YtbdbmigkcpgmkaaDoor
open Go.RowKit Go.Lib
def b119 : Value := .int .u8 119
theorem wpList_append_run {P : Program} {w w' : World} {ops : Array Oper} {rest : List Oper} {o : Oper} {a : Act} {Q : Exit → Act → World → Prop} (hgd : o.guard = none) (s x : Operand) (t : TypeId)
    (ho : o.op = .call { callee := .builtin .append, args := #[s, x], argTypes := #[t, t] }) (u1 u2 : Value) (hs : a.eval s = u1) (hx : a.eval x = u2) {v' : Value} (hr : (Builtin.append_ #[t, t] o.type #[u1, u2]).run P w = .ok v' w')
    (h : wpList P ops Q rest (a.put o.dst v') w') : wpList P ops Q (o :: rest) a w := by
  refine wpList_plain hgd fun K hK => ?_
  unfold Oper.wp execOp
  simp only [ho, resolve, invoke, builtin, Sem.run_bind, Sem.run_pure, Result.andThen_ok, List.map_toArray, List.map_cons, List.map_nil, hs, hx, hr]
  exact hK _ _ h
theorem turned_setRow (w : World) (g : Nat) (cs : Array Value) : Turned g w (w.setRow g cs) := ⟨rfl, rfl, rfl, by simp, fun i _ hb => setRow_other w g i cs hb⟩
theorem app_bytes {W : World} {g cap : Nat} {cur : Array Value} {v : Value} {l : List UInt8} (ty : TypeId) (hg : W.heap[g]? = some (.cells cur 5 (0, 0))) (hv : Bytes W v l) (hfit : l.length ≤ cap) (hc : cur.size = cap) :
    ∃ w', (Builtin.append_ #[38, 38] ty #[.slice (some ⟨g, 0, none⟩) 0 cap, v]).run Tryd.prog W = .ok (.slice (some ⟨g, 0, none⟩) l.length cap) w' ∧ w'.heap[g]? = some (.cells (l.map byteV ++ cur.toList.drop l.length).toArray 5 (0, 0)) ∧ Turned g W w' := by
  obtain ⟨i0, hi0, hz0, hz1, hz2⟩ := info_parts info_u8
  obtain ⟨a, c, rfl⟩ := hv.mk
  cases a with
  | none =>
    have h0 : l = [] := by
      cases l with
      | nil => rfl
      | cons x l =>
        obtain ⟨b, off, e, -⟩ := hv.at (i := 0) (x := x) rfl
        cases e
    subst h0
    refine ⟨W, ?_, ?_, Turned.refl _ _⟩
    · simp [Builtin.append_, run_underlying Tryd.underlying38, sizeOf, typeInfo, hi0, Builtin.lenOf, Builtin.firstCells, loadCells, loadCellsFrom, storeCells]
    · rw [hg]; simp
  | some ad =>
    have hnews : ∀ j u, (l.map byteV)[j]? = some u → W.cell? (ad.add j) = some u := fun j u hu => by
      rw [List.getElem?_map] at hu
      cases hx : l[j]? with
      | none => rw [hx] at hu; cases hu
      | some x =>
        rw [hx] at hu
        obtain ⟨b, off, e, hb, hcc⟩ := hv.at hx
        injection e with e
        subst e
        have : (⟨b, off, none⟩ : Addr).add j = ⟨b, off + j, none⟩ := by simp [Addr.add]
        rw [this, ← Option.some.inj hu]
        exact hcc
    have hr := run_append_room (P := Tryd.prog) W 38 ty 5 i0 Tryd.underlying38 hi0 g 0 cap cur hg ad l.length c (l.map byteV) (by rw [List.length_map, hz1, Nat.mul_one]) hnews (fun u hu => by
      obtain ⟨x, -, rfl⟩ := List.mem_map.1 hu; rfl) (by omega) (by rw [List.length_map, Nat.zero_mul]; omega)
    refine ⟨_, by rw [hr, Nat.zero_add], ?_, turned_setRow _ _ _⟩
    rw [setRow_heap W g cur _ _ _ hg]
    simp
def roomC (l : List UInt8) (k : Nat) : List Value := l.map byteV ++ (List.replicate k b119 ++ List.replicate (3 - k) (.int .u8 0))
theorem roomC_set (l : List UInt8) {k : Nat} (hk : k < 3) : (roomC l k).set (l.length + k) b119 = roomC l (k + 1) := by
  unfold roomC
  rw [List.set_append_right _ _ (by rw [List.length_map]; omega), List.length_map, show l.length + k - l.length = k by omega]
  congr 1
  match k, hk with
  | 0, _ => rfl
  | 1, _ => rfl
  | 2, _ => rfl
theorem roomC_start (l : List UInt8) : l.map byteV ++ (madeCells #[.int .u8 0] (l.length + 3)).toList.drop l.length = roomC l 0 := by
  unfold roomC madeCells
  congr 1
  apply List.ext_getElem?
  intro i
  rw [List.getElem?_drop]
  simp
  by_cases h : i < 3
  · rw [List.getElem?_eq_getElem (by simp; omega)]
    match i, h with
    | 0, _ => simp [Nat.mod_one]
    | 1, _ => simp [Nat.mod_one]
    | 2, _ => simp [Nat.mod_one]
  · rw [List.getElem?_eq_none (by simp; omega), List.getElem?_eq_none (by simp; omega)]; rfl
set_option maxRecDepth 100000 in
set_option maxHeartbeats 1000000 in
theorem lend_any (v : Value) (l : List UInt8) (w : World) (h : Bytes w v l) (hl : l.length ≤ 1000000) :
    Calls Tryd.prog 30 #[v] w fun e w' => ∃ g, e = .returned (.slice (some ⟨g, 0, none⟩) l.length (l.length + 3)) ∧ w.heap.size ≤ g ∧ w'.heap[g]? = some (.cells (roomC l 3).toArray 5 (0, 0)) ∧ Grow w w' := by
  obtain ⟨i0, hi0, hz0, hz1, hz2⟩ := info_parts info_u8
  obtain ⟨a, c, rfl⟩ := h.mk
  have hmk : ∀ W : World, (Instr.makeSlice 38 (.int .i64 0) (.int .i64 ((l.length : Int) + 3))).run Tryd.prog W = .ok (.slice (some ⟨W.heap.size, 0, none⟩) 0 (l.length + 3)) (W.alloc (.cells (madeCells #[.int .u8 0] (l.length + 3)) 5)) := fun W => by
    have := run_make (P := Tryd.prog) W 38 5 i0 (.int .u8 0) Tryd.underlying38 hi0 hz0 .i64 .i64 0 ((l.length : Int) + 3) (by omega) (by omega) (by rw [hz2]; omega) (by omega)
    rw [hz1, Nat.mul_one, show ((l.length : Int) + 3).toNat = l.length + 3 by omega] at this
    exact this
  obtain ⟨w1, hw1⟩ : ∃ w1, w1 = w.alloc (.cells (madeCells #[.int .u8 0] (l.length + 3)) 5) := ⟨_, rfl⟩
  have g1 : Grow w w1 := by rw [hw1]; exact (Grow.refl w).alloc _
  have hb1 : w1.heap[w.heap.size]? = some (.cells (madeCells #[.int .u8 0] (l.length + 3)) 5 (0, 0)) := by rw [hw1]; exact heap_alloc_new _ _
  obtain ⟨w2, hr2, hb2, t2⟩ := app_bytes 38 hb1 (h.grow g1) (by omega) (size_madeCells _ _)
  rw [roomC_start] at hb2
  rw [hw1] at hr2
  have HB := Lib.hid hb2
  have g2 : Grow w w2 := t2.grow g1 (Nat.le_refl _)
  clear h hb1 hb2
  go_enter Tryd.func30, Tryd.ntmps30
  go_wp2_with (at_builtin; refine wpList_append_run rfl _ _ _ rfl _ _ rfl rfl hr2 ?_)
  go_loopw [5] (fun v5 wx => ∃ k : Nat, v5 = .int .i64 k ∧ k ≤ 3 ∧ wx.heap[w.heap.size]? = some (.cells (roomC l k).toArray 5 (0, 0)) ∧ Grow w wx) (fun v5 _ => 3 - (intOf v5).toNat)
  case atStart => exact ⟨0, rfl, by omega, HB.out, g2⟩
  case round =>
    obtain ⟨k, rfl, hk, hb, hg⟩ := hrel
    have HK := Lib.hid hb
    have hgs := hg.size
    have hlt : w.heap.size < wr.heap.size := (Array.getElem?_eq_some_iff.1 hb).1
    by_cases hk3 : k < 3
    · have hk3' : (k : Int) < 3 := by omega
      obtain ⟨u, hu⟩ : ∃ u, (roomC l k)[l.length + k]? = some u := ⟨_, List.getElem?_eq_getElem (by unfold roomC; simp; omega)⟩
      have hc : wr.cell? ⟨w.heap.size, l.length + k, none⟩ = some u := (cell_of_row wr _ _ _ _ _ hb).trans (by simpa using hu)
      have hf : wr.frozen? ⟨w.heap.size, l.length + k, none⟩ = false := frozen_of_row wr _ _ _ _ hb
      clear hb hu
      go_wp2_with fail
      go_roundw
      case rel =>
        refine ⟨k + 1, by go_num, by omega, ?_, Turned.grow (Turned.set _ _ _ _) hg (Nat.le_refl _)⟩
        rw [heap_setCell_same wr _ _ _ _ _ HK.out, ← roomC_set l hk3]
        simp [b119]
      case measure => simp [intOf]; omega
    · have hk3' : ¬ (k : Int) < 3 := by omega
      obtain rfl : k = 3 := by omega
      go_wp2_with fail
      go_ret
      exact ⟨w.heap.size, rfl, Nat.le_refl _, HK.out, hg⟩
theorem room_at (l : List UInt8) {k : Nat} (hk : k < 3) : (roomC l 3)[l.length + k]? = some b119 := by
  unfold roomC
  rw [List.getElem?_append_right (by rw [List.length_map]; omega), List.length_map, show l.length + k - l.length = k by omega]
  match k, hk with
  | 0, _ => rfl
  | 1, _ => rfl
  | 2, _ => rfl
theorem roomC_row {base g : Nat} {l : List UInt8} {w : World} (hl : l.length ≤ 1000000) (hb : w.heap[g]? = some (.cells (roomC l 3).toArray 5 (0, 0))) (hg : base ≤ g) : w.ownsRow base 5 1 (.slice (some ⟨g, 0, none⟩) l.length (l.length + 3)) l.length (l.map byteV) :=
  ⟨by simp, .inr ⟨g, l.length + 3, _, rfl, hg, hb, by omega, by unfold maxLen; omega, by simp [roomC], by
    unfold roomC; simp⟩⟩
set_option maxRecDepth 100000 in
set_option maxHeartbeats 1000000 in
theorem keptBytes_any (v : Value) (l : List UInt8) (g : Nat) (w : World) (h : Bytes w v l) (hl : l.length ≤ 1000000) (hb : w.heap[g]? = some (.cells (roomC l 3).toArray 5 (0, 0))) :
    Calls Tryd.prog 33 #[.slice (some ⟨g, 0, none⟩) l.length (l.length + 3), v] w fun e w' => e = .returned (.bool true) ∧ Grow w w' := by
  have k1 := sameBytes_any _ v l l w (row_bytes (roomC_row hl hb (Nat.le_refl _))) h (by omega)
  rw [same_yes rfl] at k1
  have HB := Lib.hid hb
  have hlt : g < w.heap.size := (Array.getElem?_eq_some_iff.1 hb).1
  clear h hb
  go_enter Tryd.func33, Tryd.ntmps33
  go_wp2_with fail
  go_loop [6] (fun v6 => ∃ k : Nat, v6 = .int .i64 k ∧ k ≤ 3) (fun v6 => 3 - (intOf v6).toNat)
  case atStart => exact ⟨0, rfl, by omega⟩
  case round =>
    obtain ⟨k, rfl, hk⟩ := hrel
    by_cases hk3 : k < 3
    · have hk3' : (k : Int) < 3 := by omega
      have hc : w.cell? ⟨g, l.length + k, none⟩ = some (.int .u8 119) := (cell_of_row w _ _ _ _ _ HB.out).trans (by simpa [b119] using room_at l hk3)
      go_wp2_with fail
      go_round
      case rel => exact ⟨k + 1, by go_num, by omega⟩
      case measure => simp [intOf]; omega
    · have hk3' : ¬ (k : Int) < 3 := by omega
      go_wp2_with fail
      refine k1.mono ?_
      rintro e w1 ⟨rfl, g1⟩
      go_wp2_with fail
      go_ret
      exact ⟨rfl, g1⟩
end Go.Proofs.YtbdbmigkcpgmkaaDoor
set_option linter.unusedVariables false
set_option linter.unusedSimpArgs false
namespace Go.Proofs.YtbdbmigkcpgmkaaDoor
open Go.RowKit Go.Lib
theorem reader_ne : 36 ≠ 81 := by decide
theorem RowO.lower {base base' : Nat} {e : TypeId} {k : Nat} {v : Value} {n : Nat} {xs : List Value} {w : World} (h : RowO base e k v n xs w) (hb : base' ≤ base) : RowO base' e k v n xs w := by
  rcases h with ⟨h1, h | ⟨b, cap, cur, h2, h3, h4⟩⟩ | h
  · exact .inl ⟨h1, .inl h⟩
  · exact .inl ⟨h1, .inr ⟨b, cap, cur, h2, by omega, h4⟩⟩
  · exact .inr h
variable {P : Program}
theorem Rq.grown {W0 : World} {B : Nat} {l0 l : List UInt8} {bad : Bool} {w w' : World} (h : Rq W0 B l0 l bad w) (g : Grow w w') : Rq W0 B l0 l bad w' := by
  obtain ⟨h1, h2, v, q, h3, h4⟩ := h
  exact ⟨h1.trans g, h2, v, q, (Below.block g B (Array.getElem?_eq_some_iff.1 h3).1).trans h3, h4⟩
theorem Rq.cell {W0 : World} {B : Nat} {l0 l : List UInt8} {bad : Bool} {w : World} (h : Rq W0 B l0 l bad w) : w.cell? ⟨B, 2, none⟩ = some (.bool bad) := by
  obtain ⟨h1, h2, v, q, h3, h4⟩ := h
  exact (cell_of_row w B 2 _ _ _ h3).trans rfl
theorem Rq.keep {W0 : World} {B : Nat} {l0 l : List UInt8} {bad : Bool} {w w' : World} (h : Rq W0 B l0 l bad w) {e : TypeId} (he : 81 ≠ e) (k : Kept e w w') (g : Grow W0 w') : Rq W0 B l0 l bad w' := by
  obtain ⟨h1, h2, v, q, h3, h4⟩ := h
  exact ⟨g, h2, v, q, k _ _ _ _ he h3, h4⟩
theorem Rq.blk {W0 : World} {B : Nat} {l0 l : List UInt8} {bad : Bool} {w : World} (h : Rq W0 B l0 l bad w) : ∃ cs : Array Value, w.heap[B]? = some (.cells cs 81 (0, 0)) := by
  obtain ⟨h1, h2, v, q, h3, h4⟩ := h
  exact ⟨_, h3⟩
theorem nvQ_lt (l : List UInt8) (n : Nat) (bad : Bool) : nvQ l n bad < 256 ^ n := by
  unfold nvQ; split
  · exact Nat.pow_pos (by decide)
  · exact numV_lt l n
theorem tvQ_le (l : List UInt8) (bad : Bool) : (tvQ l bad).size ≤ 255 := by
  unfold tvQ; split
  · exact Nat.zero_le _
  · exact txV_le l
structure RQ (w0 : World) (l0 : List UInt8) (D r S : Nat) (nb nn ns : Int) (l : List UInt8) (bad : Bool) (bv nv : Value) (X : List Book) (Y : List NV) (w : World) : Prop where
  rd : Rq w0 r l0 l bad w
  own : OwnS w0.heap.size bv nv X Y w
  res : w.heap[D]? = some (shO 0 0 0 (.slice none 0 0) (.slice none 0 0))
  box : w.heap[S]? = some (shO nb nn ns bv nv)
  low : w0.heap.size ≤ D ∧ w0.heap.size ≤ S ∧ D ≠ S
  len : l0.length ≤ 1000000
section
variable {w0 w w' : World} {l0 : List UInt8} {D r S : Nat} {nb nn ns : Int} {l : List UInt8} {bad : Bool} {bv nv : Value} {X : List Book} {Y : List NV}
theorem RQ.grow (h : RQ w0 l0 D r S nb nn ns l bad bv nv X Y w) (g : Grow w w') : RQ w0 l0 D r S nb nn ns l bad bv nv X Y w' :=
  ⟨h.rd.grown g, h.own.grow g, g.blk h.res, g.blk h.box, h.low, h.len⟩
theorem RQ.five (h : RQ w0 l0 D r S nb nn ns l bad bv nv X Y w) : w.cell? ⟨S, 0, none⟩ = some (.int .i64 nb) ∧ w.cell? ⟨S, 1, none⟩ = some (.int .i64 nn) ∧ w.cell? ⟨S, 2, none⟩ = some (.int .i64 ns) ∧ w.cell? ⟨S, 3, none⟩ = some bv ∧ w.cell? ⟨S, 4, none⟩ = some nv :=
  ⟨(cell_of_row w S 0 _ _ _ h.box).trans rfl, (cell_of_row w S 1 _ _ _ h.box).trans rfl, (cell_of_row w S 2 _ _ _ h.box).trans rfl, (cell_of_row w S 3 _ _ _ h.box).trans rfl, (cell_of_row w S 4 _ _ _ h.box).trans rfl⟩
theorem RQ.res5 (h : RQ w0 l0 D r S nb nn ns l bad bv nv X Y w) : (w.cell? ⟨D, 0, none⟩ = some (.int .i64 0) ∧ w.cell? ⟨D, 1, none⟩ = some (.int .i64 0) ∧ w.cell? ⟨D, 2, none⟩ = some (.int .i64 0) ∧ w.cell? ⟨D, 3, none⟩ = some (.slice none 0 0) ∧ w.cell? ⟨D, 4, none⟩ = some (.slice none 0 0)) ∧ w.frozen? ⟨D, 0, none⟩ = false ∧ w.frozen? ⟨D, 1, none⟩ = false ∧ w.frozen? ⟨D, 2, none⟩ = false ∧ w.frozen? ⟨D, 3, none⟩ = false ∧ w.frozen? ⟨D, 4, none⟩ = false :=
  ⟨⟨(cell_of_row w D 0 _ _ _ h.res).trans rfl, (cell_of_row w D 1 _ _ _ h.res).trans rfl, (cell_of_row w D 2 _ _ _ h.res).trans rfl, (cell_of_row w D 3 _ _ _ h.res).trans rfl, (cell_of_row w D 4 _ _ _ h.res).trans rfl⟩, frozen_of_row w D 0 _ _ h.res, frozen_of_row w D 1 _ _ h.res, frozen_of_row w D 2 _ _ h.res, frozen_of_row w D 3 _ _ h.res, frozen_of_row w D 4 _ _ h.res⟩
theorem RQ.free (h : RQ w0 l0 D r S nb nn ns l bad bv nv X Y w) (j : Nat) : w.frozen? ⟨S, j, none⟩ = false := frozen_of_row w S j _ _ h.box
theorem RQ.lt (h : RQ w0 l0 D r S nb nn ns l bad bv nv X Y w) : S < w.heap.size := (Array.getElem?_eq_some_iff.1 h.box).1
/-- The reader was turned. -/
theorem RQ.turn (h : RQ w0 l0 D r S nb nn ns l bad bv nv X Y w) {l' : List UInt8} {bad' : Bool} (t : Turned r w w') (h' : Rq w0 r l0 l' bad' w') : RQ w0 l0 D r S nb nn ns l' bad' bv nv X Y w' := by
  obtain ⟨cs, hb⟩ := h.rd.blk
  exact ⟨h', h.own.kept (.of_turned t hb (by decide)), (t.block D (Array.getElem?_eq_some_iff.1 h.res).1 (no_cells h.res hb reader_ne)).trans h.res, (t.block S h.lt (no_cells h.box hb reader_ne)).trans h.box, h.low, h.len⟩
theorem RQ.num (h : RQ w0 l0 D r S nb nn ns l bad bv nv X Y w) (n : Nat) (hn : n ≤ 3) :
    Calls Tryd.prog 48 #[.pointer (some ⟨r, 0, none⟩), .int .i64 n] w fun e w' => e = .returned (.int .i64 (nvQ l n bad : Nat)) ∧ RQ w0 l0 D r S nb nn ns (nlQ l n bad) (numO l n bad) bv nv X Y w' :=
  (numQ_any w0 r l0 l bad n w h.rd h.len hn).mono fun e w' ⟨h1, h2, h3⟩ => ⟨h1, h.turn h2 h3⟩
theorem RQ.text (h : RQ w0 l0 D r S nb nn ns l bad bv nv X Y w) :
    Calls Tryd.prog 49 #[.pointer (some ⟨r, 0, none⟩)] w fun e w' => e = .returned (.string (tvQ l bad)) ∧ RQ w0 l0 D r S nb nn ns (tlQ l bad) (txO l bad) bv nv X Y w' :=
  (textQ_any w0 r l0 l bad w h.rd h.len).mono fun e w' ⟨h1, h2, h3⟩ => ⟨h1, h.turn h2 h3⟩
/-- What is not of type e is as it was. -/
theorem RQ.keep (h : RQ w0 l0 D r S nb nn ns l bad bv nv X Y w) {e : TypeId} (he : 36 ≠ e ∧ 81 ≠ e) (k : Kept e w w') (g : Grow w0 w') : Rq w0 r l0 l bad w' ∧ w'.heap[D]? = some (shO 0 0 0 (.slice none 0 0) (.slice none 0 0)) ∧ w'.heap[S]? = some (shO nb nn ns bv nv) :=
  ⟨h.rd.keep he.2 k g, k _ _ _ _ he.1 h.res, k _ _ _ _ he.1 h.box⟩
/-- The box is stored. -/
theorem RQ.put {nb' nn' ns' : Int} {bv' nv' : Value} {X' : List Book} {Y' : List NV} (hrd : Rq w0 r l0 l bad w) (ho : OwnS w0.heap.size bv' nv' X' Y' w) (hres : w.heap[D]? = some (shO 0 0 0 (.slice none 0 0) (.slice none 0 0))) (hbox : w.heap[S]? = some (shO nb nn ns bv nv)) (low : w0.heap.size ≤ D ∧ w0.heap.size ≤ S ∧ D ≠ S) (len : l0.length ≤ 1000000)
    {o : Nat} {u : Value} (he : (#[.int .i64 nb, .int .i64 nn, .int .i64 ns, bv, nv] : Array Value).setIfInBounds o u = #[.int .i64 nb', .int .i64 nn', .int .i64 ns', bv', nv']) : RQ w0 l0 D r S nb' nn' ns' l bad bv' nv' X' Y' (w.setCell ⟨S, o, none⟩ u) := by
  have ht := Turned.set w S o u
  obtain ⟨cs, hb⟩ := hrd.blk
  obtain ⟨h0, h1, v, q, hb', hv⟩ := hrd
  have hne := no_cells hbox hb reader_ne
  refine ⟨⟨ht.grow h0 low.2.1, h1, v, q, (ht.block r (Array.getElem?_eq_some_iff.1 hb).1 (Ne.symm hne)).trans hb', hv⟩, ho.kept (.of_turned ht hbox (by decide)), (ht.block D (Array.getElem?_eq_some_iff.1 hres).1 low.2.2).trans hres, ?_, low, len⟩
  rw [heap_setCell_same w S o _ _ _ hbox, he]
/-- A book was appended; now the box is stored. -/
theorem RQ.book (h : RQ w0 l0 D r S nb nn ns l bad bv nv X Y w) {x : Book} {v' : Value} (ra : AppR w0.heap.size 57 2 w bv X.length (X.flatMap bookC) (bookC x) v' w') :
    w'.cell? ⟨S, 3, none⟩ = some bv ∧ w'.frozen? ⟨S, 3, none⟩ = false ∧ RQ w0 l0 D r S nb nn ns l bad v' nv (X ++ [x]) Y (w'.setCell ⟨S, 3, none⟩ v') := by
  have hk := h.own.books.keeps ra.2.1
  obtain ⟨h1, h2, h3⟩ := h.keep (by decide) hk (grow_app h.rd.grow h.own.books ra)
  exact ⟨(cell_of_row w' S 3 _ _ _ h3).trans rfl, frozen_of_row w' S 3 _ _ h3, RQ.put h1 (h.own.addBook ra) h2 h3 h.low h.len rfl⟩
end
/-- A note under way, in a box N of its own, since world w1. -/
structure Pend (w0 w1 : World) (l0 : List UInt8) (r N : Nat) (l : List UInt8) (bad : Bool) (y : NV) (w : World) : Prop where
  rd : Rq w0 r l0 l bad w
  tr : Turned r w1 w
  own : OwnS w1.heap.size (.slice none 0 0) (.slice (some ⟨N, 0, none⟩) 1 1) [] [y] w
  len : l0.length ≤ 1000000
  low : r < w1.heap.size
section
variable {w0 w1 w w' : World} {l0 : List UInt8} {r N : Nat} {l : List UInt8} {bad : Bool} {y : NV}
theorem Pend.turn (h : Pend w0 w1 l0 r N l bad y w) {l' : List UInt8} {bad' : Bool} (t : Turned r w w') (h' : Rq w0 r l0 l' bad' w') : Pend w0 w1 l0 r N l' bad' y w' := by
  obtain ⟨cs, hb⟩ := h.rd.blk
  exact ⟨h', h.tr.trans t, h.own.kept (.of_turned t hb (by decide)), h.len, h.low⟩
theorem Pend.num (h : Pend w0 w1 l0 r N l bad y w) (n : Nat) (hn : n ≤ 3) :
    Calls Tryd.prog 48 #[.pointer (some ⟨r, 0, none⟩), .int .i64 n] w fun e w' => e = .returned (.int .i64 (nvQ l n bad : Nat)) ∧ Pend w0 w1 l0 r N (nlQ l n bad) (numO l n bad) y w' :=
  (numQ_any w0 r l0 l bad n w h.rd h.len hn).mono fun e w' ⟨h1, h2, h3⟩ => ⟨h1, h.turn h2 h3⟩
theorem Pend.text (h : Pend w0 w1 l0 r N l bad y w) :
    Calls Tryd.prog 49 #[.pointer (some ⟨r, 0, none⟩)] w fun e w' => e = .returned (.string (tvQ l bad)) ∧ Pend w0 w1 l0 r N (tlQ l bad) (txO l bad) y w' :=
  (textQ_any w0 r l0 l bad w h.rd h.len).mono fun e w' ⟨h1, h2, h3⟩ => ⟨h1, h.turn h2 h3⟩
theorem Pend.cells (h : Pend w0 w1 l0 r N l bad y w) (j : Nat) (u : Value) (hu : (noteC y)[j]? = some u) : w.cell? ⟨N, j, none⟩ = some u ∧ w.frozen? ⟨N, j, none⟩ = false ∧ N < w.heap.size := by
  obtain ⟨b', c', e, hb, -, -, hc⟩ := h.own.note (i := 0) (y := y) rfl
  injection e with e
  injection e with e
  injection e with e
  subst e
  have := hc j u hu
  rw [Nat.zero_mul, Nat.zero_add] at this
  exact ⟨this.1, this.2, hb⟩
theorem Pend.kept (h : Pend w0 w1 l0 r N l bad y w) {e : TypeId} (he : 81 ≠ e) (k : Kept e w w') (t : Turned r w1 w') (g : Grow w0 w') (ho : OwnS w1.heap.size (.slice none 0 0) (.slice (some ⟨N, 0, none⟩) 1 1) [] [y] w') : Pend w0 w1 l0 r N l bad y w' :=
  ⟨h.rd.keep he k g, t, ho, h.len, h.low⟩
theorem Pend.lowN (h : Pend w0 w1 l0 r N l bad y w) : w1.heap.size ≤ N ∧ ∃ cs : Array Value, w.heap[N]? = some (.cells cs 60 (0, 0)) := by
  obtain ⟨b', c', e, hb, -, hbk, hc⟩ := h.own.note (i := 0) (y := y) rfl
  injection e with e
  injection e with e
  injection e with e
  subst e
  exact h.own.notes.blk hbk
theorem Turned.two {b c : Nat} {u v w : World} (h : Turned b u v) (g : Turned c v w) (hc : u.heap.size ≤ c) : Turned b u w :=
  ⟨g.os.trans h.os, g.tape.trans h.tape, g.output.trans h.output, Nat.le_trans h.size g.size, fun i hi hb => (g.block i (Nat.lt_of_lt_of_le hi h.size) (by omega)).trans (h.block i hi hb)⟩
theorem Turned.by' {b : Nat} {u v w : World} {o : Option Nat} (h : Turned b u v) (g : v.grownBy w o) (hc : ∀ c, o = some c → u.heap.size ≤ c) : Turned b u w :=
  ⟨g.os.trans h.os, g.tape.trans h.tape, g.output.trans h.output, Nat.le_trans h.size g.size, fun i hi hb => (g.block i (Nat.lt_of_lt_of_le hi h.size) (fun e => by have := hc i e.symm; omega)).trans (h.block i hi hb)⟩
theorem Rq.lowr (h : Rq w0 r l0 l bad w) : Grow w0 w ∧ w0.heap.size ≤ r := ⟨h.grow, h.low⟩
/-- The note's book is stored. -/
theorem Pend.setBook (h : Pend w0 w1 l0 r N l bad y w) (hw : w0.heap.size ≤ w1.heap.size) (q : Int) : Pend w0 w1 l0 r N l bad { y with n := { y.n with book := q } } (w.setCell ⟨N, 1, none⟩ (.int .i64 q)) := by
  obtain ⟨hN, cs, hcs⟩ := h.lowN
  have ho := h.own.setBookOf (i := 0) (y := y) rfl q (b := N) (c := 1) rfl
  rw [Nat.zero_mul, Nat.zero_add] at ho
  have hk := kept_of_turned hcs ho.2
  exact ⟨h.rd.keep (by decide) hk (ho.2.grow h.rd.grow (by omega)), h.tr.two ho.2 hN, ho.1, h.len, h.low⟩
theorem Pend.setName (h : Pend w0 w1 l0 r N l bad y w) (hw : w0.heap.size ≤ w1.heap.size) (q : ByteArray) : Pend w0 w1 l0 r N l bad { y with n := { y.n with name := q } } (w.setCell ⟨N, 2, none⟩ (.string q)) := by
  obtain ⟨hN, cs, hcs⟩ := h.lowN
  have ho := h.own.setName (i := 0) (y := y) rfl q (b := N) (c := 1) rfl
  rw [Nat.zero_mul, Nat.zero_add] at ho
  have hk := kept_of_turned hcs ho.2
  exact ⟨h.rd.keep (by decide) hk (ho.2.grow h.rd.grow (by omega)), h.tr.two ho.2 hN, ho.1, h.len, h.low⟩
/-- A tag was appended; now the box is stored. -/
theorem Pend.tag (h : Pend w0 w1 l0 r N l bad y w) (hw : w0.heap.size ≤ w1.heap.size) {x : ByteArray} {v' : Value} (ra : AppR w1.heap.size 9 1 w y.tv y.n.tags.length (strC y.n.tags) [.string x] v' w') :
    w'.cell? ⟨N, 3, none⟩ = some y.tv ∧ w'.frozen? ⟨N, 3, none⟩ = false ∧ Pend w0 w1 l0 r N l bad ⟨{ y.n with tags := y.n.tags ++ [x] }, v', y.sv⟩ (w'.setCell ⟨N, 3, none⟩ v') := by
  have hr : RowO w1.heap.size 9 1 v' (y.n.tags ++ [x]).length (strC (y.n.tags ++ [x])) w' := by
    have := ra.1
    unfold strC at this ⊢
    rw [List.length_append, List.map_append]; exact this
  obtain ⟨g, hg1, hg2⟩ := ra.2.2.1
  obtain ⟨h1, h2, h3, h4, h5⟩ := h.own.retag (i := 0) (y := y) rfl hr ra.2.1 (fun q hq => by rw [hg1] at hq; obtain rfl := Option.some.inj hq; exact hg2) (b := N) (c := 1) rfl
  rw [Nat.zero_mul, Nat.zero_add] at h1 h2 h3 h4
  obtain ⟨hN, cs, hcs⟩ := h.lowN
  have hcs' := h5 _ _ _ _ (by decide) hcs
  have hk2 := kept_of_turned hcs' h4
  have t1 : Turned r w1 w' := h.tr.by' ra.2.1 (fun q hq => ((h.own.tags y (by simp)).blk hq).1)
  have hg : Grow w0 w' := Below.grown h.rd.grow ra.2.1 h.rd.grow.size (fun q hq => Nat.le_trans hw ((h.own.tags y (by simp)).blk hq).1)
  exact ⟨h1, h2, (h.rd.keep (by decide) h5 hg).keep (by decide) hk2 (h4.grow hg (by omega)), t1.two h4 hN, h3, h.len, h.low⟩
/-- A sheet was appended; now the box is stored. -/
theorem Pend.sheet (h : Pend w0 w1 l0 r N l bad y w) (hw : w0.heap.size ≤ w1.heap.size) {x : Int} {v' : Value} (ra : AppR w1.heap.size 3 1 w y.sv y.n.sheets.length (intC y.n.sheets) [.int .i64 x] v' w') :
    w'.cell? ⟨N, 4, none⟩ = some y.sv ∧ w'.frozen? ⟨N, 4, none⟩ = false ∧ Pend w0 w1 l0 r N l bad ⟨{ y.n with sheets := y.n.sheets ++ [x] }, y.tv, v'⟩ (w'.setCell ⟨N, 4, none⟩ v') := by
  have hr : RowO w1.heap.size 3 1 v' (y.n.sheets ++ [x]).length (intC (y.n.sheets ++ [x])) w' := by
    have := ra.1
    unfold intC at this ⊢
    rw [List.length_append, List.map_append]; exact this
  obtain ⟨g, hg1, hg2⟩ := ra.2.2.1
  obtain ⟨h1, h2, h3, h4, h5⟩ := h.own.resheet (i := 0) (y := y) rfl hr ra.2.1 (fun q hq => by rw [hg1] at hq; obtain rfl := Option.some.inj hq; exact hg2) (b := N) (c := 1) rfl
  rw [Nat.zero_mul, Nat.zero_add] at h1 h2 h3 h4
  obtain ⟨hN, cs, hcs⟩ := h.lowN
  have hcs' := h5 _ _ _ _ (by decide) hcs
  have hk2 := kept_of_turned hcs' h4
  have t1 : Turned r w1 w' := h.tr.by' ra.2.1 (fun q hq => ((h.own.sheets y (by simp)).blk hq).1)
  have hg : Grow w0 w' := Below.grown h.rd.grow ra.2.1 h.rd.grow.size (fun q hq => Nat.le_trans hw ((h.own.sheets y (by simp)).blk hq).1)
  exact ⟨h1, h2, (h.rd.keep (by decide) h5 hg).keep (by decide) hk2 (h4.grow hg (by omega)), t1.two h4 hN, h3, h.len, h.low⟩
end
section
variable {w0 w1 w w' : World} {l0 : List UInt8} {D r S N : Nat} {nb nn ns : Int} {l l' : List UInt8} {bad bad' : Bool} {bv nv : Value} {X : List Book} {Y : List NV} {y : NV}
theorem RQ.pend (h : RQ w0 l0 D r S nb nn ns l bad bv nv X Y w1) (i : Int) : Pend w0 w1 l0 r w1.heap.size l bad ⟨⟨i, 0, ⟨#[]⟩, [], []⟩, .slice none 0 0, .slice none 0 0⟩ (w1.alloc (.cells #[.int .i64 i, .int .i64 0, .string ⟨#[]⟩, .slice none 0 0, .slice none 0 0] 60)) := by
  have g : Grow w1 (w1.alloc (.cells #[.int .i64 i, .int .i64 0, .string ⟨#[]⟩, .slice none 0 0, .slice none 0 0] 60)) := (Grow.refl w1).alloc _
  obtain ⟨cs, hb⟩ := h.rd.blk
  refine ⟨h.rd.grown g, .of_grow g, ⟨.nil, .inl ⟨rfl, .inr ⟨w1.heap.size, 1, _, rfl, Nat.le_refl _, heap_alloc_new _ _, Nat.le_refl _, by unfold maxLen; omega, rfl, rfl⟩⟩, ?_, ?_, ?_, ?_⟩, h.len, (Array.getElem?_eq_some_iff.1 hb).1⟩
  · intro z hz; rw [List.mem_singleton.1 hz]; exact .nil
  · intro z hz; rw [List.mem_singleton.1 hz]; exact .nil
  · exact List.pairwise_singleton _ _
  · exact List.pairwise_singleton _ _
/-- The note is done. -/
theorem RQ.back (h : RQ w0 l0 D r S nb nn ns l' bad' bv nv X Y w1) (p : Pend w0 w1 l0 r N l bad y w) : RQ w0 l0 D r S nb nn ns l bad bv nv X Y w := h.turn p.tr p.rd
theorem RQ.note (h : RQ w0 l0 D r S nb nn ns l' bad' bv nv X Y w1) (p : Pend w0 w1 l0 r N l bad y w) (hw : w0.heap.size ≤ w1.heap.size) (g : Grow w w') {w2 : World} {nv' : Value} (ra : AppR w0.heap.size 60 5 w' nv Y.length (Y.flatMap noteC) (noteC y) nv' w2) :
    w2.cell? ⟨S, 4, none⟩ = some nv ∧ w2.frozen? ⟨S, 4, none⟩ = false ∧ RQ w0 l0 D r S nb nn ns l bad bv nv' X (Y ++ [y]) (w2.setCell ⟨S, 4, none⟩ nv') := by
  have hb := (h.back p).grow g
  have hk := hb.own.notes.keeps ra.2.1
  obtain ⟨h1, h2, h3⟩ := hb.keep (by decide) hk (grow_app hb.rd.grow hb.own.notes ra)
  refine ⟨(cell_of_row w2 S 4 _ _ _ h3).trans rfl, frozen_of_row w2 S 4 _ _ h3, RQ.put h1 ?_ h2 h3 h.low h.len rfl⟩
  have hpt := ((p.own.tags y (by simp)).grow g)
  have hps := ((p.own.sheets y (by simp)).grow g)
  refine hb.own.notes' hk (by rw [List.length_append, List.flatMap_append]; simpa using ra.1) (fun z hz => ?_) (fun z hz => ?_) ?_ ?_
  · rcases List.mem_append.1 hz with hz | hz
    · exact hb.own.tags z hz
    · rw [List.mem_singleton.1 hz]; exact hpt.lower hw
  · rcases List.mem_append.1 hz with hz | hz
    · exact hb.own.sheets z hz
    · rw [List.mem_singleton.1 hz]; exact hps.lower hw
  · refine List.pairwise_append.2 ⟨hb.own.tsep, List.pairwise_singleton _ _, fun x hx z hz b hb1 hb2 => ?_⟩
    rw [List.mem_singleton.1 hz] at hb2
    have q1 := (h.own.tags x hx).blk_lt hb1
    have q2 := (hpt.blk hb2).1
    omega
  · refine List.pairwise_append.2 ⟨hb.own.ssep, List.pairwise_singleton _ _, fun x hx z hz b hb1 hb2 => ?_⟩
    rw [List.mem_singleton.1 hz] at hb2
    have q1 := (h.own.sheets x hx).blk_lt hb1
    have q2 := (hps.blk hb2).1
    omega
end
end Go.Proofs.YtbdbmigkcpgmkaaDoor
set_option linter.unusedVariables false
set_option linter.unusedSimpArgs false
namespace Go.Proofs.YtbdbmigkcpgmkaaDoor
open Go.RowKit Go.Lib
section
variable {α : Type}
theorem head_Q (l : List UInt8) {L1 L2 L3 : List UInt8} {b1 b2 b3 : Bool} (hL1 : L1 = nlQ l 3 false) (hb1 : b1 = numO l 3 false) (hL2 : L2 = nlQ L1 3 b1) (hb2 : b2 = numO L1 3 b1) (hL3 : L3 = nlQ L2 3 b2) (hb3 : b3 = numO L2 3 b2) :
    readQ l = if numO L3 1 b3 then none else booksR (nvQ L3 1 b3) (nlQ L3 1 b3) [] (midQ (nvQ l 3 false : Nat) (nvQ L1 3 b1 : Nat) (nvQ L2 3 b2 : Nat)) := by
  unfold readQ h3O
  have e1 : L1 = numL l 3 := hL1
  rw [← e1, ← hb1]
  cases b1 with
  | true =>
    rw [numO_true] at hb2
    subst hb2
    rw [numO_true] at hb3
    subst hb3
    rw [numO_true, numO_true, numO_true, numO_true]; rfl
  | false =>
    have e2 : L2 = numL L1 3 := hL2
    rw [← e2, ← hb2]
    cases b2 with
    | true =>
      rw [numO_true] at hb3
      subst hb3
      rw [numO_true, numO_true, numO_true]; rfl
    | false =>
      have e3 : L3 = numL L2 3 := hL3
      have e4 : h3L l = L3 := by unfold h3L; rw [← e1, ← e2, ← e3]
      rw [← hb3, e4]
      cases b3 with
      | true => rw [numO_true]; rfl
      | false => unfold h1L h2L; rw [← e1, ← e2]; rfl
theorem books_Q (k : Nat) (l : List UInt8) (X : List Book) (C : List UInt8 → List Book → Option α) {L1 : List UInt8} {b1 : Bool} (hL1 : L1 = nlQ l 3 false) (hb1 : b1 = numO l 3 false) :
    booksR (k + 1) l X C = if txO L1 b1 then none else booksR k (tlQ L1 b1) (X ++ [⟨(nvQ l 3 false : Nat), tvQ L1 b1⟩]) C := by
  have e1 : L1 = numL l 3 := hL1
  rw [booksR, ← e1, ← hb1]
  cases b1 with
  | true => rw [txO_true]; rfl
  | false => rfl
theorem mid_Q {q : Option (Shelf × List UInt8)} {nb nn ns : Int} {l : List UInt8} {bad : Bool} {X : List Book} (h : q = if bad then none else midQ nb nn ns l X) : q = if numO l 1 bad then none else notesR (nvQ l 1 bad) (nlQ l 1 bad) [] (endQ nb nn ns X) := by
  rw [h]
  cases bad with
  | true => rw [numO_true]; rfl
  | false => rfl
theorem hd_Q (l : List UInt8) {L1 L2 L3 : List UInt8} {b1 b2 b3 : Bool} (hL1 : L1 = nlQ l 3 false) (hb1 : b1 = numO l 3 false) (hL2 : L2 = nlQ L1 3 b1) (hb2 : b2 = numO L1 3 b1) (hL3 : L3 = tlQ L2 b2) (hb3 : b3 = txO L2 b2) :
    b3 = hdO l false ∧ (b3 = false → L3 = hdL l ∧ hdN l = ⟨(nvQ l 3 false : Nat), (nvQ L1 3 b1 : Nat), tvQ L2 b2, [], []⟩) := by
  unfold hdO hdL hdN
  have e1 : L1 = numL l 3 := hL1
  rw [← e1, ← hb1]
  cases b1 with
  | true =>
    rw [numO_true] at hb2
    subst hb2
    rw [txO_true] at hb3
    subst hb3
    rw [numO_true, txO_true]
    exact ⟨rfl, fun h => by cases h⟩
  | false =>
    have e2 : L2 = numL L1 3 := hL2
    rw [← e2, ← hb2]
    cases b2 with
    | true =>
      rw [txO_true] at hb3
      subst hb3
      rw [txO_true]
      exact ⟨rfl, fun h => by cases h⟩
    | false =>
      have e3 : L3 = txL L2 := hL3
      rw [← e3]
      exact ⟨hb3, fun _ => ⟨rfl, rfl⟩⟩
theorem note_Q (k : Nat) (l : List UInt8) (Y : List Note) (C : List UInt8 → List Note → Option α) {L1 L2 L3 : List UInt8} {b1 b2 b3 : Bool} (hL1 : L1 = nlQ l 3 false) (hb1 : b1 = numO l 3 false) (hL2 : L2 = nlQ L1 3 b1) (hb2 : b2 = numO L1 3 b1) (hL3 : L3 = tlQ L2 b2) (hb3 : b3 = txO L2 b2) :
    notesR (k + 1) l Y C = if numO L3 1 b3 then none else tagsR (nvQ L3 1 b3) (nlQ L3 1 b3) [] (ctags k ⟨(nvQ l 3 false : Nat), (nvQ L1 3 b1 : Nat), tvQ L2 b2, [], []⟩ Y C) := by
  obtain ⟨h1, h2⟩ := hd_Q l hL1 hb1 hL2 hb2 hL3 hb3
  rw [notesR_succ, ← h1]
  cases b3 with
  | true => rw [numO_true, numO_true]; rfl
  | false =>
    obtain ⟨h3, h4⟩ := h2 rfl
    rw [h4, ← h3]; rfl
theorem tags_Q (k : Nat) (l : List UInt8) (T : List ByteArray) (C : List UInt8 → List ByteArray → Option α) : tagsR (k + 1) l T C = if txO l false then none else tagsR k (tlQ l false) (T ++ [tvQ l false]) C := rfl
theorem sheets_Q (k : Nat) (l : List UInt8) (T : List Int) (C : List UInt8 → List Int → Option α) : sheetsR (k + 1) l T C = if numO l 2 false then none else sheetsR k (nlQ l 2 false) (T ++ [((nvQ l 2 false : Nat) : Int)]) C := rfl
theorem ctags_Q {q : Option α} {m : Nat} {N : Note} {Y : List Note} {C : List UInt8 → List Note → Option α} {l : List UInt8} {bad : Bool} {T : List ByteArray} (h : q = if bad then none else ctags m N Y C l T) : q = if numO l 1 bad then none else sheetsR (nvQ l 1 bad) (nlQ l 1 bad) [] (csheets m { N with tags := T } Y C) := by
  rw [h]
  cases bad with
  | true => rw [numO_true]; rfl
  | false => rfl
end
/-- What the document's Read answers. -/
theorem ret_Q {l0 : List UInt8} {w0 w' : World} (h : readR l0 = none) (g : Grow w0 w') : RetRead l0 w0 (.returned (.tuple #[.agg #[.int .i64 0, .int .i64 0, .int .i64 0, .slice none 0 0, .slice none 0 0], .int .i64 5])) w' := by
  refine ⟨g, ?_⟩
  rw [h]
end Go.Proofs.YtbdbmigkcpgmkaaDoor
