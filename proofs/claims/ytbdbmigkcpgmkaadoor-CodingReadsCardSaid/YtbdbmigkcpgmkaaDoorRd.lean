/- The walks of coding's reader. -/
import Derived.Test.YtbdbmigkcpgmkaaDoorPut
import Derived.Test.YtbdbmigkcpgmkaaDoorSeen
import Derived.Laws.BytesString
set_option linter.unusedVariables false
set_option linter.unusedSimpArgs false
namespace Go.Proofs.YtbdbmigkcpgmkaaDoor
open Go.RowKit Go.Lib
theorem Bytes.sl_take {w : World} {a : Option Addr} {c : Nat} {l : List UInt8} (h : Bytes w (.slice a l.length c) l) {n : Nat} (hn : n ≤ l.length) : Bytes w (.slice a n c) (l.take n) := by
  obtain ⟨a', c', e, hc, hr⟩ := h
  injection e with e1 e2 e3
  subst e1 e3
  have e4 : (l.take n).length = n := by rw [List.length_take]; omega
  refine ⟨a, c, by rw [e4], by omega, ?_⟩
  rw [e4]
  exact (hr.take hn).imp fun j hj cs hh x hx => hh x (by rw [List.getElem?_take] at hx; split at hx <;> first | exact hx | cases hx)
theorem Bytes.sl_drop {w : World} {a : Option Addr} {c : Nat} {l : List UInt8} (h : Bytes w (.slice a l.length c) l) {n : Nat} (hn : n ≤ l.length) : Bytes w (sliced a n l.length c 1) (l.drop n) := by
  obtain ⟨a', c', e, hc, hr⟩ := h
  injection e with e1 e2 e3
  subst e1 e3
  have e4 : (l.drop n).length = l.length - n := List.length_drop
  unfold sliced
  refine ⟨_, c - n, by rw [e4], by omega, fun hp => ?_⟩
  obtain ⟨b, off, rfl, hb, hcs⟩ := hr (by omega)
  refine ⟨b, off + n, by rw [if_neg (by omega)]; simp [Addr.add], hb, fun i hi => ?_⟩
  obtain ⟨cs, h1, h2, h3⟩ := hcs (n + i) (by omega)
  refine ⟨cs, h1, fun x hx => h2 x (by rw [List.getElem?_drop] at hx; exact hx), fun j v hj => ?_⟩
  have := h3 j v hj
  rw [show off + n + i * 1 + j = off + (n + i) * 1 + j by omega]; exact this
/-- A reader at block B of what is left, and whether there were too few. -/
structure Rd (W0 : World) (B : Nat) (l : List UInt8) (bad : Bool) (w : World) : Prop where
  grow : Grow W0 w
  low : W0.heap.size ≤ B
  box : ∃ v, w.heap[B]? = some (.cells #[v, .bool bad] 75 (0, 0)) ∧ Bytes W0 v l
theorem Turned.set (w : World) (B o : Nat) (u : Value) : Turned B w (w.setCell ⟨B, o, none⟩ u) := ⟨rfl, rfl, rfl, by simp, fun i _ hb => heap_setCell_other w ⟨B, o, none⟩ i u hb⟩
def TakePost (W0 : World) (B : Nat) (l : List UInt8) (bad : Bool) (n : Nat) (w : World) (e : Ending) (w' : World) : Prop := Turned B w w' ∧ ((n ≤ l.length ∧ ∃ v, e = .returned v ∧ Bytes W0 v (l.take n) ∧ Rd W0 B (l.drop n) bad w') ∨ (l.length < n ∧ e = .returned (.slice none 0 0) ∧ Rd W0 B l true w'))
set_option maxRecDepth 100000 in
set_option maxHeartbeats 1000000 in
theorem take_any (W0 : World) (B : Nat) (l : List UInt8) (bad : Bool) (n : Nat) (w : World) (h : Rd W0 B l bad w) (hl : l.length ≤ 1000000000) :
    Calls Tryd.prog 59 #[.pointer (some ⟨B, 0, none⟩), .int .i64 n] w (TakePost W0 B l bad n w) := by
  obtain ⟨hg, hlow, v, hbox, hv⟩ := h
  obtain ⟨a, c, rfl⟩ := hv.mk
  have hc := hv.len.2
  have HV := Lib.hid hv
  have HB := Lib.hid hbox
  have c0 : w.cell? ⟨B, 0, none⟩ = some (.slice a l.length c) := (cell_of_row w B 0 _ _ _ hbox).trans rfl
  have c1 : w.cell? ⟨B, 1, none⟩ = some (.bool bad) := (cell_of_row w B 1 _ _ _ hbox).trans rfl
  have f0 : w.frozen? ⟨B, 0, none⟩ = false := by simp [World.frozen?, hbox]
  have f1 : w.frozen? ⟨B, 1, none⟩ = false := by simp [World.frozen?, hbox]
  have hBs : B < w.heap.size := (Array.getElem?_eq_some_iff.1 hbox).1
  clear hv hbox
  by_cases hn : l.length < n
  · have hn' : (l.length : Int) < n := by omega
    go_enter Tryd.func59, Tryd.ntmps59
    go_wp2_with fail
    go_ret
    exact ⟨Turned.set _ _ _ _, .inr ⟨hn, rfl, Turned.grow (Turned.set _ _ _ _) hg hlow, hlow, _, heap_setCell_same w B 1 _ _ _ HB.out, HV.out⟩⟩
  · have hn' : ¬ (l.length : Int) < n := by omega
    have hnl : n ≤ l.length := by omega
    have h0 : (0 : Int) ≤ n := by omega
    have h1 : (n : Int) ≤ c := by omega
    have h2 : (n : Int) ≤ l.length := by omega
    have HD := Lib.hid (HV.out.sl_drop hnl)
    have HT := Lib.hid (HV.out.sl_take hnl)
    have hnn : ((n : Int)).toNat = n := by omega
    by_cases hcn : c = n
    · subst hcn
      go_enter Tryd.func59, Tryd.ntmps59
      go_wp2_with fail
      go_ret
      refine ⟨Turned.set _ _ _ _, .inl ⟨hnl, _, rfl, HT.out, Turned.grow (Turned.set _ _ _ _) hg hlow, hlow, _, heap_setCell_same w B 0 _ _ _ HB.out, ?_⟩⟩
      have := HD.out
      simpa [sliced, show l.length - c = 0 by omega] using this
    · go_enter Tryd.func59, Tryd.ntmps59
      go_wp2_with fail
      go_ret
      refine ⟨Turned.set _ _ _ _, .inl ⟨hnl, _, rfl, ?_, Turned.grow (Turned.set _ _ _ _) hg hlow, hlow, _, heap_setCell_same w B 0 _ _ _ HB.out, ?_⟩⟩
      · exact HT.out
      · have := HD.out
        simpa [sliced, hcn] using this
def numB (l : List UInt8) : Nat := l.foldl (fun n x => n * 256 + x.toNat) 0
theorem numB_snoc (l : List UInt8) (x : UInt8) : numB (l ++ [x]) = numB l * 256 + x.toNat := by unfold numB; rw [List.foldl_append]; rfl
theorem numB_go : ∀ (l : List UInt8) (a : Nat), l.foldl (fun n x => n * 256 + x.toNat) a < (a + 1) * 256 ^ l.length
  | [], a => by simp
  | x :: l, a => by
    have h := numB_go l (a * 256 + x.toNat)
    have hx := x.toNat_lt
    rw [List.foldl_cons, List.length_cons, Nat.pow_succ]
    refine Nat.lt_of_lt_of_le h ?_
    rw [Nat.mul_comm (256 ^ l.length) 256, ← Nat.mul_assoc]
    exact Nat.mul_le_mul_right _ (by omega)
theorem numB_lt (l : List UInt8) : numB l < 256 ^ l.length := by have := numB_go l 0; simpa [numB] using this
theorem or_small (a b : Nat) (ha : a < 4294967296) (hb : b < 4294967296) : bits .or .i64 (a : Int) (b : Int) = ((a ||| b : Nat) : Int) := by
  have hx : a ||| b < 2 ^ 32 := Nat.or_lt_two_pow (by omega) (by omega)
  show IntKind.i64.wrap ((BitVec.ofInt 64 (a : Int) ||| BitVec.ofInt 64 (b : Int)).toNat : Int) = _
  rw [BitVec.toNat_or, BitVec.ofInt_natCast, BitVec.ofInt_natCast, BitVec.toNat_ofNat, BitVec.toNat_ofNat, Nat.mod_eq_of_lt (show a < 2 ^ 64 by omega), Nat.mod_eq_of_lt (show b < 2 ^ 64 by omega)]
  exact IntWalk.i64_in _ (by omega)
theorem shl_or (a b : Nat) (ha : a < 16777216) (hb : b < 256) : bits .or .i64 (wrap64 ((a : Int) * 256)) (b : Int) = ((a * 256 + b : Nat) : Int) := by
  rw [show wrap64 ((a : Int) * 256) = ((a * 256 : Nat) : Int) by unfold wrap64; omega, or_small _ _ (by omega) (by omega)]
  have := Nat.two_pow_add_eq_or_of_lt (i := 8) hb a
  rw [Nat.mul_comm a 256]
  exact congrArg Int.ofNat this.symm
def NumPost (W0 : World) (B : Nat) (l : List UInt8) (bad : Bool) (n : Nat) (w : World) (e : Ending) (w' : World) : Prop := Turned B w w' ∧ ((n ≤ l.length ∧ e = .returned (.int .i64 (numB (l.take n))) ∧ Rd W0 B (l.drop n) bad w') ∨ (l.length < n ∧ e = .returned (.int .i64 0) ∧ Rd W0 B l true w'))
set_option maxRecDepth 100000 in
set_option maxHeartbeats 1000000 in
theorem num_any (W0 : World) (B : Nat) (l : List UInt8) (bad : Bool) (n : Nat) (w : World) (h : Rd W0 B l bad w) (hl : l.length ≤ 1000000000) (hn : n ≤ 3) :
    Calls Tryd.prog 46 #[.pointer (some ⟨B, 0, none⟩), .int .i64 n] w (NumPost W0 B l bad n w) := by
  have c1 := take_any W0 B l bad n w h hl
  have hg := h.grow
  go_enter Tryd.func46, Tryd.ntmps46
  go_wp2_with fail
  refine c1.mono ?_
  rintro e w1 ⟨ht, hr⟩
  rcases hr with ⟨hnl, v, rfl, hv, hr1⟩ | ⟨hnl, rfl, hr1⟩
  · obtain ⟨a, c, rfl⟩ := hv.mk
    have HV := Lib.hid hv
    have hg1 := hr1.grow
    have HR := Lib.hid hr1
    have hlen : (l.take n).length = n := by rw [List.length_take]; omega
    generalize hX : l.take n = X at *
    clear hv hr1 h c1
    go_wp2_with fail
    go_loop [5, 12] (fun v5 v12 => ∃ k : Nat, v12 = .int .i64 k ∧ k ≤ X.length ∧ v5 = .int .i64 (numB (X.take k))) (fun _ v12 => X.length - (intOf v12).toNat)
    case atStart => exact ⟨0, rfl, by omega, rfl⟩
    case round =>
      obtain ⟨k, rfl, hk, rfl⟩ := hrel
      by_cases hlt : k < n
      · have hlt' : (k : Int) < n := by omega
        obtain ⟨x, hx, -⟩ := lt_get (l := X) (i := k) (by omega)
        obtain ⟨b, off, rfl, hb, hc⟩ := HV.out.at hx
        replace hc := (hg1.cells _ _ hb).trans hc
        have hx8 := x.toNat_lt
        have HB2 := Lib.hid (numB_lt (X.take k))
        have HX := Lib.hid hx
        clear hx
        go_wp2_with fail
        go_round
        case rel =>
          refine ⟨k + 1, by go_num, by omega, ?_⟩
          obtain ⟨hi, e⟩ := List.getElem?_eq_some_iff.1 HX.out
          rw [List.take_succ_eq_append_getElem hi, e, numB_snoc]
          refine congrArg (Value.int IntKind.i64) (shl_or _ _ (Nat.lt_of_lt_of_le HB2.out ?_) hx8)
          have h3 : (X.take k).length ≤ 3 := by rw [List.length_take]; omega
          exact Nat.le_trans (Nat.pow_le_pow_right (by decide) h3) (by decide)
        case measure => simp [intOf]; omega
      · have hlt' : ¬ (k : Int) < n := by omega
        have HE := Lib.hid (show X.take k = X from List.take_of_length_le (by omega))
        go_wp2_with fail
        go_ret
        exact ⟨ht, .inl ⟨hnl, (congrArg (fun z => Ending.returned (Value.int IntKind.i64 (numB z : Nat))) HE.out).trans (by rw [hX]), HR.out⟩⟩
  · clear h c1
    go_wp2_with fail
    go_loop [5, 12] (fun v5 v12 => v5 = .int .i64 0 ∧ v12 = .int .i64 0) (fun _ _ => 0)
    case atStart => exact ⟨rfl, rfl⟩
    case round =>
      obtain ⟨rfl, rfl⟩ := hrel
      go_wp2_with fail
      go_ret
      exact ⟨ht, .inr ⟨hnl, rfl, hr1⟩⟩
def bytesS (l : List UInt8) : ByteArray := ⟨l.toArray⟩
theorem fold_push : ∀ (l : List UInt8) (a : ByteArray), (l.map fun c => (c.toNat : Int)).foldl (fun r n => r.push (UInt8.ofNat n.toNat)) a = ⟨a.data ++ l.toArray⟩
  | [], a => by simp
  | x :: l, a => by
    rw [List.map_cons, List.foldl_cons, fold_push l]
    have e : UInt8.ofNat ((x.toNat : Int)).toNat = x := by simp
    rw [e]
    apply ByteArray.ext
    apply Array.ext'
    simp [ByteArray.push]
theorem conv_bytes {v : Value} {l : List UInt8} {w : World} (h : Bytes w v l) : (convert 38 9 v).run Tryd.prog w = .ok (.string (bytesS l)) w := by
  obtain ⟨a, c, rfl, hc, hr⟩ := h
  rw [run_convert_bytes_string w _ _ _ a _ c Tryd.underlying38 Tryd.underlying5 Tryd.underlying9]
  by_cases hl : 0 < l.length
  · obtain ⟨b, off, rfl, hb, hcs⟩ := hr hl
    have hld : (loadCells ⟨b, off, none⟩ l.length).run Tryd.prog w = .ok ((l.map fun c => (c.toNat : Int)).map (Value.int .u8)).toArray w := by
      have := run_loadCells_list (P := Tryd.prog) (w := w) ⟨b, off, none⟩ ((l.map fun c => (c.toNat : Int)).map (Value.int .u8)) (fun j v hv => by
        rw [List.getElem?_map, List.getElem?_map] at hv
        cases hx : l[j]? with
        | none => rw [hx] at hv; cases hv
        | some x =>
          rw [hx] at hv
          obtain ⟨hj, _⟩ := List.getElem?_eq_some_iff.1 hx
          obtain ⟨cs, h1, h2, h3⟩ := hcs j hj
          have h4 := h2 x hx
          unfold ByteR at h4
          have h5 := h3 0 _ (by rw [h4]; rfl)
          rw [Nat.mul_one, Nat.add_zero] at h5
          have e : (⟨b, off, none⟩ : Addr).add j = ⟨b, off + j, none⟩ := by simp [Addr.add]
          rw [e, h5]
          simpa using hv)
      simpa using this
    rw [run_bytesToString w _ _ _ _ hld, fold_push]
    rw [show ByteArray.empty.data = #[] from rfl, Array.empty_append]; rfl
  · have : l = [] := List.eq_nil_of_length_eq_zero (by omega)
    subst this
    cases a <;> simp [Conv.bytesToString, bytesS, loadCells, loadCellsFrom] <;> rfl
def TextPost (W0 : World) (B : Nat) (l : List UInt8) (bad : Bool) (w : World) (e : Ending) (w' : World) : Prop := Turned B w w' ∧
  match l with
  | [] => e = .returned (.string ⟨#[]⟩) ∧ Rd W0 B [] true w'
  | x :: l => (x.toNat ≤ l.length ∧ e = .returned (.string (bytesS (l.take x.toNat))) ∧ Rd W0 B (l.drop x.toNat) bad w') ∨ (l.length < x.toNat ∧ e = .returned (.string ⟨#[]⟩) ∧ Rd W0 B l true w')
set_option maxRecDepth 100000 in
theorem rdtext_any (W0 : World) (B : Nat) (l : List UInt8) (bad : Bool) (w : World) (h : Rd W0 B l bad w) (hl : l.length ≤ 1000000000) :
    Calls Tryd.prog 47 #[.pointer (some ⟨B, 0, none⟩)] w (TextPost W0 B l bad w) := by
  have c1 := num_any W0 B l bad 1 w h hl (by decide)
  clear h
  go_enter Tryd.func47, Tryd.ntmps47
  go_wp2_with fail
  refine c1.mono ?_
  rintro e w1 ⟨ht1, hr⟩
  cases l with
  | nil =>
    rcases hr with ⟨hn, -⟩ | ⟨-, rfl, hr⟩
    · exact absurd hn (by simp)
    have c2 := take_any W0 B [] true 0 w1 hr (by simp)
    have hv0 : (convert 38 9 (.slice none 0 0)).run Tryd.prog w1 = .ok (.string (bytesS [])) w1 := conv_bytes (w := w1) Reads.nil
    go_wp2_with fail
    refine c2.mono ?_
    rintro e w2 ⟨ht2, hr2⟩
    rcases hr2 with ⟨-, v, rfl, hv, hr2⟩ | ⟨hn, -⟩
    · have hcv := conv_bytes (w := w2) (Bytes.grow hv hr2.grow)
      go_wp2_with fail
      go_ret
      exact ⟨ht1.trans ht2, rfl, hr2⟩
    · exact absurd hn (by simp)
  | cons x l =>
    rcases hr with ⟨-, rfl, hr⟩ | ⟨hn, -⟩
    · have c2 := take_any W0 B l bad x.toNat w1 hr (by simp at hl; omega)
      have e1 : numB ((x :: l).take 1) = x.toNat := by simp [numB]
      rw [e1]
      clear e1 c1 hr
      go_wp2_with fail
      refine c2.mono ?_
      rintro e w2 ⟨ht2, hr2⟩
      rcases hr2 with ⟨hn, v, rfl, hv, hr2⟩ | ⟨hn, rfl, hr2⟩
      · have hcv := conv_bytes (w := w2) (Bytes.grow hv hr2.grow)
        go_wp2_with fail
        go_ret
        exact ⟨ht1.trans ht2, .inl ⟨hn, rfl, hr2⟩⟩
      · have hcv := conv_bytes (w := w2) (v := .slice none 0 0) (l := []) Reads.nil
        go_wp2_with fail
        go_ret
        exact ⟨ht1.trans ht2, .inr ⟨hn, rfl, hr2⟩⟩
    · exact absurd hn (by simp)
def numV (l : List UInt8) (n : Nat) : Nat := if n ≤ l.length then numB (l.take n) else 0
def numL (l : List UInt8) (n : Nat) : List UInt8 := if n ≤ l.length then l.drop n else l
def numO (l : List UInt8) (n : Nat) (bad : Bool) : Bool := if n ≤ l.length then bad else true
theorem numF_any (W0 : World) (B : Nat) (l : List UInt8) (bad : Bool) (n : Nat) (w : World) (h : Rd W0 B l bad w) (hl : l.length ≤ 1000000000) (hn : n ≤ 3) :
    Calls Tryd.prog 46 #[.pointer (some ⟨B, 0, none⟩), .int .i64 n] w fun e w' => e = .returned (.int .i64 (numV l n)) ∧ Turned B w w' ∧ Rd W0 B (numL l n) (numO l n bad) w' :=
  (num_any W0 B l bad n w h hl hn).mono fun e w' ⟨ht, hr⟩ => by
    unfold numV numL numO
    rcases hr with ⟨h1, h2, h3⟩ | ⟨h1, h2, h3⟩
    · rw [if_pos h1, if_pos h1, if_pos h1]; exact ⟨h2, ht, h3⟩
    · rw [if_neg (by omega), if_neg (by omega), if_neg (by omega)]; exact ⟨h2, ht, h3⟩
theorem Rd.grown {W0 : World} {B : Nat} {l : List UInt8} {bad : Bool} {w w' : World} (h : Rd W0 B l bad w) (g : Grow w w') : Rd W0 B l bad w' := by
  obtain ⟨h1, h2, v, h3, h4⟩ := h
  exact ⟨h1.trans g, h2, v, (Below.block g B (Array.getElem?_eq_some_iff.1 h3).1).trans h3, h4⟩
theorem Rd.cell {W0 : World} {B : Nat} {l : List UInt8} {bad : Bool} {w : World} (h : Rd W0 B l bad w) : w.cell? ⟨B, 1, none⟩ = some (.bool bad) := by
  obtain ⟨h1, h2, v, h3, h4⟩ := h
  exact (cell_of_row w B 1 _ _ _ h3).trans rfl
end Go.Proofs.YtbdbmigkcpgmkaaDoor
