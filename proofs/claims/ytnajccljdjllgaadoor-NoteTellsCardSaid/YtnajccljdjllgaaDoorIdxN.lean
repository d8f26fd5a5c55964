/- slices.IndexFunc over notes; shelf.note, shelf.titled, note.find's search. -/
import Derived.Test.YtnajccljdjllgaaDoorIdx
import Derived.Test.YtnajccljdjllgaaDoorChg
set_option linter.unusedVariables false
set_option linter.unusedSimpArgs false
namespace Go.Proofs.YtnajccljdjllgaaDoor
open Go.RowKit Go.Lib
set_option maxRecDepth 100000 in
theorem indexNotes (v : Value) (l : List Note) (g : Nat) (lb : Array Value) (p : Note → Bool) (w : World) (h : Notes w v l) (hz : l.length ≤ 1000000000) (eg : ∀ args w, (callFunc g args).run Tryd.prog w = .ok (.enter g args) w)
    (hp : ∀ W x at' ct as' cs', Grow w W → x ∈ l → Calls Tryd.prog g (#[noteV x (.slice at' x.tags.length ct) (.slice as' x.sheets.length cs')] ++ lb) W fun e w' => e = .returned (.bool (p x)) ∧ Grow W w') :
    Calls Tryd.prog 104 #[v, .func (.func g) #[] lb] w fun e w' => e = .returned (.int .i64 (idx p l)) ∧ Grow w w' := by
  obtain ⟨a, c, rfl⟩ := h.mk
  unfold noteV at hp
  have HP := Lib.hid hp
  clear hp
  go_enter Tryd.func104, Tryd.ntmps104
  go_wp2
  go_loopw [5, 8] (fun v5 v8 wx => Grow w wx ∧ ∃ i : Nat, v8 = .int .i64 i ∧ i ≤ l.length ∧ ∀ (j : Nat) x, j < i → l[j]? = some x → p x = false) (fun _ v8 _ => l.length - (Go.RowKit.intOf v8).toNat)
  case atStart => exact ⟨Grow.refl _, 0, rfl, by omega, fun j _ h => absurd h (by omega)⟩
  case round =>
    obtain ⟨hg, i, rfl, hi, hall⟩ := hrel
    have HA := Lib.hid hall
    clear hall
    by_cases hlt : i < l.length
    · have hlt' : (i : Int) < l.length := by omega
      obtain ⟨x, hx, -⟩ := lt_get hlt
      obtain ⟨b, off, tv, sv, rfl, -, hc, hd, he, hf, hi2, ht, hs⟩ := (Notes.grow h hg).at hx
      obtain ⟨ta, tc, etv⟩ := ht.mk
      obtain ⟨sa, sc, esv⟩ := hs.mk
      subst etv esv
      have cP := HP.out wr x ta tc sa sc hg (List.mem_of_getElem? hx)
      have HX := Lib.hid hx
      clear hx h HP ht hs
      cases hpx : p x
      · rw [hpx] at cP
        have HPX := Lib.hid hpx
        clear hpx
        go_wp2_with fail
        refine cP.mono ?_
        rintro e w1 ⟨rfl, g1⟩
        go_wp2_with fail
        go_roundw
        case rel => exact ⟨hg.trans g1, i + 1, by go_num, by omega, fun j y hj h1 => by
          rcases (by omega : j < i ∨ j = i) with h3 | rfl
          · exact HA.out j y h3 h1
          · rw [HX.out] at h1; injection h1 with h1; rw [← h1]; exact HPX.out⟩
        case measure => simp [Go.RowKit.intOf]; omega
      · rw [hpx] at cP
        have HR := Lib.hid (idx_some HX.out hpx HA.out)
        clear hpx
        go_wp2_with fail
        refine cP.mono ?_
        rintro e w1 ⟨rfl, g1⟩
        go_wp2_with fail
        go_ret
        exact ⟨ret_int HR.out.symm, hg.trans g1⟩
    · have HR := Lib.hid (idx_none (p := p) (l := l) (fun j x hx => HA.out j x (by have := (List.getElem?_eq_some_iff.1 hx).1; omega) hx))
      have hlt' : ¬ (i : Int) < l.length := by omega
      clear h HP
      go_wp2_with fail
      go_ret
      exact ⟨ret_int HR.out.symm, hg⟩
set_option maxRecDepth 100000 in
theorem note1_any (x : Note) (tv sv : Value) (n : Int) (B : Nat) (w : World) (hb : B < w.heap.size) (h : w.cell? ⟨B, 0, none⟩ = some (.int .i64 n)) :
    Calls Tryd.prog 107 #[noteV x tv sv, .pointer (some ⟨B, 0, none⟩)] w fun e w' => e = .returned (.bool (x.id == n)) ∧ Grow w w' := by
  unfold noteV
  go_enter Tryd.func107, Tryd.ntmps107
  go_wp2_with fail
  go_ret
  exact ⟨rfl, (Grow.refl w).alloc _⟩
set_option maxRecDepth 100000 in
theorem note_any (s : Shelf) (bv nv : Value) (n : Int) (w : World) (h : ShelfR w s bv nv) (hz : s.notes.length ≤ 1000000000) :
    Calls Tryd.prog 75 #[shelfV s bv nv, .int .i64 n] w fun e w' => e = .returned (.int .i64 (idx (fun x => x.id == n) s.notes)) ∧ Grow w w' := by
  obtain ⟨-, hb⟩ := h
  have g0 : Grow w ((w.alloc (.cells #[.int .i64 s.nb, .int .i64 s.nn, .int .i64 s.ns, bv, nv] 28)).alloc (.cells #[.int .i64 n] 3)) := ((Grow.refl w).alloc _).alloc _
  have cI := indexNotes nv s.notes 107 #[.pointer (some ⟨w.heap.size + 1, 0, none⟩)] (fun x => x.id == n) _ (Notes.grow hb g0) hz (fun _ _ => rfl)
    (fun W x _ _ _ _ g _ => note1_any x _ _ n (w.heap.size + 1) W (by have := g.size; simp at this; omega) (by rw [g.cells _ _ (by simp)]; simp [go_sem]))
  obtain ⟨a, c, rfl⟩ := hb.mk
  clear hb
  unfold shelfV
  go_enter Tryd.func75, Tryd.ntmps75
  go_wp2_with fail
  refine cI.mono ?_
  rintro e w1 ⟨rfl, g1⟩
  go_wp2_with fail
  go_ret
  exact ⟨rfl, g0.trans g1⟩
set_option maxRecDepth 100000 in
theorem titled1_any (x : Note) (tv sv : Value) (q : Int) (t : ByteArray) (but : Int) (B : Nat) (w : World) (hb : B + 2 < w.heap.size) (h0 : w.cell? ⟨B, 0, none⟩ = some (.int .i64 q)) (h1 : w.cell? ⟨B + 1, 0, none⟩ = some (.string t)) (h2 : w.cell? ⟨B + 2, 0, none⟩ = some (.int .i64 but)) :
    Calls Tryd.prog 106 #[noteV x tv sv, .pointer (some ⟨B, 0, none⟩), .pointer (some ⟨B + 1, 0, none⟩), .pointer (some ⟨B + 2, 0, none⟩)] w fun e w' => e = .returned (.bool (titleB q t but x)) ∧ Grow w w' := by
  unfold noteV
  have hb0 : B < w.heap.size := by omega
  have hb1 : B + 1 < w.heap.size := by omega
  cases e1 : (x.book == q)
  · have HR := Lib.hid (show titleB q t but x = false by unfold titleB; rw [e1]; rfl)
    go_enter Tryd.func106, Tryd.ntmps106
    go_wp2_with fail
    go_ret
    exact ⟨ret_bool HR.out.symm, (Grow.refl w).alloc _⟩
  · cases e2 : (x.name.toList == t.toList)
    · have HR := Lib.hid (show titleB q t but x = false by unfold titleB; rw [e1, e2]; rfl)
      go_enter Tryd.func106, Tryd.ntmps106
      go_wp2_with fail
      go_ret
      exact ⟨ret_bool HR.out.symm, (Grow.refl w).alloc _⟩
    · have HR := Lib.hid (show titleB q t but x = (x.id != but) by unfold titleB; rw [e1, e2]; rfl)
      go_enter Tryd.func106, Tryd.ntmps106
      go_wp2_with fail
      go_ret
      exact ⟨ret_bool HR.out.symm, (Grow.refl w).alloc _⟩
theorem idx_any {α : Type} (p : α → Bool) : ∀ l : List α, decide (0 ≤ idx p l) = l.any p
  | [] => rfl
  | x :: l => by
    have ih := idx_any p l
    have hb := idx_bd p l
    rw [List.any_cons]
    unfold idx
    cases e : p x
    · rw [if_neg (by simp), Bool.false_or, ← ih]
      by_cases h : idx p l = -1
      · rw [if_pos h, h]
      · rw [if_neg h]
        have h1 : 0 ≤ idx p l := by omega
        rw [decide_eq_true h1, decide_eq_true (by omega)]
    · rw [if_pos rfl]; rfl
set_option maxRecDepth 100000 in
theorem containsNotes (v : Value) (l : List Note) (g : Nat) (lb : Array Value) (p : Note → Bool) (w : World) (h : Notes w v l) (hz : l.length ≤ 1000000000) (eg : ∀ args w, (callFunc g args).run Tryd.prog w = .ok (.enter g args) w)
    (hp : ∀ W x at' ct as' cs', Grow w W → x ∈ l → Calls Tryd.prog g (#[noteV x (.slice at' x.tags.length ct) (.slice as' x.sheets.length cs')] ++ lb) W fun e w' => e = .returned (.bool (p x)) ∧ Grow W w') :
    Calls Tryd.prog 105 #[v, .func (.func g) #[] lb] w fun e w' => e = .returned (.bool (l.any p)) ∧ Grow w w' := by
  have cI := indexNotes v l g lb p w h hz eg hp
  have HR := Lib.hid (idx_any p l)
  obtain ⟨a, c, rfl⟩ := h.mk
  have hb := idx_bd p l
  generalize idx p l = i at *
  clear h hp
  by_cases hi : 0 ≤ i
  · go_enter Tryd.func105, Tryd.ntmps105
    go_wp2_with fail
    refine cI.mono ?_
    rintro e w1 ⟨rfl, g1⟩
    go_wp2_with fail
    go_ret
    exact ⟨by rw [← HR.out]; first | rfl | exact ret_bool (by simp [hi]), g1⟩
  · go_enter Tryd.func105, Tryd.ntmps105
    go_wp2_with fail
    refine cI.mono ?_
    rintro e w1 ⟨rfl, g1⟩
    go_wp2_with fail
    go_ret
    exact ⟨by rw [← HR.out]; first | rfl | exact ret_bool (by simp [hi]), g1⟩
set_option maxRecDepth 100000 in
theorem titled_any (s : Shelf) (bv nv : Value) (q : Int) (t : ByteArray) (but : Int) (w : World) (h : ShelfR w s bv nv) (hz : s.notes.length ≤ 1000000000) :
    Calls Tryd.prog 73 #[shelfV s bv nv, .int .i64 q, .string t, .int .i64 but] w fun e w' => e = .returned (.bool (s.notes.any (titleB q t but))) ∧ Grow w w' := by
  obtain ⟨-, hb⟩ := h
  have g0 : Grow w ((((w.alloc (.cells #[.int .i64 s.nb, .int .i64 s.nn, .int .i64 s.ns, bv, nv] 28)).alloc (.cells #[.int .i64 q] 3)).alloc (.cells #[.string t] 9)).alloc (.cells #[.int .i64 but] 3)) := ((((Grow.refl w).alloc _).alloc _).alloc _).alloc _
  have cI := containsNotes nv s.notes 106 #[.pointer (some ⟨w.heap.size + 1, 0, none⟩), .pointer (some ⟨w.heap.size + 1 + 1, 0, none⟩), .pointer (some ⟨w.heap.size + 1 + 2, 0, none⟩)] (titleB q t but) _ (Notes.grow hb g0) hz (fun _ _ => rfl)
    (fun W x _ _ _ _ g _ => titled1_any x _ _ q t but (w.heap.size + 1) W (by have := g.size; simp at this; omega) (by rw [g.cells _ _ (by simp)]; simp [go_sem]) (by rw [g.cells _ _ (by simp)]; simp [go_sem]) (by rw [g.cells _ _ (by simp)]; simp [go_sem]))
  obtain ⟨a, c, rfl⟩ := hb.mk
  clear hb
  unfold shelfV
  go_enter Tryd.func73, Tryd.ntmps73
  go_wp2_with fail
  refine cI.mono ?_
  rintro e w1 ⟨rfl, g1⟩
  go_wp2_with fail
  go_ret
  exact ⟨rfl, g0.trans g1⟩
end Go.Proofs.YtnajccljdjllgaaDoor
