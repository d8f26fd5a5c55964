/- The walks of slices.IndexFunc over books, of shelf.in, shelf.named, shelf.book. -/
import Derived.Test.YtnajccljdjllgaaDoorSameb
set_option linter.unusedVariables false
set_option linter.unusedSimpArgs false
namespace Go.Proofs.YtnajccljdjllgaaDoor
open Go.RowKit Go.Lib
def bookV (x : Book) : Value := .agg #[.int .i64 x.id, .string x.name]
/-- Where the first one is of which p holds; -1. -/
def idx {α : Type} (p : α → Bool) : List α → Int
  | [] => -1
  | x :: l => if p x = true then 0 else if idx p l = -1 then -1 else idx p l + 1
theorem idx_none {α : Type} {p : α → Bool} : ∀ {l : List α}, (∀ (j : Nat) x, l[j]? = some x → p x = false) → idx p l = -1
  | [], _ => rfl
  | x :: l, h => by
    have h0 := h 0 x rfl
    have ih := idx_none (l := l) (fun j y hy => h (j + 1) y hy)
    simp [idx, h0, ih]
theorem idx_some {α : Type} {p : α → Bool} : ∀ {l : List α} {i : Nat} {x : α}, l[i]? = some x → p x = true → (∀ (j : Nat) y, j < i → l[j]? = some y → p y = false) → idx p l = i
  | [], i, x, h, _, _ => by simp at h
  | y :: l, 0, x, h, hp, _ => by
    have : y = x := by simpa using h
    subst this
    unfold idx; rw [if_pos hp]; rfl
  | y :: l, i + 1, x, h, hp, hh => by
    have h0 := hh 0 y (by omega) rfl
    have := idx_some (l := l) (i := i) (x := x) (by simpa using h) hp (fun j z hj hz => hh (j + 1) z (by omega) (by simpa using hz))
    unfold idx; rw [h0, if_neg (by simp), this, if_neg (by omega)]; omega
theorem idx_bd {α : Type} (p : α → Bool) : ∀ l : List α, idx p l = -1 ∨ (0 ≤ idx p l ∧ idx p l < l.length)
  | [] => .inl rfl
  | x :: l => by
    have ih := idx_bd p l
    unfold idx
    split
    · right; simp
    · split
      · exact .inl rfl
      · right; simp; omega
set_option maxRecDepth 100000 in
theorem in_any (n lo hi : Int) (w : World) : Calls Tryd.prog 39 #[.int .i64 n, .int .i64 lo, .int .i64 hi] w fun e w' => e = .returned (.bool (decide (lo ≤ n) && decide (n ≤ hi))) ∧ w = w' := by
  by_cases h : lo ≤ n
  · go_enter Tryd.func39, Tryd.ntmps39
    go_wp2
    go_ret
    exact ⟨ret_bool (by simp [h]), rfl⟩
  · go_enter Tryd.func39, Tryd.ntmps39
    go_wp2
    go_ret
    exact ⟨ret_bool (by simp; omega), rfl⟩
set_option maxRecDepth 100000 in
theorem indexBooks (v : Value) (l : List Book) (g : Nat) (lb : Array Value) (p : Book → Bool) (w : World) (h : Books w v l) (hz : l.length ≤ 1000000000) (eg : ∀ args w, (callFunc g args).run Tryd.prog w = .ok (.enter g args) w)
    (hp : ∀ W x, Grow w W → x ∈ l → Calls Tryd.prog g (#[bookV x] ++ lb) W fun e w' => e = .returned (.bool (p x)) ∧ Grow W w') :
    Calls Tryd.prog 81 #[v, .func (.func g) #[] lb] w fun e w' => e = .returned (.int .i64 (idx p l)) ∧ Grow w w' := by
  obtain ⟨a, c, rfl⟩ := h.mk
  unfold bookV at hp
  have HP := Lib.hid hp
  clear hp
  go_enter Tryd.func81, Tryd.ntmps81
  go_wp2
  go_loopw [5, 8] (fun v5 v8 wx => Grow w wx ∧ ∃ i : Nat, v8 = .int .i64 i ∧ i ≤ l.length ∧ ∀ (j : Nat) x, j < i → l[j]? = some x → p x = false) (fun _ v8 _ => l.length - (intOf v8).toNat)
  case atStart => exact ⟨Grow.refl _, 0, rfl, by omega, fun j _ h => absurd h (by omega)⟩
  case round =>
    obtain ⟨hg, i, rfl, hi, hall⟩ := hrel
    have HA := Lib.hid hall
    clear hall
    by_cases hlt : i < l.length
    · have hlt' : (i : Int) < l.length := by omega
      obtain ⟨x, hx, -⟩ := lt_get hlt
      obtain ⟨b, off, rfl, -, hc, hd⟩ := (h.grow hg).at hx
      have cP := HP.out wr x hg (List.mem_of_getElem? hx)
      have HX := Lib.hid hx
      clear hx h HP
      cases hpx : p x
      · rw [hpx] at cP
        have HPX := Lib.hid hpx
        clear hpx
        go_wp2_with fail
        refine cP.mono ?_
        rintro e w1 ⟨rfl, g1⟩
        go_wp2_with fail
        go_roundw
        case rel => exact ⟨hg.trans g1, i + 1, by go_num, by omega, fun j y hj h1 => by
          rcases (by omega : j < i ∨ j = i) with h3 | rfl
          · exact HA.out j y h3 h1
          · rw [HX.out] at h1; injection h1 with h1; rw [← h1]; exact HPX.out⟩
        case measure => simp [intOf]; omega
      · rw [hpx] at cP
        have HR := Lib.hid (idx_some HX.out hpx HA.out)
        clear hpx
        go_wp2_with fail
        refine cP.mono ?_
        rintro e w1 ⟨rfl, g1⟩
        go_wp2_with fail
        go_ret
        exact ⟨ret_int HR.out.symm, hg.trans g1⟩
    · have HR := Lib.hid (idx_none (p := p) (l := l) (fun j x hx => HA.out j x (by have := (List.getElem?_eq_some_iff.1 hx).1; omega) hx))
      have hlt' : ¬ (i : Int) < l.length := by omega
      clear h HP
      go_wp2_with fail
      go_ret
      exact ⟨ret_int HR.out.symm, hg⟩
set_option maxRecDepth 100000 in
theorem named1_any (x : Book) (s : ByteArray) (B : Nat) (w : World) (hb : B < w.heap.size) (h : w.cell? ⟨B, 0, none⟩ = some (.string s)) :
    Calls Tryd.prog 82 #[bookV x, .pointer (some ⟨B, 0, none⟩)] w fun e w' => e = .returned (.bool (x.name.toList == s.toList)) ∧ Grow w w' := by
  unfold bookV
  go_enter Tryd.func82, Tryd.ntmps82
  go_wp2_with fail
  go_ret
  exact ⟨rfl, (Grow.refl w).alloc _⟩
set_option maxRecDepth 100000 in
theorem book1_any (x : Book) (n : Int) (B : Nat) (w : World) (hb : B < w.heap.size) (h : w.cell? ⟨B, 0, none⟩ = some (.int .i64 n)) :
    Calls Tryd.prog 103 #[bookV x, .pointer (some ⟨B, 0, none⟩)] w fun e w' => e = .returned (.bool (x.id == n)) ∧ Grow w w' := by
  unfold bookV
  go_enter Tryd.func103, Tryd.ntmps103
  go_wp2_with fail
  go_ret
  exact ⟨rfl, (Grow.refl w).alloc _⟩
set_option maxRecDepth 100000 in
theorem named_any (v : Value) (l : List Book) (s : ByteArray) (w : World) (h : Books w v l) (hz : l.length ≤ 1000000000) :
    Calls Tryd.prog 41 #[v, .string s] w fun e w' => e = .returned (.int .i64 (idx (fun x => x.name.toList == s.toList) l)) ∧ Grow w w' := by
  have g0 : Grow w (w.alloc (.cells #[.string s] 9)) := (Grow.refl w).alloc _
  have cI := indexBooks v l 82 #[.pointer (some ⟨w.heap.size, 0, none⟩)] (fun x => x.name.toList == s.toList) (w.alloc (.cells #[.string s] 9)) (h.grow g0) hz (fun _ _ => rfl)
    (fun W x g _ => named1_any x s w.heap.size W (by have := g.size; simp at this; omega) (by rw [g.cells _ _ (by simp)]; simp [go_sem]))
  obtain ⟨a, c, rfl⟩ := h.mk
  clear h
  go_enter Tryd.func41, Tryd.ntmps41
  go_wp2_with fail
  refine cI.mono ?_
  rintro e w1 ⟨rfl, g1⟩
  go_wp2_with fail
  go_ret
  exact ⟨rfl, g0.trans g1⟩
set_option maxRecDepth 100000 in
theorem book_any (s : Shelf) (bv nv : Value) (n : Int) (w : World) (h : ShelfR w s bv nv) (hz : s.books.length ≤ 1000000000) :
    Calls Tryd.prog 67 #[shelfV s bv nv, .int .i64 n] w fun e w' => e = .returned (.int .i64 (idx (fun x => x.id == n) s.books)) ∧ Grow w w' := by
  obtain ⟨hb, -⟩ := h
  have g0 : Grow w ((w.alloc (.cells #[.int .i64 s.nb, .int .i64 s.nn, .int .i64 s.ns, bv, nv] 28)).alloc (.cells #[.int .i64 n] 3)) := ((Grow.refl w).alloc _).alloc _
  have cI := indexBooks bv s.books 103 #[.pointer (some ⟨w.heap.size + 1, 0, none⟩)] (fun x => x.id == n) _ (hb.grow g0) hz (fun _ _ => rfl)
    (fun W x g _ => book1_any x n (w.heap.size + 1) W (by have := g.size; simp at this; omega) (by rw [g.cells _ _ (by simp)]; simp [go_sem]))
  obtain ⟨a, c, rfl⟩ := hb.mk
  clear hb
  unfold shelfV
  go_enter Tryd.func67, Tryd.ntmps67
  go_wp2_with fail
  refine cI.mono ?_
  rintro e w1 ⟨rfl, g1⟩
  go_wp2_with fail
  go_ret
  exact ⟨rfl, g0.trans g1⟩
end Go.Proofs.YtnajccljdjllgaaDoor
