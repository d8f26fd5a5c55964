/- The walk of jotterlaw0.GreatShelf. -/
import Derived.Test.YtnajccljdjllgaaDoorSameb
import Derived.Test.YtnajccljdjllgaaDoorSame
set_option linter.unusedVariables false
set_option linter.unusedSimpArgs false
namespace Go.Proofs.YtnajccljdjllgaaDoor
open Go.RowKit Go.Lib
/-- A shelf of some size. -/
def Low (s : Shelf) : Prop := s.books.length ≤ 10 ∧ s.notes.length ≤ 16 ∧ (∀ b ∈ s.books, b.name.size ≤ 60) ∧ ∀ n ∈ s.notes, n.name.size ≤ 60 ∧ n.tags.length ≤ 8 ∧ n.sheets.length ≤ 12 ∧ ∀ t ∈ n.tags, t.size ≤ 60
theorem Low.tame {s : Shelf} (h : Low s) : Tame s := ⟨by have := h.1; omega, by have := h.2.1; omega, fun b hb => by have := h.2.2.1 b hb; omega, fun n hn => by
  obtain ⟨h1, h2, h3, h4⟩ := h.2.2.2 n hn
  exact ⟨by omega, by omega, by omega, fun t ht => by have := h4 t ht; omega⟩⟩
set_option maxRecDepth 100000 in
theorem greatTexts_wide (v : Value) (l : List ByteArray) (long : Int) (w : World) (h : Texts w v l) (hl : l.length ≤ 9223372036854775807) :
    Calls Tryd.prog 43 #[v, .int .i64 8, .int .i64 long] w fun e w' => e = .returned (.bool (greatTexts l 8 long)) ∧ w = w' := by
  by_cases hs : l.length ≤ 4611686018427387904
  · exact greatTexts_any v l 8 long w h hs (by decide)
  obtain ⟨a, c, rfl⟩ := h.mk
  have hb : (8 : Int) < (l.length : Int) := by omega
  have h0 : (0 : Int) < l.length := by omega
  have HR := Lib.hid (show greatTexts l 8 long = true by unfold greatTexts; rw [decide_eq_true hb]; rfl)
  clear hs
  go_enter Tryd.func43, Tryd.ntmps43
  go_wp2
  refine wp_loop_rounds 1 ?_
  rw [rounds_succ]
  go_wp2
  go_ret
  exact ⟨ret_bool HR.out.symm, rfl⟩
def GreatPost (s : Shelf) (w : World) (e : Ending) (w' : World) : Prop := Grow w w' ∧ ∃ r, e = .returned (.bool r) ∧ (r = false → Low s)
set_option maxRecDepth 100000 in
set_option maxHeartbeats 2000000 in
theorem great_any (s : Shelf) (bv nv : Value) (w : World) (h : ShelfR w s bv nv) (hwd : ∀ n ∈ s.notes, n.tags.length ≤ 9223372036854775807) :
    Calls Tryd.prog 13 #[shelfV s bv nv] w (GreatPost s w) := by
  obtain ⟨a1, c1, rfl⟩ := h.1.mk
  obtain ⟨a2, c2, rfl⟩ := h.2.mk
  have HH := Lib.hid h
  have HWD := Lib.hid hwd
  clear h hwd
  unfold shelfV
  go_enter Tryd.func13, Tryd.ntmps13
  go_upto_region 1 with (fail)
  generalize hV : w.alloc (.cells #[.int .i64 s.nb, .int .i64 s.nn, .int .i64 s.ns, .slice a1 s.books.length c1, .slice a2 s.notes.length c2] 28) = V
  have gV : Grow w V := by rw [← hV]; exact (Grow.refl w).alloc _
  have hsz : w.heap.size < V.heap.size := by rw [← hV]; simp
  have Q : V.cell? ⟨w.heap.size, 3, none⟩ = some (.slice a1 s.books.length c1) ∧
      V.cell? ⟨w.heap.size, 4, none⟩ = some (.slice a2 s.notes.length c2) := by rw [← hV]; simp [go_sem]
  obtain ⟨q3, q4⟩ := Q
  clear hV
  go_wp2_with fail
  go_loop [3] (fun v3 => ∃ j : Nat, v3 = .int .i64 j ∧ j ≤ 10 ∧ ∀ (k : Nat) x, k < j → s.books[k]? = some x → x.name.size ≤ 60) (fun v3 => 11 - (intOf v3).toNat)
  case atStart => exact ⟨0, rfl, by omega, fun k x h => absurd h (by omega)⟩
  case round =>
    obtain ⟨j, rfl, hj, hall⟩ := hrel
    have HA := Lib.hid hall
    clear hall
    by_cases hgo : j < s.books.length ∧ s.books.length ≤ 10
    · obtain ⟨hlt, hle⟩ := hgo
      have hlt' : (j : Int) < s.books.length := by omega
      have hle' : (s.books.length : Int) ≤ 10 := by omega
      have hd1 : decide ((j : Int) < s.books.length) = true := decide_eq_true hlt'
      obtain ⟨x, hx, -⟩ := lt_get hlt
      obtain ⟨bb, off, rfl, hbb, p0, p1⟩ := (HH.out.1.grow gV).at hx
      have HX := Lib.hid hx
      clear hx
      by_cases hs : x.name.size ≤ 60
      · have hs' : ¬ (60 : Int) < x.name.size := by omega
        go_wp2_with fail
        go_round
        case rel => exact ⟨j + 1, by go_num, by omega, fun k y hk hy => by
          rcases (by omega : k < j ∨ k = j) with h3 | rfl
          · exact HA.out k y h3 hy
          · rw [HX.out] at hy; injection hy with hy; rw [← hy]; exact hs⟩
        case measure => simp [intOf]; omega
      · have hs' : (60 : Int) < x.name.size := by omega
        go_wp2_with fail
        go_ret
        exact ⟨gV, true, rfl, fun h => by cases h⟩
    · have hbooks : s.books.length ≤ 10 → ∀ b ∈ s.books, b.name.size ≤ 60 := fun hle b hb => by
        obtain ⟨i, hi, e⟩ := List.getElem_of_mem hb
        exact HA.out i b (by omega) (by rw [List.getElem?_eq_getElem hi, e])
      have HBK := Lib.hid hbooks
      clear hbooks
      have hdd : (decide ((j : Int) < s.books.length) && decide ((s.books.length : Int) ≤ 10)) = false := by
        rw [← Bool.not_eq_true, Bool.and_eq_true, decide_eq_true_eq, decide_eq_true_eq]; omega
      by_cases hlt : j < s.books.length
      · have hlt' : (j : Int) < s.books.length := by omega
        have hle' : ¬ (s.books.length : Int) ≤ 10 := by omega
        have hle'' : (10 : Int) < s.books.length := by omega
        go_wp2_with fail
        go_loopw [4] (fun v4 wx => wx = V ∧ ∃ j : Nat, v4 = .int .i64 j ∧ j ≤ 16 ∧ ∀ (k : Nat) x, k < j → s.notes[k]? = some x → x.name.size ≤ 60 ∧ x.tags.length ≤ 8 ∧ x.sheets.length ≤ 12 ∧ ∀ t ∈ x.tags, t.size ≤ 60) (fun v4 _ => 17 - (intOf v4).toNat)
        case atStart => exact ⟨rfl, 0, rfl, by omega, fun k x h => absurd h (by omega)⟩
        case round =>
          obtain ⟨rfl, j, rfl, hj, hall⟩ := hrel
          have HA := Lib.hid hall
          clear hall hlt'
          by_cases hgo : j < s.notes.length ∧ s.notes.length ≤ 16
          · obtain ⟨hlt, hle⟩ := hgo
            have hlt' : (j : Int) < s.notes.length := by omega
            have hle' : (s.notes.length : Int) ≤ 16 := by omega
            obtain ⟨x, hx, -⟩ := lt_get hlt
            obtain ⟨bb, off, tv, sv, rfl, hbb, p0, p1, p2, p3, p4, htx, hsx⟩ := (HH.out.2.grow gV).at hx
            have cT := greatTexts_wide tv x.tags 60 wr htx (HWD.out x (List.mem_of_getElem? hx))
            obtain ⟨ta, tc, rfl⟩ := htx.mk
            obtain ⟨sa, sc, rfl⟩ := hsx.mk
            have HX := Lib.hid hx
            clear hx htx hsx
            by_cases hs : x.name.size ≤ 60
            · have hs' : ¬ (60 : Int) < x.name.size := by omega
              cases ht : greatTexts x.tags 8 60
              · rw [ht] at cT
                have HT := Lib.hid ht
                clear ht
                by_cases hsh : x.sheets.length ≤ 12
                · have hsh' : ¬ (12 : Int) < x.sheets.length := by omega
                  go_wp2_with fail
                  refine cT.mono ?_
                  rintro e w1 ⟨rfl, rfl⟩
                  go_wp2_with fail
                  go_roundw
                  case rel => exact ⟨by first | trivial | rfl, j + 1, by go_num, by omega, fun k y hk hy => by
                    rcases (by omega : k < j ∨ k = j) with h3 | rfl
                    · exact HA.out k y h3 hy
                    · rw [HX.out] at hy; injection hy with hy; subst hy
                      have h4 := HT.out
                      unfold greatTexts at h4
                      rw [Bool.or_eq_false_iff, decide_eq_false_iff_not, List.any_eq_false] at h4
                      exact ⟨hs, by omega, hsh, fun t ht => by have := h4.2 t ht; rw [decide_eq_true_eq] at this; omega⟩⟩
                  case measure => simp [intOf]; omega
                · have hsh' : (12 : Int) < x.sheets.length := by omega
                  go_wp2_with fail
                  refine cT.mono ?_
                  rintro e w1 ⟨rfl, rfl⟩
                  go_wp2_with fail
                  go_ret
                  exact ⟨gV, true, rfl, fun h => by cases h⟩
              · rw [ht] at cT
                clear ht
                go_wp2_with fail
                refine cT.mono ?_
                rintro e w1 ⟨rfl, rfl⟩
                go_wp2_with fail
                go_ret
                exact ⟨gV, true, rfl, fun h => by cases h⟩
            · have hs' : (60 : Int) < x.name.size := by omega
              clear cT
              go_wp2_with fail
              go_ret
              exact ⟨gV, true, rfl, fun h => by cases h⟩
          · have hfin : s.books.length ≤ 10 → s.notes.length ≤ 16 → Low s := fun h1 h2 => ⟨h1, h2, HBK.out h1, fun n hn => by
              obtain ⟨i, hi, e⟩ := List.getElem_of_mem hn
              obtain ⟨z1, z2, z3, z4⟩ := HA.out i n (by omega) (by rw [List.getElem?_eq_getElem hi, e])
              exact ⟨z1, z2, z3, z4⟩⟩
            have HF := Lib.hid hfin
            clear hfin
            by_cases hb10 : s.books.length ≤ 10
            · omega
            · have hb10' : (10 : Int) < s.books.length := by omega
              by_cases hlt : j < s.notes.length
              · have hlt' : (j : Int) < s.notes.length := by omega
                have hn16'' : ¬ (s.notes.length : Int) ≤ 16 := by omega
                go_wp2_with fail
                go_ret
                exact ⟨gV, true, rfl, fun h => by cases h⟩
              · have hlt' : ¬ (j : Int) < s.notes.length := by omega
                go_wp2_with fail
                go_ret
                exact ⟨gV, true, rfl, fun h => by cases h⟩
      · have hlt' : ¬ (j : Int) < s.books.length := by omega
        go_wp2_with fail
        go_loopw [4] (fun v4 wx => wx = V ∧ ∃ j : Nat, v4 = .int .i64 j ∧ j ≤ 16 ∧ ∀ (k : Nat) x, k < j → s.notes[k]? = some x → x.name.size ≤ 60 ∧ x.tags.length ≤ 8 ∧ x.sheets.length ≤ 12 ∧ ∀ t ∈ x.tags, t.size ≤ 60) (fun v4 _ => 17 - (intOf v4).toNat)
        case atStart => exact ⟨rfl, 0, rfl, by omega, fun k x h => absurd h (by omega)⟩
        case round =>
          obtain ⟨rfl, j, rfl, hj, hall⟩ := hrel
          have HA := Lib.hid hall
          clear hall hlt'
          by_cases hgo : j < s.notes.length ∧ s.notes.length ≤ 16
          · obtain ⟨hlt, hle⟩ := hgo
            have hlt' : (j : Int) < s.notes.length := by omega
            have hle' : (s.notes.length : Int) ≤ 16 := by omega
            obtain ⟨x, hx, -⟩ := lt_get hlt
            obtain ⟨bb, off, tv, sv, rfl, hbb, p0, p1, p2, p3, p4, htx, hsx⟩ := (HH.out.2.grow gV).at hx
            have cT := greatTexts_wide tv x.tags 60 wr htx (HWD.out x (List.mem_of_getElem? hx))
            obtain ⟨ta, tc, rfl⟩ := htx.mk
            obtain ⟨sa, sc, rfl⟩ := hsx.mk
            have HX := Lib.hid hx
            clear hx htx hsx
            by_cases hs : x.name.size ≤ 60
            · have hs' : ¬ (60 : Int) < x.name.size := by omega
              cases ht : greatTexts x.tags 8 60
              · rw [ht] at cT
                have HT := Lib.hid ht
                clear ht
                by_cases hsh : x.sheets.length ≤ 12
                · have hsh' : ¬ (12 : Int) < x.sheets.length := by omega
                  go_wp2_with fail
                  refine cT.mono ?_
                  rintro e w1 ⟨rfl, rfl⟩
                  go_wp2_with fail
                  go_roundw
                  case rel => exact ⟨by first | trivial | rfl, j + 1, by go_num, by omega, fun k y hk hy => by
                    rcases (by omega : k < j ∨ k = j) with h3 | rfl
                    · exact HA.out k y h3 hy
                    · rw [HX.out] at hy; injection hy with hy; subst hy
                      have h4 := HT.out
                      unfold greatTexts at h4
                      rw [Bool.or_eq_false_iff, decide_eq_false_iff_not, List.any_eq_false] at h4
                      exact ⟨hs, by omega, hsh, fun t ht => by have := h4.2 t ht; rw [decide_eq_true_eq] at this; omega⟩⟩
                  case measure => simp [intOf]; omega
                · have hsh' : (12 : Int) < x.sheets.length := by omega
                  go_wp2_with fail
                  refine cT.mono ?_
                  rintro e w1 ⟨rfl, rfl⟩
                  go_wp2_with fail
                  go_ret
                  exact ⟨gV, true, rfl, fun h => by cases h⟩
              · rw [ht] at cT
                clear ht
                go_wp2_with fail
                refine cT.mono ?_
                rintro e w1 ⟨rfl, rfl⟩
                go_wp2_with fail
                go_ret
                exact ⟨gV, true, rfl, fun h => by cases h⟩
            · have hs' : (60 : Int) < x.name.size := by omega
              clear cT
              go_wp2_with fail
              go_ret
              exact ⟨gV, true, rfl, fun h => by cases h⟩
          · have hfin : s.books.length ≤ 10 → s.notes.length ≤ 16 → Low s := fun h1 h2 => ⟨h1, h2, HBK.out h1, fun n hn => by
              obtain ⟨i, hi, e⟩ := List.getElem_of_mem hn
              obtain ⟨z1, z2, z3, z4⟩ := HA.out i n (by omega) (by rw [List.getElem?_eq_getElem hi, e])
              exact ⟨z1, z2, z3, z4⟩⟩
            have HF := Lib.hid hfin
            clear hfin
            by_cases hb10 : s.books.length ≤ 10
            · have hb10' : ¬ (10 : Int) < s.books.length := by omega
              have hdb : decide ((10 : Int) < s.books.length) = false := decide_eq_false hb10'
              have hdb' : decide (10 < s.books.length) = false := decide_eq_false (by omega)
              by_cases hn16 : s.notes.length ≤ 16
              · have hn16' : ¬ (16 : Int) < s.notes.length := by omega
                have hn16'' : (s.notes.length : Int) ≤ 16 := by omega
                have hlt' : ¬ (j : Int) < s.notes.length := by omega
                go_wp2_with fail
                go_ret
                exact ⟨gV, _, rfl, fun _ => HF.out hb10 hn16⟩
              · have hn16' : (16 : Int) < s.notes.length := by omega
                have hn16'' : ¬ (s.notes.length : Int) ≤ 16 := by omega
                by_cases hlt : j < s.notes.length
                · have hlt' : (j : Int) < s.notes.length := by omega
                  go_wp2_with fail
                  go_ret
                  exact ⟨gV, true, rfl, fun h => by cases h⟩
                · omega
            · omega
end Go.Proofs.YtnajccljdjllgaaDoor
