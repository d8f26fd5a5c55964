/- The walks of chapter 17's own answer: Book, tags. -/
import Derived.Test.YtnajccljdjllgaaDoorMay
import Derived.Test.YtnajccljdjllgaaDoorRef3
import Derived.Test.YtnajccljdjllgaaDoorGr
set_option linter.unusedVariables false
set_option linter.unusedSimpArgs false
namespace Go.Proofs.YtnajccljdjllgaaDoor
open Go.RowKit Go.Lib
set_option maxRecDepth 100000 in
set_option maxHeartbeats 1000000 in
theorem refBook_any (s : Shelf) (bv nv : Value) (n : Int) (w : World) (h : ShelfR w s bv nv) (hz : s.books.length ≤ 1000000) :
    Calls Tryd.prog 68 #[shelfV s bv nv, .int .i64 n] w fun e w' => e = .returned (.int .i64 (idx (fun b => b.id == n) s.books)) ∧ Grow w w' := by
  obtain ⟨a1, c1, rfl⟩ := h.1.mk
  obtain ⟨a2, c2, rfl⟩ := h.2.mk
  have HH := Lib.hid h
  clear h
  unfold shelfV
  go_enter Tryd.func68, Tryd.ntmps68
  go_upto_region 1 with (fail)
  generalize hV : w.alloc (.cells #[.int .i64 s.nb, .int .i64 s.nn, .int .i64 s.ns, .slice a1 s.books.length c1, .slice a2 s.notes.length c2] 28) = V
  have gV : Grow w V := by rw [← hV]; exact (Grow.refl w).alloc _
  have q3 : V.cell? ⟨w.heap.size, 3, none⟩ = some (.slice a1 s.books.length c1) := by rw [← hV]; simp [go_sem]
  clear hV
  go_wp2_with fail
  go_loop [5] (fun v5 => ∃ j : Nat, v5 = .int .i64 j ∧ j ≤ s.books.length ∧ ∀ (k : Nat) x, k < j → s.books[k]? = some x → (x.id == n) = false) (fun v5 => s.books.length - (intOf v5).toNat)
  case atStart => exact ⟨0, rfl, by omega, fun k x h => absurd h (by omega)⟩
  case round =>
    obtain ⟨j, rfl, hj, hall⟩ := hrel
    have HA := Lib.hid hall
    clear hall
    by_cases hlt : j < s.books.length
    · have hlt' : (j : Int) < s.books.length := by omega
      obtain ⟨x, hx, -⟩ := lt_get hlt
      obtain ⟨bb, off, rfl, hbb, p0, p1⟩ := (HH.out.1.grow gV).at hx
      have HX := Lib.hid hx
      clear hx
      cases hp : (x.id == n)
      · have HP := Lib.hid hp
        go_wp2_with fail
        go_round
        case rel => exact ⟨j + 1, by go_num, by omega, fun k y hk hy => by
          rcases (by omega : k < j ∨ k = j) with h3 | rfl
          · exact HA.out k y h3 hy
          · rw [HX.out] at hy; injection hy with hy; rw [← hy]; exact HP.out⟩
        case measure => simp [intOf]; omega
      · have HR := Lib.hid (idx_some (p := fun b : Book => b.id == n) HX.out hp HA.out)
        go_wp2_with fail
        go_ret
        exact ⟨ret_int HR.out.symm, gV⟩
    · have HR := Lib.hid (idx_none (p := fun b : Book => b.id == n) (l := s.books) (fun k x hx => HA.out k x (by have := (List.getElem?_eq_some_iff.1 hx).1; omega) hx))
      have hlt' : ¬ (j : Int) < s.books.length := by omega
      go_wp2_with fail
      go_ret
      exact ⟨ret_int HR.out.symm, gV⟩
theorem bytesLeq : ∀ (x z : List UInt8), (Op.bytesLess x z || (x == z)) = !Op.bytesLess z x
  | [], [] => rfl
  | [], _ :: _ => rfl
  | _ :: _, [] => rfl
  | a :: x, b :: z => by
    have ih := bytesLeq x z
    unfold Op.bytesLess
    rcases Nat.lt_trichotomy a.toNat b.toNat with h | h | h
    · have h1 : a < b := h
      have h2 : ¬ b < a := by show ¬ b.toNat < a.toNat; omega
      have h3 : (b == a) = false := by rw [beq_eq_false_iff_ne]; rintro rfl; exact absurd h (Nat.lt_irrefl _)
      simp [h1, h2, h3]
    · obtain rfl : a = b := UInt8.toNat_inj.1 h
      have h2 : ¬ a < a := by show ¬ a.toNat < a.toNat; omega
      simp [h2, ih]
    · have h1 : b < a := h
      have h2 : ¬ a < b := by show ¬ a.toNat < b.toNat; omega
      have h3 : (a == b) = false := by rw [beq_eq_false_iff_ne]; rintro rfl; exact absurd h (Nat.lt_irrefl _)
      simp [h1, h2, h3]
theorem leqS (x z : ByteArray) {b : Bool} (h : ltS z x = b) (W : World) : (binOp .leq 9 (.string x) (.string z)).run Tryd.prog W = .ok (.bool (!b)) W := by
  have e : (Op.bytesLess x.toList z.toList || (x.toList == z.toList)) = !b := by rw [bytesLeq, ← h]; rfl
  simp [binOp, Op.stringOp, e, Sem.run_pure]
set_option maxRecDepth 100000 in
set_option maxHeartbeats 2000000 in
theorem refTags_any (v : Value) (l : List ByteArray) (w : World) (h : Texts w v l) (hz : l.length ≤ 1000000) (hs : ∀ t ∈ l, t.size ≤ 1000000) :
    Calls Tryd.prog 126 #[v] w fun e w' => e = .returned (.bool (tagsB l)) ∧ Grow w w' := by
  obtain ⟨a, c, rfl⟩ := h.mk
  go_enter Tryd.func126, Tryd.ntmps126
  go_wp2_with fail
  by_cases h4 : l.length ≤ 4
  · have h4' : (l.length : Int) ≤ 4 := by omega
    go_loopw [3] (fun v3 wx => Grow w wx ∧ ∃ i : Nat, v3 = .int .i64 i ∧ i ≤ l.length ∧ ∀ (j : Nat), j < i → tagOk l j = true) (fun v3 _ => l.length - (intOf v3).toNat)
    case atStart => exact ⟨Grow.refl _, 0, rfl, by omega, fun j h => absurd h (by omega)⟩
    case round =>
      obtain ⟨hg, i, rfl, hi, hall⟩ := hrel
      have HA := Lib.hid hall
      clear hall
      by_cases hlt : i < l.length
      · have hlt' : (i : Int) < l.length := by omega
        obtain ⟨x, hx, -⟩ := lt_get hlt
        have HG := h.grow hg
        obtain ⟨b, off, rfl, hb, hc⟩ := HG.at hx
        have cM := fun W => ref_may x W (by have := hs x (List.mem_of_getElem? hx); omega)
        have HX := Lib.hid (getD_of (d := ⟨#[]⟩) hx)
        have ho : ((i : Int) ≤ 0 ∧ i = 0) ∨ ((0 : Int) < i ∧ ∃ z : ByteArray, l.getD (i - 1) ⟨#[]⟩ = z ∧ wr.cell? ⟨b, off + (i - 1), none⟩ = some (.string z)) := by
          rcases Nat.eq_zero_or_pos i with h0 | h0
          · exact .inl ⟨by omega, h0⟩
          · obtain ⟨z, hzz, -⟩ := lt_get (l := l) (i := i - 1) (by omega)
            obtain ⟨b', off', e', hb', k0⟩ := HG.at hzz
            injection e' with e'
            injection e' with e1 e2
            subst e1 e2
            exact .inr ⟨by omega, z, getD_of hzz, k0⟩
        clear hx h HG
        cases hm : mayB x
        · rw [hm] at cM
          have HR := Lib.hid (show tagsB l = false by
            have : tagOk l i = false := by unfold tagOk; rw [HX.out, hm]; rfl
            unfold tagsB; rw [allTo_no hlt this]; rfl)
          clear hm ho
          go_upto_region 4 with (fail)
          refine wp_region_gr (by kernel_rfl) (by kernel_rfl) ?_
          repeat (go_big_quiet_step (first | (go_at_call 89; exact Calls.gr_same (cM _))))
          refine wpQuiet_nil ?_
          rintro _ ⟨y, rfl⟩
          go_wp2_with fail
          go_ret
          exact ⟨ret_bool HR.out.symm, hg.trans y.g⟩
        · rw [hm] at cM
          rcases ho with ⟨h0, h00⟩ | ⟨h0, z, hzz, k0⟩
          · have hd : decide (0 < i) = false := decide_eq_false (by omega)
            have hd' : decide ((0 : Int) < i) = false := decide_eq_false (by omega)
            have HO := Lib.hid (show tagOk l i = true by unfold tagOk; rw [HX.out, hm, h00]; rfl)
            clear hm h00 h0
            go_upto_region 4 with (fail)
            refine wp_region_gr (by kernel_rfl) (by kernel_rfl) ?_
            repeat (go_big_quiet_step (first | (go_at_call 89; exact Calls.gr_same (cM _))))
            refine wpQuiet_nil ?_
            rintro _ ⟨y, rfl⟩
            go_wp2_with fail
            go_roundw
            case rel => exact ⟨hg.trans y.g, i + 1, by go_num, by omega, fun j hj => by
              rcases (by omega : j < i ∨ j = i) with h3 | rfl
              · exact HA.out j h3
              · exact HO.out⟩
            case measure => simp [intOf]; omega
          · have hd : decide (0 < i) = true := decide_eq_true (by omega)
            have hd' : decide ((0 : Int) < i) = true := decide_eq_true h0
            have hi0 : IntKind.i64.wrap ((i : Int) - 1) = (i : Int) - 1 := IntWalk.i64_in _ (by omega)
            have hi1 : (0 : Int) ≤ (i : Int) - 1 := by omega
            have hi2 : (i : Int) - 1 < l.length := by omega
            have hi3 : ((i : Int) - 1).toNat = i - 1 := by omega
            cases hl : ltS z x
            · have HR := Lib.hid (show tagsB l = false by
                have : tagOk l i = false := by
                  unfold tagOk; rw [HX.out, hzz, hm, hl, show (i == 0) = false by rw [beq_eq_false_iff_ne]; omega]; rfl
                unfold tagsB; rw [allTo_no hlt this]; rfl)
              have hq := bytesLeq x.toList z.toList
              rw [show Op.bytesLess z.toList x.toList = false from hl, Bool.not_false] at hq
              clear hm hl hzz
              cases hl1 : Op.bytesLess x.toList z.toList
              · rw [hl1, Bool.false_or] at hq
                go_upto_region 4 with (fail)
                refine wp_region_gr (by kernel_rfl) (by kernel_rfl) ?_
                repeat (go_big_quiet_step (first | (go_at_call 89; exact Calls.gr_same (cM _))))
                refine wpQuiet_nil ?_
                rintro _ ⟨y, rfl⟩
                clear hi0 hi1 hi2 hi3 k0
                go_wp2_with fail
                go_ret
                exact ⟨ret_bool HR.out.symm, hg.trans y.g⟩
              · clear hq
                go_upto_region 4 with (fail)
                refine wp_region_gr (by kernel_rfl) (by kernel_rfl) ?_
                repeat (go_big_quiet_step (first | (go_at_call 89; exact Calls.gr_same (cM _))))
                refine wpQuiet_nil ?_
                rintro _ ⟨y, rfl⟩
                clear hi0 hi1 hi2 hi3 k0
                go_wp2_with fail
                go_ret
                exact ⟨ret_bool HR.out.symm, hg.trans y.g⟩
            · have HO := Lib.hid (show tagOk l i = true by unfold tagOk; rw [HX.out, hzz, hm, hl]; simp)
              have hq := bytesLeq x.toList z.toList
              rw [show Op.bytesLess z.toList x.toList = true from hl, Bool.not_true, Bool.or_eq_false_iff] at hq
              obtain ⟨hq1, hq2⟩ := hq
              clear hm hl hzz
              go_upto_region 4 with (fail)
              refine wp_region_gr (by kernel_rfl) (by kernel_rfl) ?_
              repeat (go_big_quiet_step (first | (go_at_call 89; exact Calls.gr_same (cM _))))
              refine wpQuiet_nil ?_
              rintro _ ⟨y, rfl⟩
              clear hi0 hi1 hi2 hi3 k0
              go_wp2_with fail
              go_roundw
              case rel => exact ⟨hg.trans y.g, i + 1, by go_num, by omega, fun j hj => by
                rcases (by omega : j < i ∨ j = i) with h3 | rfl
                · exact HA.out j h3
                · exact HO.out⟩
              case measure => simp [intOf]; omega
      · have HO := Lib.hid (show tagsB l = true by unfold tagsB; rw [allTo_yes (fun j hj => HA.out j (by omega)), decide_eq_true h4]; rfl)
        have hlt' : ¬ (i : Int) < l.length := by omega
        clear h
        go_wp2_with fail
        go_ret
        exact ⟨ret_bool (by rw [HO.out]), hg⟩
  · have h4' : ¬ (l.length : Int) ≤ 4 := by omega
    have HO := Lib.hid (show tagsB l = false by unfold tagsB; rw [decide_eq_false h4]; simp)
    clear h
    go_loop [3] (fun v3 => v3 = .int .i64 0) (fun _ => 0)
    case atStart => rfl
    case round =>
      subst hrel
      have h0 : (0 : Int) < l.length := by omega
      go_wp2_with fail
      go_ret
      exact ⟨ret_bool (by rw [HO.out]), Grow.refl _⟩
end Go.Proofs.YtnajccljdjllgaaDoor
