/- The walk of shelf.mayTags. -/
import Derived.Test.YtnajccljdjllgaaDoorIdx
import Derived.Test.YtnajccljdjllgaaDoorLess
import Derived.Test.YtnajccljdjllgaaDoorName
set_option linter.unusedVariables false
set_option linter.unusedSimpArgs false
namespace Go.Proofs.YtnajccljdjllgaaDoor
open Go.RowKit Go.Lib
/-- May the i-th tag stand there? -/
def tagOk (l : List ByteArray) (i : Nat) : Bool := mayB (l.getD i ⟨#[]⟩) && (i == 0 || ltS (l.getD (i - 1) ⟨#[]⟩) (l.getD i ⟨#[]⟩))
def tagsB (l : List ByteArray) : Bool := allTo l.length (tagOk l) && decide (l.length ≤ 4)
set_option maxRecDepth 100000 in
set_option maxHeartbeats 1000000 in
theorem mayTags_any (v : Value) (l : List ByteArray) (w : World) (h : Texts w v l) (hz : l.length ≤ 1000000) (hs : ∀ t ∈ l, t.size ≤ 1000000) (hT : Tabs w) :
    Calls Tryd.prog 83 #[v] w fun e w' => e = .returned (.bool (tagsB l)) ∧ Grow w w' := by
  obtain ⟨a, c, rfl⟩ := h.mk
  go_enter Tryd.func83, Tryd.ntmps83
  go_wp2_with fail
  go_loopw [3, 4, 7] (fun _ _ v7 wx => Grow w wx ∧ ∃ i : Nat, v7 = .int .i64 i ∧ i ≤ l.length ∧ ∀ (j : Nat), j < i → tagOk l j = true) (fun _ _ v7 _ => l.length - (intOf v7).toNat)
  case atStart => exact ⟨Grow.refl _, 0, rfl, by omega, fun j h => absurd h (by omega)⟩
  case round =>
    obtain ⟨hg, i, rfl, hi, hall⟩ := hrel
    have HA := Lib.hid hall
    clear hall
    by_cases hlt : i < l.length
    · have hlt' : (i : Int) < l.length := by omega
      obtain ⟨x, hx, -⟩ := lt_get hlt
      obtain ⟨b, off, rfl, -, hc⟩ := (h.grow hg).at hx
      have cM := may_any x wr (by have := hs x (List.mem_of_getElem? hx); omega) (hT.below hg)
      have HX := Lib.hid (getD_of (d := ⟨#[]⟩) hx)
      clear hx
      cases hm : mayB x
      · rw [hm] at cM
        have HR := Lib.hid (show tagsB l = false by
          have : tagOk l i = false := by unfold tagOk; rw [HX.out, hm]; rfl
          unfold tagsB; rw [allTo_no hlt this]; rfl)
        clear hm h
        go_wp2_with fail
        refine cM.mono ?_
        rintro e w1 ⟨rfl, g1⟩
        go_wp2_with fail
        go_ret
        exact ⟨ret_bool HR.out.symm, hg.trans g1⟩
      · rw [hm] at cM
        by_cases h0 : (0 : Int) < i
        · obtain ⟨y, hy, -⟩ := lt_get (l := l) (i := i - 1) (by omega)
          obtain ⟨b', off', e', hb', hc'⟩ := (h.grow hg).at hy
          injection e' with e'
          injection e' with e1 e2
          subst e1 e2
          have HY := Lib.hid (getD_of (d := ⟨#[]⟩) hy)
          clear hy h
          by_cases hl : ltS y x = true
          · have HO := Lib.hid (show tagOk l i = true by
              unfold tagOk; rw [HX.out, HY.out, hm, hl]; simp)
            have hl' : Op.bytesLess y.toList x.toList = true := hl
            clear hm hl
            go_wp2_with fail
            refine cM.mono ?_
            rintro e w1 ⟨rfl, g1⟩
            have hcc : w1.cell? ⟨b, off + (i - 1), none⟩ = some (.string y) := (Grow.cells g1 _ _ hb').trans hc'
            go_wp2_with fail
            go_roundw
            case rel => exact ⟨hg.trans g1, i + 1, by go_num, by omega, fun j hj => by
              rcases (by omega : j < i ∨ j = i) with h3 | rfl
              · exact HA.out j h3
              · exact HO.out⟩
            case measure => simp [intOf]; omega
          · have HR := Lib.hid (show tagsB l = false by
              have : tagOk l i = false := by
                unfold tagOk; rw [HX.out, HY.out, hm]; simp at hl; rw [hl]; simp; omega
              unfold tagsB; rw [allTo_no hlt this]; rfl)
            have hl' : Op.bytesLess y.toList x.toList = false := by simpa [ltS] using hl
            clear hm hl
            go_wp2_with fail
            refine cM.mono ?_
            rintro e w1 ⟨rfl, g1⟩
            have hcc : w1.cell? ⟨b, off + (i - 1), none⟩ = some (.string y) := (Grow.cells g1 _ _ hb').trans hc'
            go_wp2_with fail
            go_ret
            exact ⟨ret_bool HR.out.symm, hg.trans g1⟩
        · obtain rfl : i = 0 := by omega
          rw [Nat.add_zero] at hc
          have HO := Lib.hid (show tagOk l 0 = true by unfold tagOk; rw [HX.out, hm]; rfl)
          clear hm h
          go_wp2_with fail
          refine cM.mono ?_
          rintro e w1 ⟨rfl, g1⟩
          go_wp2_with fail
          go_roundw
          case rel => exact ⟨hg.trans g1, 1, by go_num, by omega, fun j hj => by
            obtain rfl : j = 0 := by omega
            exact HO.out⟩
          case measure => simp [intOf]; omega
    · have HO := Lib.hid (allTo_yes (n := l.length) (p := tagOk l) (fun j hj => HA.out j (by omega)))
      have hlt' : ¬ (i : Int) < l.length := by omega
      clear h
      go_wp2_with fail
      go_ret
      exact ⟨ret_bool (by unfold tagsB; rw [HO.out, Bool.true_and]; congr 1; simp; omega), hg⟩
end Go.Proofs.YtnajccljdjllgaaDoor
