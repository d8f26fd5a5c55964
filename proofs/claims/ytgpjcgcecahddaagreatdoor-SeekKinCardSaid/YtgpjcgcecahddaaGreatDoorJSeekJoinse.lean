/- slices.DeleteFunc at texts. slices.IndexFunc over texts. The walk of seek.Words. The walk of seek.terms. The walk of (seek.term).so, and what it asks the library. The library's sort at items, by names and numbers (seek.Find$2). The walk of seek.Find. Runs of a sorted list, and what they count. What was answered is written over: rows of texts. The walk of seek.Tags. The walk of seek.common. -/
import Derived.Test.YtgpjcgcecahddaaGreatDoorJSeekJoinsd
import Derived.Test.YtgpjcgcecahddaaGreatDoorJSeekJoinsb
import Derived.Test.YtgpjcgcecahddaaGreatDoorJSeekJoinsa
import Derived.Deep.LoopGhost
import Derived.Test.YtgpjcgcecahddaaGreatDoorJSeekJoinsc
import Derived.Deep.RegionLaw
import Derived.Deep.RegionHeld3
set_option linter.unusedVariables false
set_option linter.unusedSimpArgs false
namespace Go.Proofs.YtgpjcgcecahddaaGreatDoor
open Go.RowKit Go.Lib
set_option maxRecDepth 100000 in
set_option maxHeartbeats 4000000 in
theorem delTexts (base : Nat) (v : Value) (X : List ByteArray) (g : Nat) (lb : Array Value) (p : ByteArray → Bool) (w : World) (h : RowO base 9 1 v X.length (X.flatMap (fun t : ByteArray => [Value.string t])) w) (hz : X.length ≤ 1000000) (hb0 : base ≤ w.heap.size) (eg : ∀ args w, (callFunc g args).run Tryz.prog w = .ok (.enter g args) w)
    (hp : ∀ W x, (∀ k, k < w.heap.size → some k ≠ blkOf v → W.heap[k]? = w.heap[k]?) → w.heap.size ≤ W.heap.size → x ∈ X → Calls Tryz.prog g (#[.string x] ++ lb) W fun e w' => e = .returned (.bool (p x)) ∧ Grow W w')
    (hix : Calls Tryz.prog 92 #[v, .func (.func g) #[] lb] w fun e w' => e = .returned (.int .i64 (idx p X)) ∧ Grow w w') :
    Calls Tryz.prog 57 #[v, .func (.func g) #[] lb] w fun e w' => ∃ v', e = .returned v' ∧ RowO base 9 1 v' (X.filter fun x => !p x).length ((X.filter fun x => !p x).flatMap (fun t : ByteArray => [Value.string t])) w' ∧ w.grownBy w' (blkOf v) ∧ blkOf v' = blkOf v := by
  obtain ⟨a, c, rfl, hc⟩ := h.slice
  have HH := Lib.hid h
  have HP := Lib.hid hp
  have hbd := idx_bd p X
  clear hp
  by_cases hneg : idx p X < 0
  · have HF := Lib.hid (filter_all hneg)
    have e1 : idx p X = -1 := by omega
    rw [e1] at hix
    clear h hneg e1 hbd
    go_enter Tryz.func57, Tryz.ntmps57
    go_wp2_with fail
    refine hix.mono ?_
    rintro e w1 ⟨rfl, g1⟩
    go_wp2_with fail
    go_ret
    exact ⟨_, rfl, by rw [HF.out]; exact HH.out.grow g1, ⟨g1.os, g1.tape, g1.output, g1.size, fun k hk _ => g1.block k hk⟩, rfl⟩
  · obtain ⟨i0, hi0⟩ : ∃ i0 : Nat, idx p X = i0 := ⟨(idx p X).toNat, by omega⟩
    have HM0 := Lib.hid (Mid.start hi0)
    obtain ⟨x0, hx0, -⟩ := idx_get hi0 (by omega)
    have hi0l : i0 < X.length := by have := (List.getElem?_eq_some_iff.1 hx0).1; simpa using this
    obtain ⟨b, cc, hbc⟩ : ∃ b cc, (Value.slice a X.length c) = .slice (some ⟨b, 0, none⟩) X.length (cc + 1) := by
      obtain ⟨x, hx, -⟩ := lt_get hi0l
      obtain ⟨u, hu⟩ : ∃ u, (X.flatMap (fun t : ByteArray => [Value.string t]))[i0 * 1 + 0]? = some u := ⟨_, (flat_get (fun t : ByteArray => [Value.string t]) (fun _ => rfl) X i0 0 x hx (by decide)).trans rfl⟩
      obtain ⟨b, c', e, -⟩ := h.cell hu
      injection e with e1 e2 e3
      cases c with
      | zero => omega
      | succ c => exact ⟨b, c, by rw [e1]⟩
    injection hbc with e1 e2 e3
    subst e1 e3
    rw [hi0] at hix
    clear h hneg hbd hi0 hx0
    have HB := Lib.hid (HH.out.blk (g := b) rfl)
    have hi00 : ((i0 : Int) == -1) = false := by rw [beq_eq_false_iff_ne]; omega
    go_enter Tryz.func57, Tryz.ntmps57
    go_wp2_with fail
    refine hix.mono ?_
    rintro e w1 ⟨rfl, g1⟩
    have HG1 := Lib.hid g1
    clear hix g1
    go_wp2_with fail
    go_loopw [5, 6] (fun v5 v6 wx => ∃ (i j : Nat) (l' : List ByteArray), v5 = .int .i64 i ∧ v6 = .int .i64 j ∧ Mid (fun x => !p x) X l' i j ∧ i < j ∧ RowO base 9 1 (.slice (some ⟨b, 0, none⟩) X.length (cc + 1)) X.length (l'.flatMap (fun t : ByteArray => [Value.string t])) wx ∧ Turned b w wx) (fun _ v6 _ => X.length - (Go.RowKit.intOf v6).toNat)
    case atStart => exact ⟨i0, i0 + 1, X, rfl, by go_num, HM0.out, by omega, HH.out.grow HG1.out, Turned.of_grow HG1.out⟩
    case round =>
      obtain ⟨i, j, l', rfl, rfl, hm, hij, hr, ht⟩ := hrel
      have HM := Lib.hid hm
      have HR := Lib.hid hr
      have HT := Lib.hid ht
      have hjl := hm.jl
      have hll := hm.len
      by_cases hlt : j < X.length
      · have hlt' : (j : Int) < X.length := by omega
        obtain ⟨x, hx, -⟩ := lt_get hlt
        have hx' := hm.get hx
        have q0 : wr.cell? ⟨b, j, none⟩ = some (.string x) := by have := (row_cells (fun t : ByteArray => [Value.string t]) (fun _ => rfl) hr hx' 0 _ rfl).1; simpa using this
        have hbw := (row_cells (fun t : ByteArray => [Value.string t]) (fun _ => rfl) hr hx' 0 _ rfl).2.2
        have hkp : ∀ k, k < w.heap.size → some k ≠ blkOf (.slice (some ⟨b, 0, none⟩) X.length (cc + 1)) → wr.heap[k]? = w.heap[k]? := fun k hk hne => ht.block k hk fun e => hne (by rw [e]; rfl)
        have cP := HP.out wr x hkp ht.size (List.mem_of_getElem? hx)
        have HX := Lib.hid hx
        obtain ⟨y, hy, -⟩ := lt_get (l := l') (i := i) (by omega)
        have HY := Lib.hid hy
        clear hm hr ht hx hx' hkp hy
        cases hpx : p x
        · rw [hpx] at cP
          have HPX := Lib.hid (show (fun x => !p x) x = true by simp [hpx])
          clear hpx
          go_wp2_with fail
          refine cP.mono ?_
          rintro e w2 ⟨rfl, g2⟩
          have HR2 := Lib.hid (HR.out.grow g2)
          have hbw2 : b < w2.heap.size := Nat.lt_of_lt_of_le hbw g2.size
          have s0 : w2.cell? ⟨b, i, none⟩ = some (.string y) := by have := (row_cells (fun t : ByteArray => [Value.string t]) (fun _ => rfl) HR2.out HY.out 0 _ rfl).1; simpa using this
          have f0 : w2.frozen? ⟨b, i, none⟩ = false := by have := (row_cells (fun t : ByteArray => [Value.string t]) (fun _ => rfl) HR2.out HY.out 0 _ rfl).2.1; simpa using this
          have HPT := Lib.hid (put_row (fun t : ByteArray => [Value.string t]) (fun _ => rfl) (by decide) HR2.out (by omega) (show i < X.length by omega) x)
          have HT2 := Lib.hid (HT.out.trans (Turned.of_grow g2))
          clear cP g2
          go_wp2_with fail
          go_roundw
          case rel => exact ⟨i + 1, j + 1, l'.set i x, by go_num, by go_num, HM.out.keep HX.out HPX.out, by omega, by have := HPT.out.1; rw [Nat.mul_one] at this; exact this, by have := HT2.out.trans HPT.out.2; rw [Nat.mul_one] at this; exact this⟩
          case measure => simp [Go.RowKit.intOf]; omega
        · rw [hpx] at cP
          have HPX := Lib.hid (show (fun x => !p x) x = false by simp [hpx])
          clear hpx
          go_wp2_with fail
          refine cP.mono ?_
          rintro e w2 ⟨rfl, g2⟩
          have HR2 := Lib.hid (HR.out.grow g2)
          have HT2 := Lib.hid (HT.out.trans (Turned.of_grow g2))
          clear cP g2
          go_wp2_with fail
          go_roundw
          case rel => exact ⟨i, j + 1, l', rfl, by go_num, HM.out.skip HX.out HPX.out, by omega, HR2.out, HT2.out⟩
          case measure => simp [Go.RowKit.intOf]; omega
      · have hlt' : ¬ (j : Int) < X.length := by omega
        obtain rfl : j = X.length := by omega
        obtain ⟨-, cur, hcur⟩ := hr.blk (g := b) rfl
        have hsz : cur.size = (cc + 1) * 1 ∧ X.length ≤ cc + 1 := by
          rcases hr with ⟨-, ⟨h2, -⟩ | ⟨g, cap, cur2, e2, h3, h4, h5, h6, h7, h8⟩⟩ | ⟨-, -, a, e2⟩
          · cases h2
          · injection e2 with e2 e3 e4
            injection e2 with e2
            injection e2 with e2
            subst e2 e4
            rw [hcur] at h4
            injection h4 with h4
            injection h4 with h4
            subst h4
            exact ⟨h7, h5⟩
          · injection e2 with _ _ e2
            omega
        obtain ⟨wz, cs', hcl, hbz, hsz', hkz, htz⟩ := run_clear (P := Tryz.prog) (t := 38) (k := 1) Tryz.underlying38 (z := .string ⟨#[]⟩) (fun _ => by kernel_rfl) rfl (by decide) (by decide) wr (b := b) (o := i * 1) (n := X.length - i) (cc + 1 - i) (by omega) hcur (by rw [hsz.1, ← Nat.add_mul]; exact Nat.mul_le_mul_right _ (by omega))
        simp only [Nat.mul_one] at hcl
        have HRZ := Lib.hid (hr.cut hcur hbz hsz' (by omega) hkz)
        have HDN := Lib.hid hm.done
        have HTZ := Lib.hid (ht.trans htz)
        have hi1 : (i : Int) ≤ X.length := by omega
        have hi2 : (i : Int) ≤ ((cc : Int) + 1) := by omega
        have hsz2 := hsz.2
        clear hr ht hm hcur hsz hbz hsz' hkz htz
        go_wp2_with fail
        go_ret
        refine ⟨_, rfl, ?_, ⟨HTZ.out.os, HTZ.out.tape, HTZ.out.output, HTZ.out.size, fun k hk hne => HTZ.out.block k hk fun e => hne (by rw [e]; rfl)⟩, rfl⟩
        have := HRZ.out
        rw [flat_take (fun t : ByteArray => [Value.string t]) (fun _ => rfl), HDN.out] at this
        have hl2 : (X.filter fun x => !p x).length = i := by rw [← HDN.out, List.length_take]; omega
        rw [hl2]
        exact this
end Go.Proofs.YtgpjcgcecahddaaGreatDoor
set_option linter.unusedVariables false
set_option linter.unusedSimpArgs false
namespace Go.Proofs.YtgpjcgcecahddaaGreatDoor
open Go.RowKit Go.Lib
set_option maxRecDepth 100000 in
theorem indexTexts (v : Value) (l : List ByteArray) (g : Nat) (lb : Array Value) (p : ByteArray → Bool) (w : World) (h : Texts w v l) (hz : l.length ≤ 1000000000) (eg : ∀ args w, (callFunc g args).run Tryz.prog w = .ok (.enter g args) w)
    (hp : ∀ W x, Grow w W → x ∈ l → Calls Tryz.prog g (#[.string x] ++ lb) W fun e w' => e = .returned (.bool (p x)) ∧ Grow W w') :
    Calls Tryz.prog 92 #[v, .func (.func g) #[] lb] w fun e w' => e = .returned (.int .i64 (idx p l)) ∧ Grow w w' := by
  obtain ⟨a, c, rfl⟩ := h.mk
  have HP := Lib.hid hp
  clear hp
  go_enter Tryz.func92, Tryz.ntmps92
  go_wp2
  go_loopw [5, 8] (fun v5 v8 wx => Grow w wx ∧ ∃ i : Nat, v8 = .int .i64 i ∧ i ≤ l.length ∧ ∀ (j : Nat) x, j < i → l[j]? = some x → p x = false) (fun _ v8 _ => l.length - (Go.RowKit.intOf v8).toNat)
  case atStart => exact ⟨Grow.refl _, 0, rfl, by omega, fun j _ h => absurd h (by omega)⟩
  case round =>
    obtain ⟨hg, i, rfl, hi, hall⟩ := hrel
    have HA := Lib.hid hall
    clear hall
    by_cases hlt : i < l.length
    · have hlt' : (i : Int) < l.length := by omega
      obtain ⟨x, hx, -⟩ := lt_get hlt
      obtain ⟨b, off, rfl, -, hc⟩ := (Texts.grow h hg).at hx
      have cP := HP.out wr x hg (List.mem_of_getElem? hx)
      have HX := Lib.hid hx
      clear hx h HP
      cases hpx : p x
      · rw [hpx] at cP
        have HPX := Lib.hid hpx
        clear hpx
        go_wp2_with fail
        refine cP.mono ?_
        rintro e w1 ⟨rfl, g1⟩
        go_wp2_with fail
        go_roundw
        case rel => exact ⟨hg.trans g1, i + 1, by go_num, by omega, fun j y hj h1 => by
          rcases (by omega : j < i ∨ j = i) with h3 | rfl
          · exact HA.out j y h3 h1
          · rw [HX.out] at h1; injection h1 with h1; rw [← h1]; exact HPX.out⟩
        case measure => simp [Go.RowKit.intOf]; omega
      · rw [hpx] at cP
        have HR := Lib.hid (idx_some HX.out hpx HA.out)
        clear hpx
        go_wp2_with fail
        refine cP.mono ?_
        rintro e w1 ⟨rfl, g1⟩
        go_wp2_with fail
        go_ret
        exact ⟨ret_int HR.out.symm, hg.trans g1⟩
    · have HR := Lib.hid (idx_none (p := p) (l := l) (fun j x hx => HA.out j x (by have := (List.getElem?_eq_some_iff.1 hx).1; omega) hx))
      have hlt' : ¬ (i : Int) < l.length := by omega
      clear h HP
      go_wp2_with fail
      go_ret
      exact ⟨ret_int HR.out.symm, hg⟩
end Go.Proofs.YtgpjcgcecahddaaGreatDoor
set_option linter.unusedVariables false
set_option linter.unusedSimpArgs false
namespace Go.Proofs.YtgpjcgcecahddaaGreatDoor
open Go.RowKit Go.Lib
theorem empty_list (x : ByteArray) : (x.toList == []) = !full x := by
  unfold full
  rw [Lib.toList_data, sizeL_list]
  cases x.data.toList <;> simp
set_option maxRecDepth 100000 in
theorem words1_any (x : ByteArray) (w : World) : Calls Tryz.prog 59 #[.string x] w fun e w' => e = .returned (.bool (!full x)) ∧ Grow w w' := by
  have h := empty_list x
  cases hf : full x
  · rw [hf] at h
    have h1 : x.toList = [] := by simpa using h
    have HF := Lib.hid hf
    clear hf h
    go_enter Tryz.func59, Tryz.ntmps59
    go_wp2_with fail
    go_ret
    exact ⟨rfl, Grow.refl w⟩
  · rw [hf] at h
    have h1 : (x.toList == []) = false := h
    have HF := Lib.hid hf
    clear hf h
    go_enter Tryz.func59, Tryz.ntmps59
    go_wp2_with fail
    go_ret
    exact ⟨rfl, Grow.refl w⟩
theorem flat_str (l : List ByteArray) : (l.flatMap fun t : ByteArray => [Value.string t]) = strC l := by
  induction l with
  | nil => rfl
  | cons x l ih => rw [List.flatMap_cons, ih]; rfl
theorem parts_few (s : ByteArray) (hs : s.size ≤ 500000) : (parts s).length ≤ 1000000 := by
  have := parts_len s.data.toList
  unfold parts; rw [List.length_map]
  have h2 : s.data.toList.length = s.size := rfl
  omega
theorem intoT_len (x : ByteArray) : ∀ l : List ByteArray, (intoT x l).length ≤ l.length + 1
  | [] => by simp [intoT]
  | y :: l => by
    have := intoT_len x l
    unfold intoT
    split
    · simp; omega
    · split <;> simp
theorem gather_len : ∀ (l acc : List ByteArray), (l.foldl (fun acc x => intoT x acc) acc).length ≤ l.length + acc.length
  | [], acc => by simp
  | x :: l, acc => by
    have h1 := gather_len l (intoT x acc)
    have h2 := intoT_len x acc
    rw [List.foldl_cons, List.length_cons]; omega
theorem words_few (s : ByteArray) (hs : s.size ≤ 500000) : (words s).length ≤ 1000000 := by
  have h1 := gather_len ((parts s).filter full) []
  have h2 := List.length_filter_le full (parts s)
  have h3 := parts_few s hs
  unfold words gather; simp at h1; omega
set_option maxRecDepth 100000 in
set_option maxHeartbeats 1000000 in
theorem words_any (s : ByteArray) (w : World) (hm : MaxL w) (hs : s.size ≤ 500000) :
    Calls Tryz.prog 17 #[.string s] w fun e w' => ∃ v, e = .returned v ∧ RowO w.heap.size 9 1 v (words s).length (strC (words s)) w' ∧ Grow w w' := by
  have cS := split_any s w hm hs
  have hpl := parts_few s hs
  go_enter Tryz.func17, Tryz.ntmps17
  go_wp2_with fail
  refine cS.mono ?_
  rintro e w1 ⟨v1, rfl, hr1, g1⟩
  have hT := row_texts hr1
  have cI := indexTexts v1 (parts s) 59 #[] (fun x => !full x) w1 hT (by omega) (fun _ _ => rfl) (fun W x _ _ => words1_any x W)
  have cD := delTexts w.heap.size v1 (parts s) 59 #[] (fun x => !full x) w1 (by rw [flat_str]; exact hr1) hpl g1.size (fun _ _ => rfl) (fun W x _ _ _ => words1_any x W) cI
  obtain ⟨a1, c1, e1, -⟩ := hr1.slice
  subst e1
  have HR1 := Lib.hid hr1
  have HG1 := Lib.hid g1
  clear cS cI hT hr1 g1
  go_wp2_with fail
  refine cD.mono ?_
  rintro e w2 ⟨v2, rfl, hr2, g2, hb2⟩
  have hfl : ((parts s).filter fun x => !(!full x)) = (parts s).filter full := List.filter_congr fun x _ => by simp
  rw [flat_str, hfl] at hr2
  have hg2 := grown_grow HG1.out HR1.out g2
  have hl2 : ((parts s).filter full).length ≤ 1000000 := Nat.le_trans (List.length_filter_le _ _) hpl
  have HP := Lib.hid (show words s = gather ((parts s).filter full) from rfl)
  generalize (parts s).filter full = L at *
  have cS := sortTexts_any w.heap.size v2 L w2 hr2 hl2
  obtain ⟨a2, c2, e2, -⟩ := hr2.slice
  subst e2
  have HR2 := Lib.hid hr2
  have HG2 := Lib.hid hg2
  clear cD hr2 g2 hb2 hfl hg2
  go_wp2_with fail
  refine cS.mono ?_
  rintro e w3 ⟨rfl, L', hp, hso, hr3, g3⟩
  have HG3 := Lib.hid (grown_grow HG2.out HR2.out g3)
  have hl3 : L'.length = L.length := hp.length_eq
  have cC := compact_any w.heap.size (.slice a2 L.length c2) L' w3 hr3 hso (by omega)
  have HR3 := Lib.hid hr3
  have HW := Lib.hid (show gather L' = words s by rw [HP.out]; exact inc_one (gather_inc _) (gather_inc _) fun x => by rw [gather_mem, gather_mem, hp.mem_iff])
  clear cS hp hso hr3 g3 hl3
  go_wp2_with fail
  refine cC.mono ?_
  rintro e w4 ⟨v4, rfl, hr4, g4⟩
  have HG4 := Lib.hid (grown_grow HG3.out HR3.out g4)
  rw [HW.out] at hr4
  have HR4 := Lib.hid hr4
  clear cC hr4 g4
  go_wp2_with fail
  go_ret
  exact ⟨_, rfl, HR4.out, HG4.out⟩
end Go.Proofs.YtgpjcgcecahddaaGreatDoor
set_option linter.unusedVariables false
set_option linter.unusedSimpArgs false
namespace Go.Proofs.YtgpjcgcecahddaaGreatDoor
open Go.RowKit Go.Lib
abbrev termC (t : Term) : List Value := [.bool t.turned, .int .i64 t.kind, .string t.text]
def TermR (_ : World) (t : Term) (cs : List Value) : Prop := cs = termC t
abbrev Terms := Reads TermR 3
theorem info_term : (Tryz.prog.info? 68).map (fun i => (i.zero, i.size, i.bytes)) = some (some (.agg #[.bool false, .int .i64 0, .string ⟨#[]⟩]), 3, 32) := by kernel_rfl
theorem termC_one (x : Term) : ∀ u ∈ termC x, u.oneCell' = true := fun u hu => by simp at hu; rcases hu with rfl | rfl | rfl <;> rfl
theorem row_terms {base : Nat} {v : Value} {l : List Term} {w : World} (h : RowO base 68 3 v l.length (l.flatMap termC) w) : Terms w v l := h.reads fun i x hx => flat_part termC (fun _ => rfl) hx
set_option maxRecDepth 100000
abbrev fr0 (q : ByteArray) (lv : Value) (B i : Nat) (u : Nat → Value) : Act := ⟨#[.string q, u 1, .slice none 0 0, .bool false, lv, .pointer (some ⟨B, 0, none⟩), .int .i64 (i : Nat), u 7, u 8, u 9, u 10, u 11, u 12, u 13, u 14, u 15, u 16, u 17, u 18, u 19, u 20, u 21, u 22, u 23, u 24, u 25, u 26, u 27, u 28, u 29, u 30, u 31, u 32, u 33, u 34, u 35, u 36, u 37, u 38, u 39, u 40, u 41, u 42, u 43, u 44, u 45, u 46, u 47, u 48, u 49, u 50, u 51, u 52, u 53, u 54, u 55, u 56, u 57, u 58, u 59, u 60, u 61, u 62, u 63, u 64, u 65, u 66, u 67, u 68, u 69, u 70, u 71, u 72, u 73, u 74, u 75, u 76, u 77, u 78, u 79, u 80, u 81, u 82, u 83, u 84, u 85], []⟩
abbrev fr2 (q : ByteArray) (lv : Value) (B i f : Nat) (u : Nat → Value) : Act := ⟨#[.string q, u 1, .slice none 0 0, .bool false, lv, .pointer (some ⟨B, 0, none⟩), .int .i64 (i : Nat), .int .i64 (f : Nat), u 8, u 9, u 10, u 11, u 12, u 13, u 14, u 15, u 16, u 17, u 18, u 19, u 20, u 21, u 22, u 23, u 24, u 25, u 26, u 27, u 28, u 29, u 30, u 31, u 32, u 33, u 34, u 35, u 36, u 37, u 38, u 39, u 40, u 41, u 42, u 43, u 44, u 45, u 46, u 47, u 48, u 49, u 50, u 51, u 52, u 53, u 54, u 55, u 56, u 57, u 58, u 59, u 60, u 61, u 62, u 63, u 64, u 65, u 66, u 67, u 68, u 69, u 70, u 71, u 72, u 73, u 74, u 75, u 76, u 77, u 78, u 79, u 80, u 81, u 82, u 83, u 84, u 85], []⟩
structure TS (w0 : World) (B : Nat) (u0 u1 u2 : Value) (lv : Value) (L : List Term) (w : World) : Prop where
  grow : Grow w0 w
  low : w0.heap.size ≤ B
  box : w.heap[B]? = some (.cells #[u0, u1, u2] 68 (0, 0))
  row : RowO w0.heap.size 68 3 lv L.length (L.flatMap termC) w
  apart : blkOf lv ≠ some B
def P0 (q : ByteArray) (w0 : World) (lv : Value) (B i : Nat) (w : World) : Prop := ∃ L u0 u1 u2, i ≤ q.size ∧ L.length ≤ i ∧ TS w0 B u0 u1 u2 lv L w ∧ termsL (partsL q.data.toList) = (termsL (partsL (q.data.toList.drop i))).map fun l => L ++ l
def P2 (q : ByteArray) (w0 : World) (lv : Value) (B i f : Nat) (w : World) : Prop := ∃ L tr kd, f ≤ i ∧ i ≤ q.size ∧ L.length ≤ f ∧ 32 ∉ (q.data.toList.drop f).take (i - f) ∧ TS w0 B (.bool tr) (.int .i64 kd) (.string ⟨#[]⟩) lv L w ∧ termsL (partsL q.data.toList) = (fin tr kd (q.data.toList.drop f)).map fun l => L ++ l
def IT (q : ByteArray) (w0 : World) (m l : Nat) (a : Act) (w : World) : Prop :=
  (l = 0 ∧ ∃ (lv : Value) (B i : Nat) (u : Nat → Value), m = 2 * (q.size - i) + 1 ∧ a = fr0 q lv B i u ∧ P0 q w0 lv B i w) ∨
  (l = 2 ∧ ∃ (lv : Value) (B i f : Nat) (u : Nat → Value), m = 2 * (q.size - i) ∧ a = fr2 q lv B i f u ∧ P2 q w0 lv B i f w)
theorem IT.of0 {q : ByteArray} {w0 : World} {a : Act} {w : World} {lv : Value} {B i : Nat} (h : a = fr0 q lv B i (fun i => a.tmps.getD i undef)) (p : P0 q w0 lv B i w) : IT q w0 (2 * (q.size - i) + 1) 0 a w := .inl ⟨rfl, lv, B, i, _, rfl, h, p⟩
theorem IT.of2 {q : ByteArray} {w0 : World} {a : Act} {w : World} {lv : Value} {B i f : Nat} (h : a = fr2 q lv B i f (fun i => a.tmps.getD i undef)) (p : P2 q w0 lv B i f w) : IT q w0 (2 * (q.size - i)) 2 a w := .inr ⟨rfl, lv, B, i, f, _, rfl, h, p⟩
/-- What seek.terms answers. -/
def RetT (q : ByteArray) (w0 : World) (e : Ending) (w' : World) : Prop :=
  Grow w0 w' ∧ match terms q with
  | some l => ∃ v, e = .returned (.tuple #[v, .bool true]) ∧ RowO w0.heap.size 68 3 v l.length (l.flatMap termC) w'
  | none => e = .returned (.tuple #[.slice none 0 0, .bool false])
theorem ret_no {q : ByteArray} {w0 w' : World} (h : terms q = none) (g : Grow w0 w') : RetT q w0 (.returned (.tuple #[.slice none 0 0, .bool false])) w' := by
  refine ⟨g, ?_⟩
  rw [h]
theorem ret_some {q : ByteArray} {w0 w' : World} {l : List Term} {v : Value} (h : terms q = some l) (g : Grow w0 w') (hr : RowO w0.heap.size 68 3 v l.length (l.flatMap termC) w') : RetT q w0 (.returned (.tuple #[v, .bool true])) w' := by
  refine ⟨g, ?_⟩
  rw [h]; exact ⟨v, rfl, hr⟩
theorem terms_be {q : ByteArray} (h1 : q.size ≤ 200) (h0 : q.size ≠ 0) {o : Option (List Term)} (h : termsL (partsL q.data.toList) = o) : terms q = o := by unfold terms; rw [if_neg (by omega), if_neg h0, h]
theorem dropQ (q : ByteArray) {i : Nat} (h : i < q.size) : q.data.toList.drop i = q[i] :: q.data.toList.drop (i + 1) := List.drop_eq_getElem_cons (l := q.data.toList) (i := i) h
theorem byte_ne {a : UInt8} {k : Nat} (h : a ≠ UInt8.ofNat k) (hk : k < 256 := by decide) : (((a.toNat : Nat) : Int) == (k : Int)) = false := by
  rw [beq_eq_false_iff_ne]
  intro e
  apply h
  have : a.toNat = k := by omega
  rw [← this]; simp
theorem take_on {q : ByteArray} {f i : Nat} (h : 32 ∉ (q.data.toList.drop f).take (i - f)) (hf : f ≤ i) (hi : i < q.size) (hc : q[i] ≠ 32) : 32 ∉ (q.data.toList.drop f).take (i + 1 - f) := by
  have e : (q.data.toList.drop f)[i - f]? = some q[i] := by
    rw [List.getElem?_drop, show f + (i - f) = i by omega]; exact List.getElem?_eq_getElem (l := q.data.toList) (i := i) hi
  rw [show i + 1 - f = (i - f) + 1 by omega, List.take_add_one, e]
  intro hm
  rcases List.mem_append.1 hm with hm | hm
  · exact h hm
  · simp at hm; exact hc hm.symm
section
variable {w0 w : World} {B : Nat} {u0 u1 u2 lv : Value} {L : List Term}
theorem TS.put (h : TS w0 B u0 u1 u2 lv L w) (j : Nat) (u : Value) {v0 v1 v2 : Value} (e : (#[u0, u1, u2] : Array Value).setIfInBounds j u = #[v0, v1, v2]) : TS w0 B v0 v1 v2 lv L (w.setCell ⟨B, j, none⟩ u) := by
  have t := turned_cell w B j u
  refine ⟨t.grow h.grow h.low, h.low, ?_, h.row.turned t h.apart, h.apart⟩
  rw [← e]; exact heap_setCell_same w B j _ _ u h.box
theorem TS.set0 (h : TS w0 B u0 u1 u2 lv L w) (u : Value) : TS w0 B u u1 u2 lv L (w.setCell ⟨B, 0, none⟩ u) := h.put 0 u rfl
theorem TS.set1 (h : TS w0 B u0 u1 u2 lv L w) (u : Value) : TS w0 B u0 u u2 lv L (w.setCell ⟨B, 1, none⟩ u) := h.put 1 u rfl
theorem TS.set2 (h : TS w0 B u0 u1 u2 lv L w) (u : Value) : TS w0 B u0 u1 u lv L (w.setCell ⟨B, 2, none⟩ u) := h.put 2 u rfl
end
theorem extract_text (q : ByteArray) (f i : Nat) : q.extract f i = bytesB ((q.data.toList.drop f).take (i - f)) := by
  apply eq_of_list
  rw [bytesB_list, Lib.extract_data]
  try simp [List.take_drop]
theorem take_some {q : ByteArray} {f i : Nat} (hf : f ≤ i) (hi : i ≤ q.size) (h : ¬ i = f) : (q.data.toList.drop f).take (i - f) ≠ [] := by
  intro e
  have := congrArg List.length e
  rw [List.length_take, List.length_drop] at this
  have h2 : q.data.toList.length = q.size := rfl
  simp at this
  omega
section
variable {w0 w w' : World} {B : Nat} {u0 u1 u2 lv v' : Value} {L : List Term} {x : Term}
theorem TS.app (h : TS w0 B u0 u1 u2 lv L w) (ra : AppR w0.heap.size 68 3 w lv L.length (L.flatMap termC) (termC x) v' w') : TS w0 B u0 u1 u2 v' (L ++ [x]) w' := by
  have hB : B < w.heap.size := (Array.getElem?_eq_some_iff.1 h.box).1
  refine ⟨grown_grow h.grow h.row ra.2.1, h.low, (ra.2.1.block B hB fun e => h.apart e.symm).trans h.box, ?_, fun e => ?_⟩
  · have := ra.1
    rw [List.length_append, List.flatMap_append]
    simpa using this
  · obtain ⟨g, h1, h2⟩ := ra.2.2.1
    rw [h1] at e
    injection e with e
    subst e
    rcases h2 with h2 | h2
    · exact h.apart h2
    · omega
end
set_option maxHeartbeats 4000000 in
theorem terms_any (q : ByteArray) (w : World) (hq : q.size ≤ 1000000) :
    Calls Tryz.prog 35 #[.string q] w (RetT q w) := by
  by_cases h2 : 200 < q.size
  · have h2' : (200 : Int) < q.size := by omega
    have HN := Lib.hid (show terms q = none by unfold terms; rw [if_pos h2])
    clear h2
    go_enter Tryz.func35, Tryz.ntmps35
    go_wp2_with fail
    refine wp_scope_fuel 1 ?_
    go_wp2_with fail
    (try rw [Exit.jumps_ret])
    (try simp +zetaDelta only [])
    go_ret2
    exact ret_no HN.out ((Grow.refl w).alloc _)
  by_cases h0 : q.size = 0
  · have h0' : ((q.toList == []) : Bool) = true := by rw [empty_list]; unfold full; simp [h0]
    have h0'' : q.toList = [] := by simpa using h0'
    have HN := Lib.hid (terms_nil h0)
    have h2' : ¬ (200 : Int) < q.size := by omega
    clear h0
    go_enter Tryz.func35, Tryz.ntmps35
    go_wp2_with fail
    refine wp_scope_fuel 1 ?_
    go_wp2_with fail
    (try rw [Exit.jumps_ret])
    (try simp +zetaDelta only [])
    go_ret2
    exact ret_some HN.out ((Grow.refl w).alloc _) RowO.nil
  have h0' : ((q.toList == []) : Bool) = false := by rw [empty_list]; unfold full; simp [h0]
  have h2' : ¬ (200 : Int) < q.size := by omega
  have HBE := Lib.hid (fun (o : Option (List Term)) h => terms_be (q := q) (o := o) (by omega) h0 h)
  have hq2 : q.size ≤ 200 := by omega
  obtain ⟨i0, hi0, iz0, iz1, iz2⟩ := info_parts info_term
  go_enter Tryz.func35, Tryz.ntmps35
  go_wp2_with fail
  refine wp_scope_ind (IT q w) ?step (2 * q.size + 2) ?first
  case first =>
    intro H
    have H0 := Lib.hid H
    clear H
    go_wp2_with fail
    rename_i K hK
    go_step3
    refine hK _ _ ?_
    refine fallI H0.out (l := 0) (m := 2 * (q.size - 0) + 1) (by omega) rfl ?_
    exact IT.of0 (lv := .slice none 0 0) (B := w.heap.size) (i := 0) rfl ⟨[], .bool false, .int .i64 0, .string ⟨#[]⟩, by omega, Nat.le_refl _, ⟨(Grow.refl w).alloc _, Nat.le_refl _, heap_alloc_new w _, RowO.nil, by simp [blkOf]⟩, by simp⟩
  case step =>
    intro m H l a wa hi
    have H0 := Lib.hid H
    clear H
    rcases hi with ⟨rfl, lv, B, i, u, rfl, rfl, hp⟩ | ⟨rfl, lv, B, i, f, u, rfl, rfl, hp⟩
    · obtain ⟨L, u0, u1, u2, hin, hLi, hs, hT⟩ := hp
      refine Exists.intro _ (And.intro rfl ?_)
      have HS := Lib.hid hs
      have HT := Lib.hid hT
      obtain ⟨e0, e1, e2⟩ : wa.cell? ⟨B, 0, none⟩ = some u0 ∧ wa.cell? ⟨B, 1, none⟩ = some u1 ∧ wa.cell? ⟨B, 2, none⟩ = some u2 := ⟨(cell_of_row wa B 0 _ _ _ hs.box).trans rfl, (cell_of_row wa B 1 _ _ _ hs.box).trans rfl, (cell_of_row wa B 2 _ _ _ hs.box).trans rfl⟩
      have f0 := frozen_of_row wa B 0 _ _ hs.box
      have f1 := frozen_of_row wa B 1 _ _ hs.box
      have f2 := frozen_of_row wa B 2 _ _ hs.box
      have hbz : B < wa.heap.size := (Array.getElem?_eq_some_iff.1 hs.box).1
      clear hs hT
      by_cases hlt : i < q.size
      · have hlt' : (i : Int) < q.size := by omega
        have hd := dropQ q hlt
        by_cases c33 : q[i] = 33
        · have b1 : (((q[i].toNat : Nat) : Int) == 33) = true := by rw [c33]; rfl
          by_cases hl2 : i + 1 < q.size
          · have hl2' : (i : Int) + 1 < q.size := by omega
            have hd2 := dropQ q hl2
            have b2 : ((i : Int) + 1 == q.size) = false := by rw [beq_eq_false_iff_ne]; omega
            by_cases d33 : q[i + 1] = 33
            · have b3 : (((q[i + 1].toNat : Nat) : Int) == 33) = true := by rw [d33]; rfl
              have HN := Lib.hid (show terms q = none from HBE.out _ (by rw [HT.out, hd, hd2, c33, d33, beg_twice]; rfl))
              clear c33 d33 hd hd2
              go_wp2_with fail
              go_step3
              refine Or.inr ?_
              refine Exists.intro _ (And.intro rfl ?_)
              go_wp2_with fail
              (try rw [Exit.jumps_ret])
              (try simp +zetaDelta only [])
              go_ret2
              exact ret_no HN.out ((((HS.out.set0 (.bool false)).set1 (.int .i64 0)).set2 (.string ⟨#[]⟩)).set0 (.bool true)).grow
            have b3 : (((q[i + 1].toNat : Nat) : Int) == 33) = false := byte_ne d33
            by_cases d35 : q[i + 1] = 35
            · have b4 : (((q[i + 1].toNat : Nat) : Int) == 35) = true := by rw [d35]; rfl
              have HF := Lib.hid (show termsL (partsL (q.data.toList.drop i)) = fin true 1 (q.data.toList.drop (i + 2)) by rw [hd, hd2, c33, d35, beg_turn (by decide)]; rfl)
              clear c33 d33 d35 hd hd2
              go_wp2_with fail
              rename_i K hK
              go_step3
              refine hK _ _ ?_
              refine fallI H0.out (l := 2) (m := 2 * (q.size - (i + 1 + 1))) (by omega) rfl ?_
              exact IT.of2 (lv := lv) (B := B) (i := i + 1 + 1) (f := i + 1 + 1) rfl ⟨L, true, 1, Nat.le_refl _, by omega, by omega, by simp, (((((HS.out.set0 (.bool false)).set1 (.int .i64 0)).set2 (.string ⟨#[]⟩)).set0 (.bool true)).set1 (.int .i64 1)), by rw [HT.out]; exact congrArg _ (HF.out)⟩
            have b4 : (((q[i + 1].toNat : Nat) : Int) == 35) = false := byte_ne d35
            by_cases d47 : q[i + 1] = 47
            · have b5 : (((q[i + 1].toNat : Nat) : Int) == 47) = true := by rw [d47]; rfl
              have HF := Lib.hid (show termsL (partsL (q.data.toList.drop i)) = fin true 2 (q.data.toList.drop (i + 2)) by rw [hd, hd2, c33, d47, beg_turn (by decide)]; rfl)
              clear c33 d33 d35 d47 hd hd2
              go_wp2_with fail
              rename_i K hK
              go_step3
              refine hK _ _ ?_
              refine fallI H0.out (l := 2) (m := 2 * (q.size - (i + 1 + 1))) (by omega) rfl ?_
              exact IT.of2 (lv := lv) (B := B) (i := i + 1 + 1) (f := i + 1 + 1) rfl ⟨L, true, 2, Nat.le_refl _, by omega, by omega, by simp, (((((HS.out.set0 (.bool false)).set1 (.int .i64 0)).set2 (.string ⟨#[]⟩)).set0 (.bool true)).set1 (.int .i64 2)), by rw [HT.out]; exact congrArg _ (HF.out)⟩
            have b5 : (((q[i + 1].toNat : Nat) : Int) == 47) = false := byte_ne d47
            have HF := Lib.hid (show termsL (partsL (q.data.toList.drop i)) = fin true 0 (q.data.toList.drop (i + 1)) by rw [hd, hd2, c33, beg_turn d33, begB, if_neg d35, if_neg d47])
            clear c33 d33 d35 d47 hd hd2
            go_wp2_with fail
            rename_i K hK
            go_step3
            refine hK _ _ ?_
            refine fallI H0.out (l := 2) (m := 2 * (q.size - (i + 1))) (by omega) rfl ?_
            exact IT.of2 (lv := lv) (B := B) (i := i + 1) (f := i + 1) rfl ⟨L, true, 0, Nat.le_refl _, by omega, by omega, by simp, ((((HS.out.set0 (.bool false)).set1 (.int .i64 0)).set2 (.string ⟨#[]⟩)).set0 (.bool true)), by rw [HT.out]; exact congrArg _ (HF.out)⟩
          · have hl2' : ¬ (i : Int) + 1 < q.size := by omega
            have b2 : ((i : Int) + 1 == q.size) = true := by rw [beq_iff_eq]; omega
            have HN := Lib.hid (show terms q = none from HBE.out _ (by rw [HT.out, hd, c33, List.drop_of_length_le (show q.data.toList.length ≤ i + 1 from by have h9 : q.data.toList.length = q.size := rfl; omega), beg_turn_nil]; rfl))
            clear c33 hd
            go_wp2_with fail
            go_step3
            refine Or.inr ?_
            refine Exists.intro _ (And.intro rfl ?_)
            go_wp2_with fail
            (try rw [Exit.jumps_ret])
            (try simp +zetaDelta only [])
            go_ret2
            exact ret_no HN.out ((((HS.out.set0 (.bool false)).set1 (.int .i64 0)).set2 (.string ⟨#[]⟩)).set0 (.bool true)).grow
        have b1 : (((q[i].toNat : Nat) : Int) == 33) = false := byte_ne c33
        have b2 : ((i : Int) == q.size) = false := by rw [beq_eq_false_iff_ne]; omega
        by_cases d35 : q[i] = 35
        · have b4 : (((q[i].toNat : Nat) : Int) == 35) = true := by rw [d35]; rfl
          have HF := Lib.hid (show termsL (partsL (q.data.toList.drop i)) = fin false 1 (q.data.toList.drop (i + 1)) by rw [hd, beg_plain c33, begB, if_pos d35])
          clear c33 d35 hd
          go_wp2_with fail
          rename_i K hK
          go_step3
          refine hK _ _ ?_
          refine fallI H0.out (l := 2) (m := 2 * (q.size - (i + 1))) (by omega) rfl ?_
          exact IT.of2 (lv := lv) (B := B) (i := i + 1) (f := i + 1) rfl ⟨L, false, 1, Nat.le_refl _, by omega, by omega, by simp, ((((HS.out.set0 (.bool false)).set1 (.int .i64 0)).set2 (.string ⟨#[]⟩)).set1 (.int .i64 1)), by rw [HT.out]; exact congrArg _ (HF.out)⟩
        have b4 : (((q[i].toNat : Nat) : Int) == 35) = false := byte_ne d35
        by_cases d47 : q[i] = 47
        · have b5 : (((q[i].toNat : Nat) : Int) == 47) = true := by rw [d47]; rfl
          have HF := Lib.hid (show termsL (partsL (q.data.toList.drop i)) = fin false 2 (q.data.toList.drop (i + 1)) by rw [hd, beg_plain c33, begB, if_neg d35, if_pos d47])
          clear c33 d35 d47 hd
          go_wp2_with fail
          rename_i K hK
          go_step3
          refine hK _ _ ?_
          refine fallI H0.out (l := 2) (m := 2 * (q.size - (i + 1))) (by omega) rfl ?_
          exact IT.of2 (lv := lv) (B := B) (i := i + 1) (f := i + 1) rfl ⟨L, false, 2, Nat.le_refl _, by omega, by omega, by simp, ((((HS.out.set0 (.bool false)).set1 (.int .i64 0)).set2 (.string ⟨#[]⟩)).set1 (.int .i64 2)), by rw [HT.out]; exact congrArg _ (HF.out)⟩
        have b5 : (((q[i].toNat : Nat) : Int) == 47) = false := byte_ne d47
        have HF := Lib.hid (show termsL (partsL (q.data.toList.drop i)) = fin false 0 (q.data.toList.drop i) by conv => (lhs; rw [hd, beg_plain c33, begB, if_neg d35, if_neg d47, ← hd]))
        clear c33 d35 d47 hd
        go_wp2_with fail
        rename_i K hK
        go_step3
        refine hK _ _ ?_
        refine fallI H0.out (l := 2) (m := 2 * (q.size - (i))) (by omega) rfl ?_
        exact IT.of2 (lv := lv) (B := B) (i := i) (f := i) rfl ⟨L, false, 0, Nat.le_refl _, by omega, by omega, by simp, (((HS.out.set0 (.bool false)).set1 (.int .i64 0)).set2 (.string ⟨#[]⟩)), by rw [HT.out]; exact congrArg _ (HF.out)⟩
      · have hlt' : ¬ (i : Int) < q.size := by omega
        have b2 : ((i : Int) == q.size) = true := by rw [beq_iff_eq]; omega
        have HN := Lib.hid (show terms q = none from HBE.out _ (by rw [HT.out, List.drop_of_length_le (show q.data.toList.length ≤ i from by have h9 : q.data.toList.length = q.size := rfl; omega), beg_nil]; rfl))
        go_wp2_with fail
        go_step3
        refine Or.inr ?_
        refine Exists.intro _ (And.intro rfl ?_)
        go_wp2_with fail
        (try rw [Exit.jumps_ret])
        (try simp +zetaDelta only [])
        go_ret2
        exact ret_no HN.out (((HS.out.set0 (.bool false)).set1 (.int .i64 0)).set2 (.string ⟨#[]⟩)).grow
    · obtain ⟨L, tr, kd, hfi, hin, hLf, h32, hs, hT⟩ := hp
      refine Exists.intro _ (And.intro rfl ?_)
      have HS := Lib.hid hs
      have HT := Lib.hid hT
      have H32 := Lib.hid h32
      have hql : q.data.toList.length = q.size := rfl
      have HQL := Lib.hid hql
      clear hs hT h32 hql
      obtain ⟨la, lc, elv, -⟩ := HS.out.row.slice
      subst elv
      have hfi' : (f : Int) ≤ i := by omega
      have hin' : (i : Int) ≤ q.size := by omega
      have hbx := HS.out.box
      obtain ⟨e0, e1, e2⟩ : wa.cell? ⟨B, 0, none⟩ = some (.bool tr) ∧ wa.cell? ⟨B, 1, none⟩ = some (.int .i64 kd) ∧ wa.cell? ⟨B, 2, none⟩ = some (.string ⟨#[]⟩) := ⟨(cell_of_row wa B 0 _ _ _ hbx).trans rfl, (cell_of_row wa B 1 _ _ _ hbx).trans rfl, (cell_of_row wa B 2 _ _ _ hbx).trans rfl⟩
      have f2 := frozen_of_row wa B 2 _ _ hbx
      have hbz : B < wa.heap.size := (Array.getElem?_eq_some_iff.1 hbx).1
      clear hbx
      by_cases hlt : i < q.size
      · have hlt' : (i : Int) < q.size := by omega
        have hd := dropQ q hlt
        by_cases c32 : q[i] = 32
        · have b1 : (((q[i].toNat : Nat) : Int) != 32) = false := by rw [c32]; rfl
          by_cases hif : i = f
          · have HN := Lib.hid (show terms q = none from HBE.out _ (by rw [HT.out, ← hif, hd, c32, fin_none.2]; rfl))
            have b2 : ((i : Int) == f) = true := by rw [beq_iff_eq]; omega
            have HG := Lib.hid HS.out.grow
            clear hif c32 hd
            go_wp2_with fail
            go_step3
            refine Or.inr ?_
            refine Exists.intro _ (And.intro rfl ?_)
            go_wp2_with fail
            (try rw [Exit.jumps_ret])
            (try simp +zetaDelta only [])
            go_ret2
            exact ret_no HN.out HG.out
          · have b2 : ((i : Int) == f) = false := by rw [beq_eq_false_iff_ne]; omega
            have HS2 := Lib.hid (HS.out.set2 (.string (q.extract f i)))
            have HTX := Lib.hid (extract_text q f i)
            have HFM := Lib.hid (show termsL (partsL q.data.toList) = (termsL (partsL (q.data.toList.drop (i + 1)))).map fun l => (L ++ [⟨tr, kd, q.extract f i⟩]) ++ l by
              rw [HT.out, show q.data.toList.drop f = (q.data.toList.drop f).take (i - f) ++ 32 :: q.data.toList.drop (i + 1) from by
                conv => (lhs; rw [← List.take_append_drop (i - f) (q.data.toList.drop f)])
                rw [List.drop_drop, show f + (i - f) = i by omega, hd, c32], fin_more H32.out (take_some hfi hin hif), Option.map_map, ← HTX.out]
              congr 1
              funext l
              simp)
            clear hd c32 hif
            go_wp2_with (at_builtin; refine app_R (base := w.heap.size) (by rfl) _ _ 63 (by rfl) 68 i0 _ 3 32 Tryz.underlying63 hi0 iz0 iz1 iz2 (by rfl) (by decide) (.slice la L.length lc) L.length (L.flatMap termC) (by rfl) _ HS2.out.row HS2.out.grow.size (termC ⟨tr, kd, q.extract f i⟩) rfl (termC_one _) ?_ ?_ (by decide) ?_; (first | rfl | (simp; done) | (simp; rfl)); omega; intro v' w4 ra; have HS4 := Lib.hid (HS2.out.app ra); obtain ⟨va, vc, e3, -⟩ := ra.1.slice; subst e3; clear ra)
            go_wp2_with fail
            go_step3
            refine JL.jump (m := 2 * (q.size - (i + 1)) + 1) (by omega) ?_
            exact IT.of0 (lv := .slice va (L.length + 1) vc) (B := B) (i := i + 1) rfl ⟨L ++ [⟨tr, kd, q.extract f i⟩], _, _, _, by omega, by simp; omega, HS4.out, HFM.out⟩
        · have b1 : (((q[i].toNat : Nat) : Int) != 32) = true := by have h9 : (((q[i].toNat : Nat) : Int) == 32) = false := byte_ne c32; rw [bne, h9]; rfl
          have H33 := Lib.hid (show 32 ∉ (q.data.toList.drop f).take (i + 1 - f) from take_on H32.out hfi hlt c32)
          clear hd c32
          go_wp2_with fail
          go_step3
          refine JL.jump (m := 2 * (q.size - (i + 1))) (by omega) ?_
          exact IT.of2 (lv := .slice la L.length lc) (B := B) (i := i + 1) (f := f) rfl ⟨L, tr, kd, by omega, by omega, hLf, H33.out, HS.out, HT.out⟩
      · have hlt' : ¬ (i : Int) < q.size := by omega
        have hie : i = q.size := by omega
        by_cases hif : i = f
        · have HN := Lib.hid (show terms q = none from HBE.out _ (by rw [HT.out, ← hif, List.drop_of_length_le (by have := HQL.out; omega), fin_none (b := []).1]; rfl))
          have b2 : ((i : Int) == f) = true := by rw [beq_iff_eq]; omega
          have HG := Lib.hid HS.out.grow
          clear hif hie
          go_wp2_with fail
          go_step3
          refine Or.inr ?_
          refine Exists.intro _ (And.intro rfl ?_)
          go_wp2_with fail
          (try rw [Exit.jumps_ret])
          (try simp +zetaDelta only [])
          go_ret2
          exact ret_no HN.out HG.out
        · have b2 : ((i : Int) == f) = false := by rw [beq_eq_false_iff_ne]; omega
          have HS2 := Lib.hid (HS.out.set2 (.string (q.extract f i)))
          have HTX := Lib.hid (extract_text q f i)
          have HN := Lib.hid (show terms q = some (L ++ [⟨tr, kd, q.extract f i⟩]) from HBE.out _ (by
            rw [HT.out, show q.data.toList.drop f = (q.data.toList.drop f).take (i - f) from (List.take_of_length_le (by rw [List.length_drop]; have := HQL.out; omega)).symm, fin_end H32.out (take_some hfi hin hif), ← HTX.out]; rfl))
          clear hif hie
          go_wp2_with (at_builtin; refine app_R (base := w.heap.size) (by rfl) _ _ 63 (by rfl) 68 i0 _ 3 32 Tryz.underlying63 hi0 iz0 iz1 iz2 (by rfl) (by decide) (.slice la L.length lc) L.length (L.flatMap termC) (by rfl) _ HS2.out.row HS2.out.grow.size (termC ⟨tr, kd, q.extract f i⟩) rfl (termC_one _) ?_ ?_ (by decide) ?_; (first | rfl | (simp; done) | (simp; rfl)); omega; intro v' w4 ra; have HS4 := Lib.hid (HS2.out.app ra); obtain ⟨va, vc, e3, -⟩ := ra.1.slice; subst e3; clear ra)
          go_wp2_with fail
          (try rw [Exit.jumps_ret])
          (try simp +zetaDelta only [])
          go_ret2
          exact ret_some HN.out HS4.out.grow HS4.out.row
end Go.Proofs.YtgpjcgcecahddaaGreatDoor
set_option linter.unusedVariables false
set_option linter.unusedSimpArgs false
namespace Go.Proofs.YtgpjcgcecahddaaGreatDoor
open Go.RowKit Go.Lib
theorem Terms.grow {w W : World} {v : Value} {l : List Term} (h : Terms w v l) (g : Grow w W) : Terms W v l := Reads.grow (w := w) (W := W) (fun _ _ h => h) h g
theorem Terms.at {w : World} {a : Option Addr} {n c : Nat} {l : List Term} (h : Terms w (.slice a n c) l) {i : Nat} {x : Term} (hx : l[i]? = some x) :
    ∃ b off, a = some ⟨b, off, none⟩ ∧ b < w.heap.size ∧ w.cell? ⟨b, off + i * 3, none⟩ = some (.bool x.turned) ∧ w.cell? ⟨b, off + i * 3 + 1, none⟩ = some (.int .i64 x.kind) ∧ w.cell? ⟨b, off + i * 3 + 2, none⟩ = some (.string x.text) := by
  obtain ⟨b, off, e, hb, cs, h1, h2, h3⟩ := Reads.at h hx
  exact ⟨b, off, e, hb, h3 0 _ (by rw [h2]; rfl), h3 1 _ (by rw [h2]; rfl), h3 2 _ (by rw [h2]; rfl)⟩
set_option maxRecDepth 100000 in
theorem indexTerms (v : Value) (l : List Term) (g : Nat) (lb : Array Value) (p : Term → Bool) (w : World) (h : Terms w v l) (hz : l.length ≤ 1000000000) (eg : ∀ args w, (callFunc g args).run Tryz.prog w = .ok (.enter g args) w)
    (hp : ∀ W x, Grow w W → x ∈ l → Calls Tryz.prog g (#[.agg #[.bool x.turned, .int .i64 x.kind, .string x.text]] ++ lb) W fun e w' => e = .returned (.bool (p x)) ∧ Grow W w') :
    Calls Tryz.prog 71 #[v, .func (.func g) #[] lb] w fun e w' => e = .returned (.int .i64 (idx p l)) ∧ Grow w w' := by
  obtain ⟨a, c, rfl⟩ := h.mk
  have HP := Lib.hid hp
  clear hp
  go_enter Tryz.func71, Tryz.ntmps71
  go_wp2
  go_loopw [5, 8] (fun v5 v8 wx => Grow w wx ∧ ∃ i : Nat, v8 = .int .i64 i ∧ i ≤ l.length ∧ ∀ (j : Nat) x, j < i → l[j]? = some x → p x = false) (fun _ v8 _ => l.length - (Go.RowKit.intOf v8).toNat)
  case atStart => exact ⟨Grow.refl _, 0, rfl, by omega, fun j _ h => absurd h (by omega)⟩
  case round =>
    obtain ⟨hg, i, rfl, hi, hall⟩ := hrel
    have HA := Lib.hid hall
    clear hall
    by_cases hlt : i < l.length
    · have hlt' : (i : Int) < l.length := by omega
      obtain ⟨x, hx, -⟩ := lt_get hlt
      obtain ⟨b, off, rfl, -, q0, q1, q2⟩ := (Terms.grow h hg).at hx
      have cP := HP.out wr x hg (List.mem_of_getElem? hx)
      have HX := Lib.hid hx
      clear hx h HP
      cases hpx : p x
      · rw [hpx] at cP
        have HPX := Lib.hid hpx
        clear hpx
        go_wp2_with fail
        refine cP.mono ?_
        rintro e w1 ⟨rfl, g1⟩
        go_wp2_with fail
        go_roundw
        case rel => exact ⟨hg.trans g1, i + 1, by go_num, by omega, fun j y hj h1 => by
          rcases (by omega : j < i ∨ j = i) with h3 | rfl
          · exact HA.out j y h3 h1
          · rw [HX.out] at h1; injection h1 with h1; rw [← h1]; exact HPX.out⟩
        case measure => simp [Go.RowKit.intOf]; omega
      · rw [hpx] at cP
        have HR := Lib.hid (idx_some HX.out hpx HA.out)
        clear hpx
        go_wp2_with fail
        refine cP.mono ?_
        rintro e w1 ⟨rfl, g1⟩
        go_wp2_with fail
        go_ret
        exact ⟨ret_int HR.out.symm, hg.trans g1⟩
    · have HR := Lib.hid (idx_none (p := p) (l := l) (fun j x hx => HA.out j x (by have := (List.getElem?_eq_some_iff.1 hx).1; omega) hx))
      have hlt' : ¬ (i : Int) < l.length := by omega
      clear h HP
      go_wp2_with fail
      go_ret
      exact ⟨ret_int HR.out.symm, hg⟩
set_option maxRecDepth 100000 in
theorem containsTerms (v : Value) (l : List Term) (g : Nat) (lb : Array Value) (p : Term → Bool) (w : World) (h : Terms w v l) (hz : l.length ≤ 1000000000) (eg : ∀ args w, (callFunc g args).run Tryz.prog w = .ok (.enter g args) w)
    (hp : ∀ W x, Grow w W → x ∈ l → Calls Tryz.prog g (#[.agg #[.bool x.turned, .int .i64 x.kind, .string x.text]] ++ lb) W fun e w' => e = .returned (.bool (p x)) ∧ Grow W w') :
    Calls Tryz.prog 36 #[v, .func (.func g) #[] lb] w fun e w' => e = .returned (.bool (l.any p)) ∧ Grow w w' := by
  have cI := indexTerms v l g lb p w h hz eg hp
  have HR := Lib.hid (idx_any p l)
  obtain ⟨a, c, rfl⟩ := h.mk
  have hbd := idx_bd p l
  generalize idx p l = i at *
  clear h hp
  by_cases hi : 0 ≤ i
  · go_enter Tryz.func36, Tryz.ntmps36
    go_wp2_with fail
    refine cI.mono ?_
    rintro e w1 ⟨rfl, g1⟩
    go_wp2_with fail
    go_ret
    exact ⟨by rw [← HR.out]; first | rfl | exact ret_bool (by simp [hi]), g1⟩
  · go_enter Tryz.func36, Tryz.ntmps36
    go_wp2_with fail
    refine cI.mono ?_
    rintro e w1 ⟨rfl, g1⟩
    go_wp2_with fail
    go_ret
    exact ⟨by rw [← HR.out]; first | rfl | exact ret_bool (by simp [hi]), g1⟩
set_option maxRecDepth 100000 in
theorem containsTexts (v : Value) (l : List ByteArray) (g : Nat) (lb : Array Value) (p : ByteArray → Bool) (w : World) (h : Texts w v l) (hz : l.length ≤ 1000000000) (eg : ∀ args w, (callFunc g args).run Tryz.prog w = .ok (.enter g args) w)
    (hp : ∀ W x, Grow w W → x ∈ l → Calls Tryz.prog g (#[.string x] ++ lb) W fun e w' => e = .returned (.bool (p x)) ∧ Grow W w') :
    Calls Tryz.prog 75 #[v, .func (.func g) #[] lb] w fun e w' => e = .returned (.bool (l.any p)) ∧ Grow w w' := by
  have cI := indexTexts v l g lb p w h hz eg hp
  have HR := Lib.hid (idx_any p l)
  obtain ⟨a, c, rfl⟩ := h.mk
  have hbd := idx_bd p l
  generalize idx p l = i at *
  clear h hp
  by_cases hi : 0 ≤ i
  · go_enter Tryz.func75, Tryz.ntmps75
    go_wp2_with fail
    refine cI.mono ?_
    rintro e w1 ⟨rfl, g1⟩
    go_wp2_with fail
    go_ret
    exact ⟨by rw [← HR.out]; first | rfl | exact ret_bool (by simp [hi]), g1⟩
  · go_enter Tryz.func75, Tryz.ntmps75
    go_wp2_with fail
    refine cI.mono ?_
    rintro e w1 ⟨rfl, g1⟩
    go_wp2_with fail
    go_ret
    exact ⟨by rw [← HR.out]; first | rfl | exact ret_bool (by simp [hi]), g1⟩
set_option maxRecDepth 100000 in
theorem containsBooks (v : Value) (l : List Book) (g : Nat) (lb : Array Value) (p : Book → Bool) (w : World) (h : Books w v l) (hz : l.length ≤ 1000000000) (eg : ∀ args w, (callFunc g args).run Tryz.prog w = .ok (.enter g args) w)
    (hp : ∀ W x, Grow w W → x ∈ l → Calls Tryz.prog g (#[bookV x] ++ lb) W fun e w' => e = .returned (.bool (p x)) ∧ Grow W w') :
    Calls Tryz.prog 73 #[v, .func (.func g) #[] lb] w fun e w' => e = .returned (.bool (l.any p)) ∧ Grow w w' := by
  have cI := indexBooks v l g lb p w h hz eg hp
  have HR := Lib.hid (idx_any p l)
  obtain ⟨a, c, rfl⟩ := h.mk
  have hbd := idx_bd p l
  generalize idx p l = i at *
  clear h hp
  by_cases hi : 0 ≤ i
  · go_enter Tryz.func73, Tryz.ntmps73
    go_wp2_with fail
    refine cI.mono ?_
    rintro e w1 ⟨rfl, g1⟩
    go_wp2_with fail
    go_ret
    exact ⟨by rw [← HR.out]; first | rfl | exact ret_bool (by simp [hi]), g1⟩
  · go_enter Tryz.func73, Tryz.ntmps73
    go_wp2_with fail
    refine cI.mono ?_
    rintro e w1 ⟨rfl, g1⟩
    go_wp2_with fail
    go_ret
    exact ⟨by rw [← HR.out]; first | rfl | exact ret_bool (by simp [hi]), g1⟩
set_option maxRecDepth 100000 in
theorem so1_any (x : Book) (q : Int) (t : ByteArray) (b : Book) (BN BT : Nat) (w : World) (hn : BN < w.heap.size) (ht : BT < w.heap.size) (h1 : w.cell? ⟨BN, 1, none⟩ = some (.int .i64 q)) (h2 : w.cell? ⟨BT, 2, none⟩ = some (.string t)) :
    Calls Tryz.prog 74 #[bookV x, .pointer (some ⟨BN, 0, none⟩), .pointer (some ⟨BT, 0, none⟩)] w fun e w' => e = .returned (.bool (x.id == q && x.name.toList == t.toList)) ∧ Grow w w' := by
  unfold bookV
  cases h3 : (x.id == q)
  · go_enter Tryz.func74, Tryz.ntmps74
    go_wp2_with fail
    go_ret
    exact ⟨rfl, (Grow.refl w).alloc _⟩
  · go_enter Tryz.func74, Tryz.ntmps74
    go_wp2_with fail
    go_ret
    exact ⟨rfl, (Grow.refl w).alloc _⟩
set_option maxRecDepth 100000 in
theorem so2_any (x t : ByteArray) (BT : Nat) (w : World) (ht : BT < w.heap.size) (h2 : w.cell? ⟨BT, 2, none⟩ = some (.string t)) :
    Calls Tryz.prog 76 #[.string x, .pointer (some ⟨BT, 0, none⟩)] w fun e w' => e = .returned (.bool (begins x t)) ∧ Grow w w' := by
  have c := prefix_any x t
  go_enter Tryz.func76, Tryz.ntmps76
  go_wp2_with fail
  refine (c _).mono ?_
  rintro e w1 ⟨rfl, rfl⟩
  go_wp2_with fail
  go_ret
  exact ⟨ret_bool (by unfold begins; simp), Grow.refl _⟩
set_option maxRecDepth 100000 in
set_option maxHeartbeats 4000000 in
theorem so_any (s : Shelf) (bv nv : Value) (n : Note) (tv sv : Value) (t : Term) (w : World) (h : ShelfR w s bv nv) (htg : Texts w tv n.tags) (hsv : ∃ a c k, sv = .slice a c k) (hm : MaxL w) (h1 : s.books.length ≤ 1000000) (h2 : n.tags.length ≤ 1000000) (h3 : n.name.size ≤ 500000) :
    Calls Tryz.prog 38 #[.agg #[.bool t.turned, .int .i64 t.kind, .string t.text], shelfV s bv nv, noteV n tv sv] w fun e w' => e = .returned (.bool (soB s n t)) ∧ Grow w w' := by
  obtain ⟨tr, kd, tt⟩ := t
  obtain ⟨a1, c1, rfl⟩ := h.1.mk
  obtain ⟨a2, c2, rfl⟩ := h.2.mk
  obtain ⟨ta, tc, rfl⟩ := htg.mk
  obtain ⟨sa, sn, sc, rfl⟩ := hsv
  have HX := Lib.hid (three_boxes w (.cells #[.bool tr, .int .i64 kd, .string tt] 68) (shB s (.slice a1 s.books.length c1) (.slice a2 s.notes.length c2)) (.cells #[.int .i64 n.id, .int .i64 n.book, .string n.name, .slice ta n.tags.length tc, .slice sa sn sc] 54))
  have HH := Lib.hid h
  have HT := Lib.hid htg
  clear h htg
  unfold shelfV noteV
  go_enter Tryz.func38, Tryz.ntmps38
  go_upto_region 1 with (fail)
  generalize hV : ((w.alloc (.cells #[.bool tr, .int .i64 kd, .string tt] 68)).alloc (.cells #[.int .i64 s.nb, .int .i64 s.nn, .int .i64 s.ns, .slice a1 s.books.length c1, .slice a2 s.notes.length c2] 25)).alloc (.cells #[.int .i64 n.id, .int .i64 n.book, .string n.name, .slice ta n.tags.length tc, .slice sa sn sc] 54) = V
  have gV : Grow w V := by rw [← hV]; exact (((Grow.refl w).alloc _).alloc _).alloc _
  have HB1 : Hid (V.heap[w.heap.size]? = some (.cells #[.bool tr, .int .i64 kd, .string tt] 68 (0, 0))) := by rw [← hV]; exact Lib.hid HX.out.1
  have HB2 : Hid (V.heap[w.heap.size + 1]? = some (shB s (.slice a1 s.books.length c1) (.slice a2 s.notes.length c2))) := by rw [← hV]; exact Lib.hid HX.out.2.1
  have HB3 : Hid (V.heap[w.heap.size + 2]? = some (.cells #[.int .i64 n.id, .int .i64 n.book, .string n.name, .slice ta n.tags.length tc, .slice sa sn sc] 54 (0, 0))) := by rw [← hV]; exact Lib.hid HX.out.2.2
  have HMV := Lib.hid (hm.grow gV)
  have HTV := Lib.hid (HT.out.grow gV)
  have HBV := Lib.hid (HH.out.1.grow gV)
  clear hV HX hm
  obtain ⟨⟨p0, p1, p2, p3, p4⟩, pz⟩ := n5 HB2.out
  obtain ⟨⟨q0, q1, q2, q3, q4⟩, qz⟩ := n5 HB3.out
  have r0 : V.cell? ⟨w.heap.size, 0, none⟩ = some (.bool tr) := (cell_of_row V _ 0 _ _ _ HB1.out).trans rfl
  have r1 : V.cell? ⟨w.heap.size, 1, none⟩ = some (.int .i64 kd) := (cell_of_row V _ 1 _ _ _ HB1.out).trans rfl
  have r2 : V.cell? ⟨w.heap.size, 2, none⟩ = some (.string tt) := (cell_of_row V _ 2 _ _ _ HB1.out).trans rfl
  have rz : w.heap.size < V.heap.size := (Array.getElem?_eq_some_iff.1 HB1.out).1
  by_cases k1 : kd = 1
  · have b1 : (kd == 1) = true := by rw [beq_iff_eq]; exact k1
    have HR := Lib.hid (show soB s n ⟨tr, kd, tt⟩ = (hasT tt n.tags != tr) by subst k1; rfl)
    have c := hasText_any _ n.tags tt V HTV.out h2
    clear k1
    go_wp2_with fail
    refine c.mono ?_
    rintro e w1 ⟨rfl, rfl⟩
    go_wp2_with fail
    go_ret
    exact ⟨ret_bool (by rw [HR.out]; first | rfl | simp), gV⟩
  have b1 : (kd == 1) = false := by rw [beq_eq_false_iff_ne]; exact k1
  by_cases k2 : kd = 2
  · have b2 : (kd == 2) = true := by rw [beq_iff_eq]; exact k2
    have HR := Lib.hid (show soB s n ⟨tr, kd, tt⟩ = (s.books.any (bookB n tt) != tr) by subst k2; rfl)
    have c := containsBooks _ s.books 74 #[.pointer (some ⟨w.heap.size + 2, 0, none⟩), .pointer (some ⟨w.heap.size, 0, none⟩)] (bookB n tt) V HBV.out (by omega) (fun _ _ => rfl)
      (fun W x g _ => so1_any x n.book tt x (w.heap.size + 2) w.heap.size W (Nat.lt_of_lt_of_le qz g.size) (Nat.lt_of_lt_of_le rz g.size) ((g.cells _ _ qz).trans q1) ((g.cells _ _ rz).trans r2))
    clear k1 k2
    go_wp2_with fail
    refine c.mono ?_
    rintro e w1 ⟨rfl, g1⟩
    have r0' := (g1.cells _ 0 rz).trans r0
    have rz' := Nat.lt_of_lt_of_le rz g1.size
    have HG := Lib.hid (gV.trans g1)
    clear c p0 p1 p2 p3 p4 q0 q1 q2 q3 q4 r0 r1 r2
    go_wp2_with fail
    go_ret
    exact ⟨ret_bool (by rw [HR.out]; first | rfl | simp), HG.out⟩
  have b2 : (kd == 2) = false := by rw [beq_eq_false_iff_ne]; exact k2
  have HR := Lib.hid (show soB s n ⟨tr, kd, tt⟩ = ((words n.name).any (fun x => begins x tt) != tr) by unfold soB isB; rw [if_neg k1, if_neg k2])
  have c := words_any n.name V HMV.out h3
  have hwl : (words n.name).length ≤ 1000000 := words_few n.name h3
  clear k1 k2
  go_wp2_with fail
  refine c.mono ?_
  rintro e w1 ⟨v1, rfl, hr1, g1⟩
  have r0' := (g1.cells _ 0 rz).trans r0
  have r2' := (g1.cells _ 2 rz).trans r2
  have rz' := Nat.lt_of_lt_of_le rz g1.size
  have c2 := containsTexts v1 (words n.name) 76 #[.pointer (some ⟨w.heap.size, 0, none⟩)] (fun x => begins x tt) w1 (row_texts hr1) (by omega) (fun _ _ => rfl)
    (fun W x g _ => so2_any x tt w.heap.size W (Nat.lt_of_lt_of_le rz' g.size) ((g.cells _ _ rz').trans r2'))
  obtain ⟨va, vc, e1, -⟩ := hr1.slice
  subst e1
  have HG := Lib.hid (gV.trans g1)
  clear c p0 p1 p2 p3 p4 q0 q1 q2 q3 q4 r0 r1 r2 hr1 g1
  go_wp2_with fail
  refine c2.mono ?_
  rintro e w2 ⟨rfl, g2⟩
  have r0 := (g2.cells _ 0 rz').trans r0'
  have rz'' := Nat.lt_of_lt_of_le rz' g2.size
  have HG2 := Lib.hid (HG.out.trans g2)
  clear c2 r0' r2' g2
  go_wp2_with fail
  go_ret
  exact ⟨ret_bool (by rw [HR.out]; first | rfl | simp), HG2.out⟩
set_option maxRecDepth 100000 in
theorem mayQ_any (q : ByteArray) (w : World) (hq : q.size ≤ 1000000) : Calls Tryz.prog 23 #[.string q] w fun e w' => e = .returned (.bool (terms q).isSome) ∧ Grow w w' := by
  have c := terms_any q w hq
  go_enter Tryz.func23, Tryz.ntmps23
  go_wp2_with fail
  refine c.mono ?_
  rintro e w1 ⟨g1, h⟩
  cases ht : terms q with
  | none =>
    rw [ht] at h
    subst h
    have HT := Lib.hid ht
    clear c ht
    go_wp2_with fail
    go_ret
    exact ⟨ret_bool (by rw [HT.out]; rfl), g1⟩
  | some l =>
    rw [ht] at h
    obtain ⟨v, rfl, hr⟩ := h
    obtain ⟨va, vc, rfl, -⟩ := hr.slice
    have HT := Lib.hid ht
    clear c ht hr
    go_wp2_with fail
    go_ret
    exact ⟨ret_bool (by rw [HT.out]; rfl), g1⟩
end Go.Proofs.YtgpjcgcecahddaaGreatDoor
set_option linter.unusedVariables false
set_option linter.unusedSimpArgs false
namespace Go.Proofs.YtgpjcgcecahddaaGreatDoor
open Go.RowKit Go.Lib Go.Sort
/-- Three ways, of numbers. -/
def cmpN (a b : Int) : Int := if a < b then -1 else if b < a then 1 else 0
/-- The first one that is not zero. -/
def or2 (a b : Int) : Int := if a = 0 then b else a
def cmp2 (x y : Item) : Int := or2 (cmpS x.name y.name) (cmpN x.id y.id)
theorem lt2_total {a b : Item} (h : lt2 a b = false) (g : lt2 b a = false) : a = b := by
  unfold lt2 at *
  rw [Bool.or_eq_false_iff, Bool.and_eq_false_iff] at h g
  have e := ltS_total h.1 g.1
  have h2 : ¬ a.id < b.id := by
    rcases h.2 with h | h
    · rw [e] at h; simp at h
    · simpa using h
  have g2 : ¬ b.id < a.id := by
    rcases g.2 with g | g
    · rw [e] at g; simp at g
    · simpa using g
  cases a; cases b
  simp only [Item.mk.injEq]
  exact ⟨by simp at h2 g2; omega, e⟩
theorem ltOf_item2 (a b : Item) : ltOf (fun x y : Item => cmp2 x y) a b = lt2 a b := by
  unfold ltOf cmp2 or2 lt2 cmpS cmpN
  cases h1 : ltS a.name b.name
  · cases h2 : ltS b.name a.name
    · have e := ltS_total h1 h2
      by_cases h3 : a.id < b.id
      · simp [h1, h2, e, h3, ltS_irrefl]
      · by_cases h4 : b.id < a.id
        · simp [h1, h2, e, h3, h4, ltS_irrefl]
        · simp [h1, h2, e, h3, h4, ltS_irrefl]
    · have e : (a.name.toList == b.name.toList) = false := by
        rw [beq_eq_false_iff_ne]; intro e
        rw [eq_of_tl e, ltS_irrefl] at h2; cases h2
      simp [h1, h2, e]
  · simp [h1]
theorem item_swo2 : SWO (ltOf (fun x y : Item => cmp2 x y)) :=
  ⟨fun x => by rw [ltOf_item2]; exact lt2_irrefl _, fun x y z h1 h2 => by rw [ltOf_item2] at *; exact lt2_trans h1 h2, fun x y z h1 h2 => by
    rw [ltOf_item2] at *
    cases h : lt2 x z with
    | false => rfl
    | true =>
      cases h3 : lt2 y x with
      | true => rw [lt2_trans h3 h] at h2; cases h2
      | false =>
        have := lt2_total h1 h3
        subst this
        rw [h] at h2; cases h2⟩
set_option maxRecDepth 100000 in
theorem nanI_any (a : Int) (w : World) : Calls Tryz.prog 81 #[.int .i64 a] w fun e w' => e = .returned (.bool false) ∧ w = w' := by
  go_enter Tryz.func81, Tryz.ntmps81
  go_wp2_with fail
  go_ret
  exact ⟨ret_bool (by simp), rfl⟩
set_option maxRecDepth 100000 in
theorem cmpN_any (a b : Int) (w : World) : Calls Tryz.prog 43 #[.int .i64 a, .int .i64 b] w fun e w' => e = .returned (.int .i64 (cmpN a b)) ∧ w = w' := by
  have c1 := nanI_any a
  have c2 := nanI_any b
  by_cases h1 : a < b
  · have HR := Lib.hid (show cmpN a b = -1 by unfold cmpN; rw [if_pos h1])
    go_enter Tryz.func43, Tryz.ntmps43
    go_wp2_with fail
    refine (c1 _).mono ?_
    rintro e w1 ⟨rfl, rfl⟩
    go_wp2_with fail
    refine (c2 _).mono ?_
    rintro e w1 ⟨rfl, rfl⟩
    go_wp2_with fail
    go_ret
    exact ⟨ret_int HR.out.symm, rfl⟩
  · by_cases h2 : b < a
    · have HR := Lib.hid (show cmpN a b = 1 by unfold cmpN; rw [if_neg h1, if_pos h2])
      go_enter Tryz.func43, Tryz.ntmps43
      go_wp2_with fail
      refine (c1 _).mono ?_
      rintro e w1 ⟨rfl, rfl⟩
      go_wp2_with fail
      refine (c2 _).mono ?_
      rintro e w1 ⟨rfl, rfl⟩
      go_wp2_with fail
      go_ret
      exact ⟨ret_int HR.out.symm, rfl⟩
    · have HR := Lib.hid (show cmpN a b = 0 by unfold cmpN; rw [if_neg h1, if_neg h2])
      go_enter Tryz.func43, Tryz.ntmps43
      go_wp2_with fail
      refine (c1 _).mono ?_
      rintro e w1 ⟨rfl, rfl⟩
      go_wp2_with fail
      refine (c2 _).mono ?_
      rintro e w1 ⟨rfl, rfl⟩
      go_wp2_with fail
      go_ret
      exact ⟨ret_int HR.out.symm, rfl⟩
set_option maxRecDepth 100000 in
theorem or_any (v : Value) (a b : Int) (w : World) (h : Ints w v [a, b]) : Calls Tryz.prog 41 #[v] w fun e w' => e = .returned (.int .i64 (or2 a b)) ∧ w = w' := by
  obtain ⟨o, c, rfl⟩ := h.mk
  obtain ⟨bb, off, rfl, hb, c0⟩ := h.at (i := 0) (x := a) rfl
  obtain ⟨bb', off', e', -, c1⟩ := h.at (i := 1) (x := b) rfl
  injection e' with e'
  injection e' with e1 e2
  subst e1 e2
  rw [Nat.add_zero] at c0
  clear h
  by_cases h1 : a = 0
  · have b1 : (a != 0) = false := by subst h1; rfl
    have HR := Lib.hid (show or2 a b = b from if_pos h1)
    by_cases h2 : b = 0
    · have b2 : (b != 0) = false := by subst h2; rfl
      have HB := Lib.hid h2
      clear h1 h2
      go_enter Tryz.func41, Tryz.ntmps41
      go_wp2_with fail
      go_loop [5, 8] (fun v5 v8 => ∃ i : Nat, v8 = .int .i64 i ∧ i ≤ 2) (fun _ v8 => 2 - (Go.RowKit.intOf v8).toNat)
      case atStart => exact ⟨0, rfl, by omega⟩
      case round =>
        obtain ⟨i, rfl, hi⟩ := hrel
        rcases (by omega : i = 0 ∨ i = 1 ∨ i = 2) with rfl | rfl | rfl
        · go_wp2_with fail
          go_round
          case rel => exact ⟨1, rfl, by omega⟩
          case measure => simp [Go.RowKit.intOf]
        · go_wp2_with fail
          go_round
          case rel => exact ⟨2, rfl, by omega⟩
          case measure => simp [Go.RowKit.intOf]
        · go_wp2_with fail
          go_ret
          exact ⟨ret_int (by rw [HR.out, HB.out]), rfl⟩
    · have b2 : (b != 0) = true := by simpa using h2
      clear h1 h2
      go_enter Tryz.func41, Tryz.ntmps41
      go_wp2_with fail
      go_loop [5, 8] (fun v5 v8 => ∃ i : Nat, v8 = .int .i64 i ∧ i ≤ 1) (fun _ v8 => 2 - (Go.RowKit.intOf v8).toNat)
      case atStart => exact ⟨0, rfl, by omega⟩
      case round =>
        obtain ⟨i, rfl, hi⟩ := hrel
        rcases (by omega : i = 0 ∨ i = 1) with rfl | rfl
        · go_wp2_with fail
          go_round
          case rel => exact ⟨1, rfl, by omega⟩
          case measure => simp [Go.RowKit.intOf]
        · go_wp2_with fail
          go_ret
          exact ⟨ret_int HR.out.symm, rfl⟩
  · have b1 : (a != 0) = true := by simpa using h1
    have HR := Lib.hid (show or2 a b = a from if_neg h1)
    clear h1
    go_enter Tryz.func41, Tryz.ntmps41
    go_wp2_with fail
    go_loop [5, 8] (fun v5 v8 => v8 = .int .i64 0) (fun _ _ => 0)
    case atStart => exact rfl
    case round =>
      obtain rfl := hrel
      go_wp2_with fail
      go_ret
      exact ⟨ret_int HR.out.symm, rfl⟩
set_option maxRecDepth 100000 in
set_option maxHeartbeats 2000000 in
theorem find2_any (x y : Item) (w : World) : Calls Tryz.prog 40 #[.agg #[.int .i64 x.id, .string x.name], .agg #[.int .i64 y.id, .string y.name]] w fun e w' => e = .returned (.int .i64 (cmp2 x y)) ∧ ∃ q os, w' = grow (w.drewN q) os := by
  have c1 := cmpS_any x.name y.name
  have c2 := cmpN_any x.id y.id
  have HX := Lib.hid (two_boxes2 w (.cells #[.int .i64 x.id, .string x.name] 50) (.cells #[.int .i64 y.id, .string y.name] 50))
  have HW := Lib.hid (show ((w.alloc (.cells #[.int .i64 x.id, .string x.name] 50)).alloc (.cells #[.int .i64 y.id, .string y.name] 50)) = grow w (#[.cells #[.int .i64 x.id, .string x.name] 50] ++ #[.cells #[.int .i64 y.id, .string y.name] 50]) by rw [alloc_eq_grow, alloc_eq_grow, grow_grow])
  have HR := Lib.hid (show or2 (cmpS x.name y.name) (cmpN x.id y.id) = cmp2 x y from rfl)
  go_enter Tryz.func40, Tryz.ntmps40
  go_upto_region 1 with (fail)
  generalize hV : (w.alloc (.cells #[.int .i64 x.id, .string x.name] 50)).alloc (.cells #[.int .i64 y.id, .string y.name] 50) = V
  have H1 : Hid (V.heap[w.heap.size]? = some (.cells #[.int .i64 x.id, .string x.name] 50 (0, 0))) := by rw [← hV]; exact Lib.hid HX.out.1
  have H2 : Hid (V.heap[w.heap.size + 1]? = some (.cells #[.int .i64 y.id, .string y.name] 50 (0, 0))) := by rw [← hV]; exact Lib.hid HX.out.2
  rw [hV] at HW
  clear hV HX
  have q0 : V.cell? ⟨w.heap.size, 0, none⟩ = some (.int .i64 x.id) := (cell_of_row V _ 0 _ _ _ H1.out).trans rfl
  have q1 : V.cell? ⟨w.heap.size, 1, none⟩ = some (.string x.name) := (cell_of_row V _ 1 _ _ _ H1.out).trans rfl
  have r0 : V.cell? ⟨w.heap.size + 1, 0, none⟩ = some (.int .i64 y.id) := (cell_of_row V _ 0 _ _ _ H2.out).trans rfl
  have r1 : V.cell? ⟨w.heap.size + 1, 1, none⟩ = some (.string y.name) := (cell_of_row V _ 1 _ _ _ H2.out).trans rfl
  have s0 : V.drew.cell? ⟨w.heap.size, 0, none⟩ = some (.int .i64 x.id) ∧ V.drew.cell? ⟨w.heap.size, 1, none⟩ = some (.string x.name) ∧ V.drew.cell? ⟨w.heap.size + 1, 0, none⟩ = some (.int .i64 y.id) ∧ V.drew.cell? ⟨w.heap.size + 1, 1, none⟩ = some (.string y.name) := ⟨q0, q1, r0, r1⟩
  generalize hcs : cmpS x.name y.name = cs at *
  generalize hcn : cmpN x.id y.id = cn at *
  have cO := or_any (.slice (some ⟨V.heap.size, 0, none⟩) 2 2) cs cn (V.drew.alloc (.cells #[.int .i64 cs, .int .i64 cn] 3)) (lit_reads (R := IntR) (fun n : Int => [.int .i64 n]) (fun _ => rfl) V.drew [cs, cn] 3 (fun _ => rfl))
  clear hcs hcn
  go_region_held3 (fun W => W.cell? ⟨w.heap.size, 0, none⟩ = some (.int .i64 x.id) ∧ W.cell? ⟨w.heap.size, 1, none⟩ = some (.string x.name) ∧ W.cell? ⟨w.heap.size + 1, 0, none⟩ = some (.int .i64 y.id) ∧ W.cell? ⟨w.heap.size + 1, 1, none⟩ = some (.string y.name)) (first | with_reducible exact s0 | go_keep)
    (first
      | (go_at_call 42; refine (c1 _).mono ?_; rintro e w3 ⟨rfl, rfl⟩)
      | (go_at_call 43; refine (c2 _).mono ?_; rintro e w3 ⟨rfl, rfl⟩)
      | (go_at_call 41; refine cO.mono ?_; rintro e w3 ⟨rfl, rfl⟩))
  all_goals
    go_wp2_with fail
    go_ret
    refine ⟨ret_int HR.out, 1, (#[.cells #[.int .i64 x.id, .string x.name] 50] ++ #[.cells #[.int .i64 y.id, .string y.name] 50]) ++ #[.cells #[.int .i64 cs, .int .i64 cn] 3], ?_⟩
    rw [HW.out, ← grow_grow, alloc_eq_grow]; rfl
set_option maxRecDepth 100000 in
theorem sortItems2_any (base : Nat) (v : Value) (l : List Item) (w : World) (h : RowO base 50 2 v l.length (l.flatMap itemC) w) (hz : l.length ≤ 1000000) :
    Calls Tryz.prog 39 #[v, .func (.func 40) #[] #[]] w fun e w' => e = .returned (.tuple #[]) ∧ ∃ l' : List Item, l'.Perm l ∧ l'.Pairwise (fun a b => lt2 b a = false) ∧ RowO base 50 2 v l'.length (l'.flatMap itemC) w' ∧ w.grownBy w' (blkOf v) := by
  obtain ⟨a, c, rfl, hc⟩ := h.slice
  by_cases h0 : l.length = 0
  · have hl : l = [] := List.eq_nil_of_length_eq_zero h0
    subst hl
    refine (AnyF.slices_SortFunc_none Tryz.sortItems a c (.func (.func 40) #[] #[]) w).mono ?_
    rintro e w' ⟨rfl, rfl⟩
    exact ⟨rfl, [], .nil, .nil, h, World.grownBy.refl _ _⟩
  · obtain ⟨b, cc, hbc⟩ : ∃ b cc, (Value.slice a l.length c) = .slice (some ⟨b, 0, none⟩) l.length (cc + 1) := by
      obtain ⟨x, hx, -⟩ := lt_get (l := l) (i := 0) (by omega)
      obtain ⟨u, hu⟩ : ∃ u, (l.flatMap itemC)[0 * 2 + 0]? = some u := ⟨_, (flat_get itemC (fun _ => rfl) l 0 0 x hx (by decide)).trans rfl⟩
      obtain ⟨b, c', e, -⟩ := h.cell hu
      injection e with e1 e2 e3
      cases c with
      | zero => omega
      | succ c => exact ⟨b, c, by rw [e1]⟩
    injection hbc with e1 e2 e3
    subst e1 e3
    have hlt := h.blk_lt (g := b) rfl
    have hK : HoldsK itemC 2 w b 0 l.toArray := holds_of_row id (k := 2) (by rw [flatK_item, List.map_id]; exact h)
    have hcmp : CmpLays Tryz.prog 40 #[] itemC 2 (fun x y : Item => cmp2 x y) b 0 l.toArray.size w := fun m os dk _ x y => (find2_any x y _)
    have hS := AnyQ.slices_SortFunc Tryz.sortItems 2 (fun _ => by kernel_rfl) (fun _ => by kernel_rfl) itemC (fun _ => rfl) (fun x v hv => by simp at hv; rcases hv with rfl | rfl <;> rfl) (fun x y : Item => cmp2 x y) item_swo2 40 #[] b 0 (cc + 1) l.toArray w (fun _ _ => rfl) hcmp hK hlt (by simp; omega)
    rw [List.size_toArray] at hS
    refine hS.mono ?_
    rintro e w' ⟨rfl, d', m, os, ⟨hp1, -, hp3⟩, hs, rfl⟩
    rw [List.size_toArray] at hp1
    have hd : d' = d'.toList.toArray := by simp
    have hn : d'.toList.length = l.length := by simpa using hp1
    have hn2 : d'.size = l.length := hp1
    have hF : (flatK itemC 2 d').size = l.length * 2 := by rw [size_flatK, hn2]
    obtain ⟨r1, r2⟩ := row_sorted id (k := 2) h hlt (flatK itemC 2 d') hF m os
    refine ⟨rfl, d'.toList, ?_, ?_, ?_, ⟨r2.os, r2.tape, r2.output, r2.size, fun k hk hne => r2.block k hk fun e => hne (by rw [e]; rfl)⟩⟩
    · have h1 : d'.extract 0 l.length = d' := by rw [← hn2]; simp
      have h2 : l.toArray.extract 0 l.length = l.toArray := by simp
      rw [h1, h2] at hp3
      simpa using hp3
    · rw [List.pairwise_iff_getElem]
      intro i j hi hj hij
      have := hs i j (Nat.zero_le _) hij (by simpa using (show j < l.length by simpa [hn] using hj))
      have hi2 : i < d'.size := by simpa using hi
      have hj2 : j < d'.size := by simpa using hj
      have ei : d'[i]! = d'[i]'hi2 := by simp [hi2]
      have ej : d'[j]! = d'[j]'hj2 := by simp [hj2]
      rw [ltOf_item2, ei, ej] at this
      simpa using this
    · rw [hn]
      rw [List.map_id] at r1
      have e3 : (flatK itemC 2 d').toList = d'.toList.flatMap itemC := by rw [hd]; simpa using flatK_item d'.toList
      rw [← e3]
      exact r1
end Go.Proofs.YtgpjcgcecahddaaGreatDoor
set_option linter.unusedVariables false
set_option linter.unusedSimpArgs false
namespace Go.Proofs.YtgpjcgcecahddaaGreatDoor
open Go.RowKit Go.Lib
theorem name_small {s : Shelf} (p : MayP s) {n : Note} (hn : n ∈ s.notes) : n.name.size ≤ 500000 := by have := mayB_small (p.nmay n hn); omega
set_option maxRecDepth 100000 in
set_option maxHeartbeats 4000000 in
theorem find1_any (s : Shelf) (bv nv : Value) (n : Note) (tv sv : Value) (t : Term) (BS BN : Nat) (w : World) (h : ShelfR w s bv nv) (htg : Texts w tv n.tags) (hsv : ∃ a c k, sv = .slice a c k) (hm : MaxL w) (h1 : s.books.length ≤ 1000000) (h2 : n.tags.length ≤ 1000000) (h3 : n.name.size ≤ 500000)
    (hs : w.heap[BS]? = some (.cells #[.int .i64 s.nb, .int .i64 s.nn, .int .i64 s.ns, bv, nv] 25 (0, 0))) (hn : w.heap[BN]? = some (.cells #[.int .i64 n.id, .int .i64 n.book, .string n.name, tv, sv] 54 (0, 0))) :
    Calls Tryz.prog 37 #[.agg #[.bool t.turned, .int .i64 t.kind, .string t.text], .pointer (some ⟨BS, 0, none⟩), .pointer (some ⟨BN, 0, none⟩)] w fun e w' => e = .returned (.bool (!soB s n t)) ∧ Grow w w' := by
  obtain ⟨a1, c1, rfl⟩ := h.1.mk
  obtain ⟨a2, c2, rfl⟩ := h.2.mk
  obtain ⟨ta, tc, rfl⟩ := htg.mk
  obtain ⟨sa, sn, sc, rfl⟩ := hsv
  have g0 : Grow w (w.alloc (.cells #[.bool t.turned, .int .i64 t.kind, .string t.text] 68)) := (Grow.refl w).alloc _
  have c := so_any s _ _ n _ _ t _ (h.grow g0) (htg.grow g0) ⟨sa, sn, sc, rfl⟩ (hm.grow g0) h1 h2 h3
  obtain ⟨⟨p0, p1, p2, p3, p4⟩, pz⟩ := n5 hs
  obtain ⟨⟨q0, q1, q2, q3, q4⟩, qz⟩ := n5 hn
  unfold shelfV noteV at c
  clear h htg hs hn
  go_enter Tryz.func37, Tryz.ntmps37
  go_wp2_with fail
  refine c.mono ?_
  rintro e w1 ⟨rfl, g1⟩
  clear c
  go_wp2_with fail
  go_ret
  exact ⟨rfl, g0.trans g1⟩
theorem termsL_len : ∀ {ps : List (List UInt8)} {l : List Term}, termsL ps = some l → l.length = ps.length
  | [], l, h => by simp [termsL] at h; subst h; rfl
  | p :: ps, l, h => by
    rw [termsL] at h
    cases h1 : termL p with
    | none => rw [h1] at h; cases h
    | some t =>
      cases h2 : termsL ps with
      | none => rw [h1, h2] at h; cases h
      | some m =>
        rw [h1, h2] at h
        injection h with h; subst h
        rw [List.length_cons, List.length_cons, termsL_len h2]
theorem terms_len {q : ByteArray} {l : List Term} (h : terms q = some l) : l.length ≤ 201 := by
  unfold terms at h
  by_cases h1 : 200 < q.size
  · rw [if_pos h1] at h; cases h
  · rw [if_neg h1] at h
    by_cases h2 : q.size = 0
    · rw [if_pos h2] at h; injection h with h; subst h; simp
    · rw [if_neg h2] at h
      have h3 := termsL_len h
      have h4 := parts_len q.data.toList
      have h5 : q.data.toList.length = q.size := rfl
      omega
theorem all_any {l : List Term} {s : Shelf} {n : Note} : (l.any fun t => !soB s n t) = !(l.all (soB s n)) := by
  induction l with
  | nil => rfl
  | cons t l ih => rw [List.any_cons, List.all_cons, ih]; cases soB s n t <;> simp
theorem hits_next {s : Shelf} {l : List Term} {i : Nat} {n : Note} (hn : s.notes[i]? = some n) : ((s.notes.take (i + 1)).filter fun n => l.all (soB s n)).map itemOf = ((s.notes.take i).filter fun n => l.all (soB s n)).map itemOf ++ (if l.all (soB s n) then [itemOf n] else []) := by
  rw [filter_next hn, List.map_append]; split <;> rfl
set_option maxRecDepth 100000 in
set_option maxHeartbeats 4000000 in
theorem seekFind_any (s : Shelf) (bv nv : Value) (q : ByteArray) (w : World) (h : ShelfR w s bv nv) (hz : TameS s) (hT : Tabs w) (hm : MaxL w) (hq : q.size ≤ 1000000) :
    Calls Tryz.prog 12 #[shelfV s bv nv, .string q] w fun e w' => ∃ v, e = .returned (.tuple #[v, .int .i64 (findE s q)]) ∧ RetI (findI s q) w v w' := by
  obtain ⟨i0, hi0, hz0, hz1, hz2⟩ := info_parts info_item
  obtain ⟨a1, c1, rfl⟩ := h.1.mk
  obtain ⟨a2, c2, rfl⟩ := h.2.mk
  have HH := Lib.hid h
  have HTB := Lib.hid hT
  have HMX := Lib.hid hm
  have HZ := Lib.hid hz
  have HX := Lib.hid (heap_alloc_new w (shB s (.slice a1 s.books.length c1) (.slice a2 s.notes.length c2)))
  have hbl := hz.1.1
  have hnl := hz.1.2.1
  clear h hT hm hz
  unfold shelfV
  go_enter Tryz.func12, Tryz.ntmps12
  go_upto_region 1 with (fail)
  generalize hV : w.alloc (.cells #[.int .i64 s.nb, .int .i64 s.nn, .int .i64 s.ns, .slice a1 s.books.length c1, .slice a2 s.notes.length c2] 25) = V
  have gV : Grow w V := by rw [← hV]; exact (Grow.refl w).alloc _
  have HB : Hid (V.heap[w.heap.size]? = some (shB s (.slice a1 s.books.length c1) (.slice a2 s.notes.length c2))) := by rw [← hV]; exact HX
  clear hV HX
  have c := terms_any q V hq
  go_wp2_with fail
  refine c.mono ?_
  rintro e w1 ⟨g1, hr⟩
  have HG1 := Lib.hid (gV.trans g1)
  have HB1 := Lib.hid (g1.blk HB.out)
  have cM := mayS_any s _ _ w1 (HH.out.grow HG1.out) HZ.out (HTB.out.below HG1.out)
  unfold shelfV at cM
  obtain ⟨⟨p0, p1, p2, p3, p4⟩, pz⟩ := n5 HB1.out
  clear c gV g1 HB
  cases ht : terms q with
  | none =>
    have HQ := Lib.hid ht
    rw [ht] at hr
    subst hr
    clear ht
    cases hmy : mayS s with
    | false =>
      have HE := Lib.hid (show findE s q = 2 ∧ findI s q = [] by unfold findE findI; rw [hmy]; exact ⟨rfl, rfl⟩)
      rw [hmy] at cM
      clear hmy
      go_wp2_with fail
      refine cM.mono ?_
      rintro e w2 ⟨rfl, g2⟩
      have HG2 := Lib.hid (HG1.out.trans g2)
      clear cM p0 p1 p2 p3 p4 g2
      go_wp2_with fail
      go_ret2
      refine ⟨_, by rw [HE.out.1]; rfl, HG2.out, ?_⟩
      rw [HE.out.2]; exact RowO.nil
    | true =>
      have HE := Lib.hid (show findE s q = 5 ∧ findI s q = [] by unfold findE findI; rw [hmy, HQ.out]; exact ⟨rfl, rfl⟩)
      rw [hmy] at cM
      clear hmy
      go_wp2_with fail
      refine cM.mono ?_
      rintro e w2 ⟨rfl, g2⟩
      have HG2 := Lib.hid (HG1.out.trans g2)
      clear cM p0 p1 p2 p3 p4 g2
      go_wp2_with fail
      go_ret2
      refine ⟨_, by rw [HE.out.1]; rfl, HG2.out, ?_⟩
      rw [HE.out.2]; exact RowO.nil
  | some l =>
    have HQ := Lib.hid ht
    rw [ht] at hr
    obtain ⟨v1, rfl, hr1⟩ := hr
    clear ht
    obtain ⟨la, lc, e1, -⟩ := hr1.slice
    subst e1
    have HTM := Lib.hid (row_terms hr1)
    have hll : l.length ≤ 1000000 := by have := terms_len HQ.out; omega
    clear hr1
    cases hmy : mayS s with
    | false =>
      have HE := Lib.hid (show findE s q = 2 ∧ findI s q = [] by unfold findE findI; rw [hmy]; exact ⟨rfl, rfl⟩)
      rw [hmy] at cM
      clear hmy
      go_wp2_with fail
      refine cM.mono ?_
      rintro e w2 ⟨rfl, g2⟩
      have HG2 := Lib.hid (HG1.out.trans g2)
      clear cM p0 p1 p2 p3 p4 g2
      go_wp2_with fail
      go_ret2
      refine ⟨_, by rw [HE.out.1]; rfl, HG2.out, ?_⟩
      rw [HE.out.2]; exact RowO.nil
    | true =>
      have HP := Lib.hid (mayS_iff.1 hmy)
      have HE := Lib.hid (findE_of HP.out HQ.out)
      have HI := Lib.hid (findI_of HP.out HQ.out)
      rw [hmy] at cM
      clear hmy
      go_wp2_with fail
      refine cM.mono ?_
      rintro e w2 ⟨rfl, g2⟩
      have HG2 := Lib.hid (HG1.out.trans g2)
      have HB2 := Lib.hid (g2.blk HB1.out)
      have HTM2 := Lib.hid (HTM.out.grow g2)
      clear cM p0 p1 p2 p3 p4 g2 HTM HB1 pz
      obtain ⟨⟨p0, p1, p2, p3, p4⟩, pz⟩ := n5 HB2.out
      go_wp2_with fail
      go_loopw [8, 26] (fun v8 v26 wx => ∃ (i : Nat) (L : List Item) (o : Option Addr) (k : Nat), v8 = .slice o L.length k ∧ v26 = .int .i64 i ∧ i ≤ s.notes.length ∧ L = ((s.notes.take i).filter fun n => l.all (soB s n)).map itemOf ∧ L.length ≤ i ∧ RowO w2.heap.size 50 2 (.slice o L.length k) L.length (L.flatMap itemC) wx ∧ Grow w2 wx) (fun _ v26 _ => s.notes.length - (Go.RowKit.intOf v26).toNat)
      case atStart => exact ⟨0, [], none, 0, rfl, rfl, by omega, rfl, by simp, RowO.nil, Grow.refl _⟩
      case round =>
        obtain ⟨i, L, o, k, rfl, rfl, hi, hL, hLl, hr, hg⟩ := hrel
        have HL := Lib.hid hL
        have HR := Lib.hid hr
        have HG := Lib.hid hg
        have HGW := Lib.hid (HG2.out.trans hg)
        clear hL hr hg p0 p1 p2 p3 p4 pz
        by_cases hlt : i < s.notes.length
        · have hlt' : (i : Int) < s.notes.length := by omega
          obtain ⟨x, hx, -⟩ := lt_get hlt
          have hxm := List.mem_of_getElem? hx
          obtain ⟨b, off, tv, sv, rfl, hb, q0, q1, q2, q3, q4, htg, hsv⟩ := (Notes.grow HH.out.2 HGW.out).at hx
          obtain ⟨ta, tc, etv⟩ := htg.mk
          obtain ⟨sa, sc, esv⟩ := hsv.mk
          subst etv esv
          have HX := Lib.hid hx
          have HTG := Lib.hid htg
          have hsm := name_small HP.out hxm
          have htl := HP.out.tl x hxm
          clear hx htg hsv hxm
          go_upto_region 10 with (fail)
          generalize hV : wr.alloc (.cells #[.int .i64 x.id, .int .i64 x.book, .string x.name, .slice ta x.tags.length tc, .slice sa x.sheets.length sc] 54) = V
          have gV : Grow wr V := by rw [← hV]; exact (Grow.refl wr).alloc _
          have HBN : Hid (V.heap[wr.heap.size]? = some (.cells #[.int .i64 x.id, .int .i64 x.book, .string x.name, .slice ta x.tags.length tc, .slice sa x.sheets.length sc] 54 (0, 0))) := by rw [← hV]; exact Lib.hid (heap_alloc_new wr _)
          have HGV := Lib.hid (HGW.out.trans gV)
          have HG2V := Lib.hid (HG.out.trans gV)
          have cC := containsTerms (.slice la l.length lc) l 37 #[.pointer (some ⟨w.heap.size, 0, none⟩), .pointer (some ⟨wr.heap.size, 0, none⟩)] (fun t => !soB s x t) V (HTM2.out.grow HG2V.out) (by omega) (fun _ _ => rfl)
            (fun W t g _ => find1_any s _ _ x _ _ t w.heap.size wr.heap.size W (HH.out.grow (HGV.out.trans g)) (HTG.out.grow (gV.trans g)) ⟨_, _, _, rfl⟩ (HMX.out.grow (HGV.out.trans g)) hbl (by omega) hsm ((HG2V.out.trans g).blk HB2.out) (g.blk HBN.out))
          rw [all_any] at cC
          have HRV := Lib.hid (HR.out.grow gV)
          clear hV q0 q1 q2 q3 q4 gV
          cases hal : l.all (soB s x) with
          | false =>
            have HAL := Lib.hid hal
            rw [hal] at cC
            clear hal
            go_wp2_with fail
            refine cC.mono ?_
            rintro e w3 ⟨rfl, g3⟩
            have HR3 := Lib.hid (HRV.out.grow g3)
            have HG3 := Lib.hid (HG2V.out.trans g3)
            clear cC g3
            go_wp2_with fail
            go_roundw
            case rel => exact ⟨i + 1, L, o, k, rfl, by go_num, by omega, by rw [HL.out, hits_next HX.out, if_neg (by rw [HAL.out]; simp), List.append_nil], by omega, HR3.out, HG3.out⟩
            case measure => simp [Go.RowKit.intOf]; omega
          | true =>
            have HAL := Lib.hid hal
            rw [hal] at cC
            clear hal
            go_wp2_with fail
            refine cC.mono ?_
            rintro e w3 ⟨rfl, g3⟩
            have HR3 := Lib.hid (HRV.out.grow g3)
            have HG3 := Lib.hid (HG2V.out.trans g3)
            have HGW3 := Lib.hid (HGV.out.trans g3)
            obtain ⟨⟨q0, q1, q2, q3, q4⟩, qz⟩ := n5 (g3.blk HBN.out)
            have gsz := HG3.out.size
            clear cC g3
            go_wp2_with (at_builtin; refine app_R (base := w2.heap.size) (by rfl) _ _ 29 (by rfl) 50 i0 _ 2 24 Tryz.underlying29 hi0 hz0 hz1 hz2 (by rfl) (by decide) (.slice o L.length k) L.length (L.flatMap itemC) (by rfl) _ HR3.out ?_ (itemC ⟨x.id, x.name⟩) rfl (itemC_one _) ?_ ?_ (by decide) ?_; omega; (first | rfl | (simp; done) | (simp; rfl)); omega; intro v' w4 ra; obtain ⟨va, vc, e3, -⟩ := ra.1.slice; subst e3; have HRA := Lib.hid ra; clear ra)
            have hadd : RowO w2.heap.size 50 2 (.slice va (L.length + 1) vc) (L ++ [(⟨x.id, x.name⟩ : Item)]).length ((L ++ [(⟨x.id, x.name⟩ : Item)]).flatMap itemC) w4 := row_add (l := L) HRA.out
            have HADD := Lib.hid hadd
            have HGR := Lib.hid (grown_grow HG3.out HR3.out HRA.out.2.1)
            clear hadd HRA
            go_wp2_with fail
            go_roundw
            case rel => exact ⟨i + 1, L ++ [⟨x.id, x.name⟩], va, vc, by simp, by go_num, by omega, by rw [HL.out, hits_next HX.out, if_pos HAL.out]; rfl, by simp; omega, by have := HADD.out; rw [List.length_append] at this ⊢; exact this, HGR.out⟩
            case measure => simp [Go.RowKit.intOf]; omega
        · have hlt' : ¬ (i : Int) < s.notes.length := by omega
          have hLa : L = (hits s l).map itemOf := by rw [HL.out, List.take_of_length_le (by omega)]; rfl
          have cS := sortItems2_any w2.heap.size (.slice o L.length k) L wr HR.out (by omega)
          have HLA := Lib.hid hLa
          clear hLa
          go_wp2_with fail
          refine cS.mono ?_
          rintro e w5 ⟨rfl, l', hp, hs, hr', hg'⟩
          have HF := Lib.hid (show l' = findI s q by rw [HI.out]; exact sort2_of (by rw [← HLA.out]; exact hp) hs (hits_inc HP.out l))
          have HR5 := Lib.hid hr'
          have HG5 := Lib.hid (HG2.out.trans (grown_grow HG.out HR.out hg'))
          clear cS hp hs hr' hg'
          go_wp2_with fail
          go_ret2
          refine ⟨.slice o L.length k, by rw [HE.out]; rfl, HG5.out, ?_⟩
          rw [← HF.out]; exact HR5.out.base_mono HG2.out.size
end Go.Proofs.YtgpjcgcecahddaaGreatDoor
set_option linter.unusedVariables false
set_option linter.unusedSimpArgs false
namespace Go.Proofs.YtgpjcgcecahddaaGreatDoor
open Go.RowKit Go.Lib
def cntT (t : ByteArray) (l : List ByteArray) : Nat := (l.filter fun y => y.toList == t.toList).length
theorem list_eq {a b : ByteArray} : (a.toList == b.toList) = true ↔ a = b := by
  constructor
  · intro h
    have h1 : a.toList = b.toList := by simpa using h
    rw [Lib.toList_data, Lib.toList_data] at h1
    exact eq_of_list h1
  · rintro rfl; simp
def RunsP (p : List ByteArray) (L : List Item) : Prop := L = (gather p).map fun t => ⟨((cntT t p : Nat) : Int), t⟩
theorem runs_nil : RunsP [] [] := rfl
theorem cnt_next {t x : ByteArray} {p : List ByteArray} : cntT t (p ++ [x]) = cntT t p + (if x = t then 1 else 0) := by
  unfold cntT
  rw [List.filter_append, List.length_append]
  by_cases h : x = t
  · rw [if_pos h, List.filter_cons, if_pos (list_eq.2 h)]; rfl
  · rw [if_neg h, List.filter_cons, if_neg (fun e => h (list_eq.1 e))]; rfl
theorem cnt_le {t : ByteArray} {p : List ByteArray} : cntT t p ≤ p.length := List.length_filter_le ..
theorem inc_last {G : List ByteArray} {x : ByteArray} (h : Inc G) (hl : ∀ y ∈ G, ltS y x = true) : Inc (G ++ [x]) := List.pairwise_append.2 ⟨h, List.pairwise_singleton .., fun a ha b hb => by
  rw [List.mem_singleton.1 hb]; exact hl a ha⟩
theorem last_or (L : List ByteArray) : L = [] ∨ ∃ L0 z, L = L0 ++ [z] := by
  rcases List.eq_nil_or_concat L with h | ⟨a, b, h⟩
  · exact .inl h
  · exact .inr ⟨a, b, by rw [h]; simp⟩
theorem runs_step {p : List ByteArray} {L : List Item} {x : ByteArray} (h : RunsP p L) (hx : ∀ y ∈ p, ltS x y = false) :
    (∃ (L0 : List Item) (k : Int), L = L0 ++ [⟨k, x⟩] ∧ 0 ≤ k ∧ k ≤ p.length ∧ RunsP (p ++ [x]) (L0 ++ [⟨k + 1, x⟩])) ∨ (L = [] ∧ RunsP (p ++ [x]) (L ++ [⟨1, x⟩])) ∨ (∃ L0 z, L = L0 ++ [z] ∧ (z.name.toList == x.toList) = false ∧ RunsP (p ++ [x]) (L ++ [⟨1, x⟩])) := by
  have hG := gather_inc p
  have hm : ∀ y, y ∈ gather p ↔ y ∈ p := fun y => gather_mem
  have hG' := gather_inc (p ++ [x])
  have hm' : ∀ y, y ∈ gather (p ++ [x]) ↔ y ∈ p ∨ y = x := fun y => by rw [gather_mem]; simp
  by_cases hxp : x ∈ p
  · left
    have e : gather (p ++ [x]) = gather p := inc_one hG' hG fun y => by
      rw [hm', hm]
      exact ⟨fun h => h.elim id fun e => e ▸ hxp, .inl⟩
    rcases last_or (gather p) with h0 | ⟨G0, z, hz⟩
    · have := (hm x).2 hxp; rw [h0] at this; cases this
    have hzx : z = x := by
      have h1 : x ∈ G0 ++ [z] := by rw [← hz]; exact (hm x).2 hxp
      rcases List.mem_append.1 h1 with h2 | h2
      · exfalso
        have h3 : Inc (G0 ++ [z]) := hz ▸ hG
        have h4 := (List.pairwise_append.1 h3).2.2 x h2 z (by simp)
        have h5 := hx z ((hm z).1 (by rw [hz]; simp))
        rw [h4] at h5; cases h5
      · exact (List.mem_singleton.1 h2).symm
    subst hzx
    have hn0 : ∀ y ∈ G0, y ≠ z := fun y hy e => by
      subst e
      have h3 : Inc (G0 ++ [y]) := hz ▸ hG
      have h4 := (List.pairwise_append.1 h3).2.2 y hy y (by simp)
      rw [ltS_irrefl] at h4; cases h4
    refine ⟨G0.map fun t => ⟨((cntT t p : Nat) : Int), t⟩, ((cntT z p : Nat) : Int), ?_, by omega, by have := cnt_le (t := z) (p := p); omega, ?_⟩
    · rw [h, hz, List.map_append]; rfl
    · unfold RunsP
      rw [e, hz, List.map_append]
      congr 1
      · refine List.map_congr_left fun y hy => ?_
        rw [cnt_next, if_neg (show ¬ z = y from fun e => hn0 y hy e.symm), Nat.add_zero]
      · show [(⟨((cntT z p : Nat) : Int) + 1, z⟩ : Item)] = [⟨((cntT z (p ++ [z]) : Nat) : Int), z⟩]
        rw [cnt_next, if_pos rfl]; rfl
  · have hlt : ∀ y ∈ gather p, ltS y x = true := fun y hy => by
      cases e : ltS y x
      · exfalso
        have := ltS_total e (hx y ((hm y).1 hy))
        subst this
        exact hxp ((hm y).1 hy)
      · rfl
    have e : gather (p ++ [x]) = gather p ++ [x] := inc_one hG' (inc_last hG hlt) fun y => by
      rw [hm', List.mem_append, hm, List.mem_singleton]
    have hR : RunsP (p ++ [x]) (L ++ [⟨1, x⟩]) := by
      unfold RunsP
      rw [e, List.map_append, h]
      congr 1
      · refine List.map_congr_left fun y hy => ?_
        rw [cnt_next, if_neg (show ¬ x = y from fun e => hxp ((hm x).1 (e ▸ hy))), Nat.add_zero]
      · show [(⟨1, x⟩ : Item)] = [⟨((cntT x (p ++ [x]) : Nat) : Int), x⟩]
        have : cntT x p = 0 := by
          unfold cntT
          rw [List.length_eq_zero_iff, List.filter_eq_nil_iff]
          intro y hy e
          rw [list_eq.1 e] at hy; exact hxp hy
        rw [cnt_next, if_pos rfl, this]; rfl
    rcases last_or (gather p) with h0 | ⟨G0, z, hz⟩
    · exact .inr (.inl ⟨by rw [h, h0]; rfl, hR⟩)
    · refine .inr (.inr ⟨G0.map fun t => ⟨((cntT t p : Nat) : Int), t⟩, ⟨((cntT z p : Nat) : Int), z⟩, by rw [h, hz, List.map_append]; rfl, ?_, hR⟩)
      cases e : (z.toList == x.toList)
      · rfl
      · exfalso
        rw [list_eq.1 e] at hz
        exact hxp ((hm x).1 (by rw [hz]; simp))
theorem cnt_perm {l l' : List ByteArray} (h : l.Perm l') (t : ByteArray) : cntT t l = cntT t l' := (h.filter _).length_eq
theorem cnt_one {t : ByteArray} : ∀ {l : List ByteArray}, l.Nodup → cntT t l = if hasT t l then 1 else 0
  | [], _ => rfl
  | x :: l, h => by
    obtain ⟨h1, h2⟩ := List.nodup_cons.1 h
    have ih := cnt_one (t := t) h2
    have e1 : cntT t (x :: l) = (if x.toList == t.toList then 1 else 0) + cntT t l := by
      unfold cntT
      rw [List.filter_cons]
      by_cases e : (x.toList == t.toList) = true
      · rw [if_pos e, if_pos e, List.length_cons]; omega
      · rw [if_neg e, if_neg e]; omega
    have e2 : hasT t (x :: l) = ((x.toList == t.toList) || hasT t l) := rfl
    rw [e1, ih, e2]
    by_cases e : (x.toList == t.toList) = true
    · have hn : hasT t l = false := by
        cases hh : hasT t l
        · rfl
        · exfalso
          unfold hasT at hh
          obtain ⟨y, hy, hye⟩ := List.any_eq_true.1 hh
          have a1 := list_eq.1 e
          have a2 := list_eq.1 hye
          exact h1 (by rw [a1, ← a2]; exact hy)
      rw [if_pos e, e, hn]; rfl
    · have e' : (x.toList == t.toList) = false := by simpa using e
      rw [if_neg e, e', Bool.false_or, Nat.zero_add]
theorem cnt_flat (t : ByteArray) : ∀ ns : List Note, (∀ n ∈ ns, n.tags.Nodup) → cntT t (ns.flatMap fun n => n.tags) = (ns.filter fun n => hasT t n.tags).length
  | [], _ => rfl
  | n :: ns, h => by
    have ih := cnt_flat t ns fun m hm => h m (List.mem_cons_of_mem _ hm)
    have h1 := cnt_one (t := t) (h n (List.mem_cons_self ..))
    have e : cntT t ((n :: ns).flatMap fun n => n.tags) = cntT t n.tags + cntT t (ns.flatMap fun n => n.tags) := by
      unfold cntT
      rw [List.flatMap_cons, List.filter_append, List.length_append]
    rw [e, ih, h1, List.filter_cons]
    split
    · rw [List.length_cons]; omega
    · omega
theorem gather_perm {l l' : List ByteArray} (h : l.Perm l') : gather l = gather l' := inc_one (gather_inc _) (gather_inc _) fun x => by rw [gather_mem, gather_mem]; exact h.mem_iff
theorem runs_tags {s : Shelf} (p : MayP s) {l : List ByteArray} {L : List Item} (hl : l.Perm (s.notes.flatMap fun n => n.tags)) (h : RunsP l L) : L = tagsI s := by
  rw [tagsI, if_pos (mayS_iff.2 p), h, gather_perm hl]
  refine List.map_congr_left fun t _ => ?_
  rw [cnt_perm hl, cnt_flat t s.notes fun n hn => tags_nodup p hn]
  rfl
theorem take_pair {l : List ByteArray} (h : l.Pairwise fun a b => ltS b a = false) {i : Nat} {x : ByteArray} (hx : l[i]? = some x) : ∀ y ∈ l.take i, ltS x y = false := fun y hy => by
  have e := List.take_append_drop i l
  rw [← e] at h
  refine (List.pairwise_append.1 h).2.2 y hy x ?_
  obtain ⟨h1, h2⟩ := List.getElem?_eq_some_iff.1 hx
  rw [List.drop_eq_getElem_cons h1, h2]; simp
theorem flat_last (L0 : List Item) (z x : Item) : ((L0 ++ [z]).flatMap itemC).set (L0.length * 2) (.int .i64 x.id) = (L0 ++ [(⟨x.id, z.name⟩ : Item)]).flatMap itemC := by
  have hl : (L0.flatMap itemC).length = L0.length * 2 := flat_len itemC (fun _ => rfl) L0
  rw [List.flatMap_append, List.flatMap_append, ← hl]
  rw [List.set_append_right (h := Nat.le_refl _), Nat.sub_self]
  rfl
end Go.Proofs.YtgpjcgcecahddaaGreatDoor
set_option linter.unusedVariables false
set_option linter.unusedSimpArgs false
namespace Go.Proofs.YtgpjcgcecahddaaGreatDoor
open Go.RowKit Go.Lib
theorem grown_turned {b : Nat} {w w' : World} (t : Turned b w w') : w.grownBy w' (some b) := ⟨t.os, t.tape, t.output, t.size, fun k hk hne => t.block k hk (fun e => hne (by rw [e]))⟩
set_option maxRecDepth 100000 in
set_option maxHeartbeats 1000000 in
theorem overTexts_any (v : Value) (n base : Nat) (xs : List Value) (w : World) (h : RowO base 9 1 v n xs w) (hn : n ≤ 1000000000) (hb : base ≤ w.heap.size) :
    Calls Tryz.prog 26 #[v] w fun e w' => e = .returned (.tuple #[]) ∧ w.grownBy w' (blkOf v) := by
  obtain ⟨i0, hi0, hz0, hz1, hz2⟩ := info_parts info_text
  obtain ⟨a, c, rfl, hc⟩ := h.slice
  have HO := Lib.hid h
  clear h
  go_enter Tryz.func26, Tryz.ntmps26
  go_wp2_with fail
  go_loopw [2] (fun v2 wx => ∃ j : Nat, v2 = .int .i64 j ∧ j ≤ n ∧ w.grownBy wx (blkOf (.slice a n c)) ∧ ∃ ys, RowO base 9 1 (.slice a n c) n ys wx) (fun v2 _ => n - (intOf v2).toNat)
  case atStart => exact ⟨0, rfl, by omega, World.grownBy.refl _ _, xs, HO.out⟩
  case round =>
    obtain ⟨j, rfl, hj, hg, ys, hr⟩ := hrel
    have HG := Lib.hid hg
    have HR := Lib.hid hr
    have hsz := hg.size
    clear hg HO
    by_cases hlt : j < n
    · have hlt' : (j : Int) < n := by omega
      obtain ⟨u, hu⟩ : ∃ u, ys[j]? = some u := ⟨_, List.getElem?_eq_getElem (by have := hr.len; omega)⟩
      obtain ⟨b, c', e, q, qf, qz, hbk⟩ := hr.cell hu
      injection e with e1 e2 e3
      subst e1
      obtain ⟨b2, c2, e5, hb2, hr2, ht2, -⟩ := hr.stored hu (.string ⟨#[111, 118, 101, 114]⟩)
      rw [hbk] at hb2
      obtain rfl := Option.some.inj hb2
      have HR2 := Lib.hid hr2
      have HG2 := Lib.hid (World.grownBy.trans HG.out (show wr.grownBy _ (blkOf (.slice (some ⟨b, 0, none⟩) n c)) by rw [hbk]; exact grown_turned ht2))
      clear hr hu hbk e2 e3 hr2 ht2 e5 hb2
      go_wp2_with fail
      go_roundw
      case rel => exact ⟨j + 1, by go_num, by omega, HG2.out, _, HR2.out⟩
      case measure => simp [intOf]; omega
    · have hlt' : ¬ (j : Int) < n := by omega
      clear hr
      go_wp2_with (at_builtin; refine app_R (base := base) (by rfl) _ _ 38 (by rfl) 9 i0 _ 1 16 Tryz.underlying38 hi0 hz0 hz1 hz2 (by rfl) (by decide) (.slice a n c) n ys (by rfl) wr HR.out (Nat.le_trans hb hsz) [.string ⟨#[111, 118, 101, 114]⟩] rfl ?_ (by rfl) ?_ (by decide) ?_; (intro u hu; simp at hu; subst hu; rfl); omega; intro v' w4 ra; have HRA := Lib.hid ra.2.1; clear ra)
      go_end0
      exact ⟨rfl, World.grownBy.trans HG.out HRA.out⟩
end Go.Proofs.YtgpjcgcecahddaaGreatDoor
set_option linter.unusedVariables false
set_option linter.unusedSimpArgs false
namespace Go.Proofs.YtgpjcgcecahddaaGreatDoor
open Go.RowKit Go.Lib
theorem textsRd2 {base : Nat} {W w' : World} {v v' : Value} {n : Nat} {l0 l : List ByteArray} (h : AppRd TextR base 9 1 W v n (strC l0) l v' w') : RowO base 9 1 v' (n + l.length) (strC (l0 ++ l)) w' ∧ W.grownBy w' (blkOf v) := by
  obtain ⟨news, h1, h2, -, h4, h5⟩ := h
  have := text_cells (w := W) l news h4 h5
  subst this
  refine ⟨?_, h2⟩
  unfold strC at h1 ⊢
  rw [List.map_append]
  exact h1
theorem tags_len {s : Shelf} (p : MayP s) (i : Nat) : ((s.notes.take i).flatMap fun n => n.tags).length ≤ 48 := by
  have h1 : ∀ l : List Note, (∀ n ∈ l, n.tags.length ≤ 4) → (l.flatMap fun n => n.tags).length ≤ 4 * l.length := fun l => by
    induction l with
    | nil => intro _; simp
    | cons n l ih =>
      intro h
      have a := ih fun m hm => h m (List.mem_cons_of_mem _ hm)
      have b := h n (List.mem_cons_self ..)
      rw [List.flatMap_cons, List.length_append, List.length_cons]; omega
  have h2 := h1 (s.notes.take i) fun n hn => p.tl n (List.mem_of_mem_take hn)
  have h3 := p.nl
  have h4 : (s.notes.take i).length ≤ s.notes.length := by rw [List.length_take]; omega
  omega
set_option maxRecDepth 100000 in
set_option maxHeartbeats 4000000 in
theorem seekTags_any (s : Shelf) (bv nv : Value) (w : World) (h : ShelfR w s bv nv) (hz : TameS s) (hT : Tabs w) :
    Calls Tryz.prog 16 #[shelfV s bv nv] w fun e w' => ∃ v, e = .returned v ∧ RetI (tagsI s) w v w' := by
  obtain ⟨i0, hi0, hz0, hz1, hz2⟩ := info_parts info_item
  obtain ⟨it, hit, itz0, itz1, itz2⟩ := info_parts info_text
  obtain ⟨a1, c1, rfl⟩ := h.1.mk
  obtain ⟨a2, c2, rfl⟩ := h.2.mk
  have HH := Lib.hid h
  have HTB := Lib.hid hT
  have HZ := Lib.hid hz
  have HX := Lib.hid (heap_alloc_new w (shB s (.slice a1 s.books.length c1) (.slice a2 s.notes.length c2)))
  have hnl := hz.1.2.1
  clear h hT hz
  unfold shelfV
  go_enter Tryz.func16, Tryz.ntmps16
  go_upto_region 1 with (fail)
  generalize hV : w.alloc (.cells #[.int .i64 s.nb, .int .i64 s.nn, .int .i64 s.ns, .slice a1 s.books.length c1, .slice a2 s.notes.length c2] 25) = V
  have gV : Grow w V := by rw [← hV]; exact (Grow.refl w).alloc _
  have HB : Hid (V.heap[w.heap.size]? = some (shB s (.slice a1 s.books.length c1) (.slice a2 s.notes.length c2))) := by rw [← hV]; exact HX
  have HGV := Lib.hid gV
  clear hV HX gV
  have cM := mayS_any s _ _ V (HH.out.grow HGV.out) HZ.out (HTB.out.below HGV.out)
  unfold shelfV at cM
  obtain ⟨⟨p0, p1, p2, p3, p4⟩, pz⟩ := n5 HB.out
  cases hmy : mayS s with
  | false =>
    have HE := Lib.hid (show tagsI s = [] by unfold tagsI; rw [hmy]; rfl)
    rw [hmy] at cM
    clear hmy
    go_wp2_with fail
    refine cM.mono ?_
    rintro e w2 ⟨rfl, g2⟩
    have HG2 := Lib.hid (HGV.out.trans g2)
    clear cM p0 p1 p2 p3 p4 g2
    go_wp2_with fail
    go_ret
    refine ⟨_, rfl, HG2.out, ?_⟩
    rw [HE.out]
    exact RowO.nil
  | true =>
    have HP := Lib.hid (mayS_iff.1 hmy)
    rw [hmy] at cM
    clear hmy
    go_wp2_with fail
    refine cM.mono ?_
    rintro e w2 ⟨rfl, g2⟩
    have HG2 := Lib.hid (HGV.out.trans g2)
    have HB2 := Lib.hid (g2.blk HB.out)
    clear cM p0 p1 p2 p3 p4 g2 pz HB
    obtain ⟨⟨p0, p1, p2, p3, p4⟩, pz⟩ := n5 HB2.out
    go_wp2_with fail
    go_loopw [3, 16] (fun v3 v16 wx => ∃ (i : Nat) (L : List ByteArray) (o : Option Addr) (k : Nat), v3 = .slice o L.length k ∧ v16 = .int .i64 i ∧ i ≤ s.notes.length ∧ L = ((s.notes.take i).flatMap fun n => n.tags) ∧ RowO w2.heap.size 9 1 (.slice o L.length k) L.length (strC L) wx ∧ Grow w2 wx) (fun _ v16 _ => s.notes.length - (Go.RowKit.intOf v16).toNat)
    case atStart => exact ⟨0, [], none, 0, rfl, rfl, by omega, rfl, RowO.nil, Grow.refl _⟩
    case round =>
      obtain ⟨i, L, o, k, rfl, rfl, hi, hL, hr, hg⟩ := hrel
      have hLl : L.length ≤ 48 := by rw [hL]; exact tags_len HP.out i
      have HL := Lib.hid hL
      have HR := Lib.hid hr
      have HG := Lib.hid hg
      have HGW := Lib.hid (HG2.out.trans hg)
      clear hL hr hg p0 p1 p2 p3 p4 pz
      by_cases hlt : i < s.notes.length
      · have hlt' : (i : Int) < s.notes.length := by omega
        obtain ⟨x, hx, -⟩ := lt_get hlt
        have hxm := List.mem_of_getElem? hx
        obtain ⟨b, off, tv, sv, rfl, hb, q0, q1, q2, q3, q4, htg, hsv⟩ := (Notes.grow HH.out.2 HGW.out).at hx
        obtain ⟨ta, tc, etv⟩ := htg.mk
        obtain ⟨sa, sc, esv⟩ := hsv.mk
        subst etv esv
        have HX := Lib.hid hx
        have HTG := Lib.hid htg
        have htl := HP.out.tl x hxm
        have gsz := HG.out.size
        clear hx htg hsv hxm
        go_wp2_with (at_builtin; refine app_Rd (R := TextR) (l := x.tags) (base := w2.heap.size) (by rfl) _ _ 38 (by rfl) 9 it _ 1 16 Tryz.underlying38 hit itz0 itz1 itz2 (by rfl) (by decide) (.slice o L.length k) (.slice ta x.tags.length tc) L.length (strC L) (by rfl) _ (HR.out.grow ((Grow.refl wr).alloc _)) ?_ (by rfl) (HTG.out.grow ((Grow.refl wr).alloc _)) (fun a cs hh => one_text _ a cs hh) ?_ (by decide) ?_; (simp; omega); omega; intro v' w6 ra; obtain ⟨ra1, ra2⟩ := textsRd2 ra; obtain ⟨va, vc, e3, -⟩ := ra1.slice; subst e3; have HRA := Lib.hid ra1; have HGA := Lib.hid ra2; clear ra ra1 ra2)
        have HGR := Lib.hid (grown_grow (HG.out.alloc _) (HR.out.grow ((Grow.refl wr).alloc _)) HGA.out)
        have HADD := Lib.hid (show RowO w2.heap.size 9 1 (.slice va (L ++ x.tags).length vc) (L ++ x.tags).length (strC (L ++ x.tags)) w6 by
          have h9 := HRA.out
          rw [List.length_append]; exact h9)
        have HLN := Lib.hid (show L ++ x.tags = ((s.notes.take (i + 1)).flatMap fun n => n.tags) by
          rw [HL.out, List.take_add_one, HX.out, List.flatMap_append]; simp)
        clear HRA HGA
        go_wp2_with fail
        go_roundw
        case rel => exact ⟨i + 1, L ++ x.tags, va, vc, by rw [List.length_append], by go_num, by omega, HLN.out, HADD.out, HGR.out⟩
        case measure => simp [Go.RowKit.intOf]; omega
      · have hlt' : ¬ (i : Int) < s.notes.length := by omega
        have HLA := Lib.hid (show L = (s.notes.flatMap fun n => n.tags) by rw [HL.out, List.take_of_length_le (by omega)])
        have cS := sortTexts_any w2.heap.size (.slice o L.length k) L wr HR.out (by omega)
        go_wp2_with fail
        refine cS.mono ?_
        rintro e w5 ⟨rfl, l', hp, hs, hr', hg'⟩
        have hle : l'.length = L.length := hp.length_eq
        rw [hle] at hr'
        have HLE := Lib.hid hle
        have HR5 := Lib.hid hr'
        have HG5 := Lib.hid (HG2.out.trans (grown_grow HG.out HR.out hg'))
        have HPM := Lib.hid hp
        have HS := Lib.hid hs
        clear cS hp hs hr' hg' hle
        go_wp2_with fail
        go_loopw [6, 29] (fun v6 v29 wx => ∃ (i n : Nat) (M : List Item) (o : Option Addr) (k : Nat), v6 = .slice o n k ∧ v29 = .int .i64 i ∧ i ≤ L.length ∧ n = M.length ∧ n ≤ i ∧ RunsP (l'.take i) M ∧ RowO w5.heap.size 50 2 (.slice o n k) n (M.flatMap itemC) wx ∧ Grow w5 wx) (fun _ v29 _ => L.length - (Go.RowKit.intOf v29).toNat)
        case atStart => exact ⟨0, 0, [], none, 0, rfl, rfl, by omega, rfl, by omega, runs_nil, RowO.nil, Grow.refl _⟩
        case round =>
          obtain ⟨i, n, M, o', k', rfl, rfl, hi, hn, hni, hru, hr, hg⟩ := hrel
          have HRU := Lib.hid hru
          have HRO := Lib.hid hr
          have HGO := Lib.hid hg
          have HGL := Lib.hid (HG5.out.trans hg)
          have HN := Lib.hid hn
          clear hru hr hg hn hi hlt hlt'
          by_cases hlt : i < L.length
          · have hlt' : (i : Int) < L.length := by omega
            obtain ⟨x, hx, -⟩ := lt_get (l := l') (i := i) (by rw [HLE.out]; exact hlt)
            have HX := Lib.hid hx
            have HNX := Lib.hid (show l'.take (i + 1) = l'.take i ++ [x] by rw [List.take_add_one, hx]; rfl)
            have hst := runs_step HRU.out (take_pair HS.out hx)
            have htl : (l'.take i).length ≤ 48 := by rw [List.length_take]; omega
            obtain ⟨nb, nc, env, t0, -, tz, -⟩ := (HR5.out.grow HGO.out).cell (j := i) (u := .string x) (by unfold strC; rw [List.getElem?_map, hx]; rfl)
            injection env with env _ _
            subst env
            have gsz := HGO.out.size
            clear hx
            rcases hst with ⟨M0, z, eM, hz0, hz1, hR2⟩ | ⟨eM, hR2⟩ | ⟨M0, z, eM, hne, hR2⟩
            · subst eM
              obtain rfl : n = M0.length + 1 := by rw [HN.out]; simp
              have hw1 : IntKind.i64.wrap ((M0.length : Int) + 1 - 1) = M0.length := by have := IntWalk.i64_in ((M0.length : Int) + 1 - 1) (by omega); omega
              have hw2 : IntKind.i64.wrap (z + 1) = z + 1 := IntWalk.i64_in _ (by omega)
              have hw4 : IntKind.i64.wrap (M0.length : Int) = M0.length := IntWalk.i64_in _ (by omega)
              have hw3 : (0 : Int) ≤ M0.length := by omega
              have hu0 : ((M0 ++ [(⟨z, x⟩ : Item)]).flatMap itemC)[M0.length * 2]? = some (.int .i64 z) := by rw [show M0.length * 2 = M0.length * 2 + 0 by omega, flat_get itemC (fun _ => rfl) _ M0.length 0 ⟨z, x⟩ (by simp) (by decide)]; rfl
              have hu1 : ((M0 ++ [(⟨z, x⟩ : Item)]).flatMap itemC)[M0.length * 2 + 1]? = some (.string x) := by rw [flat_get itemC (fun _ => rfl) _ M0.length 1 ⟨z, x⟩ (by simp) (by decide)]; rfl
              obtain ⟨b, c', e, q, qf, qz, hbk⟩ := HRO.out.cell hu0
              obtain ⟨b1, c1', e1', q', qf', qz', hbk'⟩ := HRO.out.cell hu1
              injection e with e1 e2 e3
              subst e1
              injection e1' with e4
              injection e4 with e4
              injection e4 with e4
              subst e4
              obtain ⟨b2, cc2, e5, hb2, hr2, ht2, -⟩ := HRO.out.stored hu0 (.int .i64 (z + 1))
              rw [hbk] at hb2
              obtain rfl := Option.some.inj hb2
              have HRS := Lib.hid (show RowO w5.heap.size 50 2 (.slice (some ⟨b, 0, none⟩) (M0.length + 1) k') (M0.length + 1) ((M0 ++ [(⟨z + 1, x⟩ : Item)]).flatMap itemC) (wr.setCell ⟨b, M0.length * 2, none⟩ (.int .i64 (z + 1))) by
                have h9 := hr2
                rw [flat_last M0 ⟨z, x⟩ ⟨z + 1, x⟩] at h9
                exact h9)
              have HGS := Lib.hid (grown_grow HGO.out HRO.out (show wr.grownBy _ (blkOf (.slice (some ⟨b, 0, none⟩) (M0.length + 1) k')) by rw [hbk]; exact grown_turned ht2))
              have HR2 := Lib.hid hR2
              clear hu0 hu1 hbk hbk' e2 e3 e5 hb2 hr2 ht2 hR2 qf'
              go_wp2_with fail
              go_roundw
              case rel => exact ⟨i + 1, M0.length + 1, M0 ++ [⟨z + 1, x⟩], some ⟨b, 0, none⟩, k', rfl, by go_num, by omega, by simp, by omega, by rw [HNX.out]; exact HR2.out, HRS.out, HGS.out⟩
              case measure => simp [Go.RowKit.intOf]; omega
            · subst eM
              obtain rfl : n = 0 := by rw [HN.out]; rfl
              have HR2 := Lib.hid hR2
              clear hR2
              go_wp2_with (at_builtin; refine app_R (base := w5.heap.size) (by rfl) _ _ 29 (by rfl) 50 i0 _ 2 24 Tryz.underlying29 hi0 hz0 hz1 hz2 (by rfl) (by decide) (.slice o' 0 k') 0 (([] : List Item).flatMap itemC) (by rfl) _ HRO.out ?_ (itemC ⟨1, x⟩) rfl (itemC_one _) ?_ ?_ (by decide) ?_; omega; (first | rfl | (simp; done) | (simp; rfl)); omega; intro v' w6 ra; obtain ⟨va, vc, e3, -⟩ := ra.1.slice; subst e3; have HRA := Lib.hid ra; clear ra)
              have HGR := Lib.hid (grown_grow HGO.out HRO.out HRA.out.2.1)
              have HADD := Lib.hid (show RowO w5.heap.size 50 2 (.slice va (0 + 1) vc) (0 + 1) ((([] : List Item) ++ [(⟨1, x⟩ : Item)]).flatMap itemC) w6 by
                have h9 := HRA.out.1
                rw [List.flatMap_append]
                exact h9)
              clear HRA
              go_wp2_with fail
              go_roundw
              case rel => exact ⟨.slice va (0 + 1) vc, _, _, .int .i64 ((i + 1 : Nat) : Int), ⟨i + 1, 0 + 1, ([] : List Item) ++ [⟨1, x⟩], va, vc, rfl, rfl, by omega, by simp, by omega, by rw [HNX.out]; exact HR2.out, HADD.out, HGR.out⟩, rfl, rfl, rfl, by go_num⟩
              case measure => simp [Go.RowKit.intOf]; omega
            · subst eM
              obtain rfl : n = M0.length + 1 := by rw [HN.out]; simp
              have hw1 : IntKind.i64.wrap ((M0.length : Int) + 1 - 1) = M0.length := by have := IntWalk.i64_in ((M0.length : Int) + 1 - 1) (by omega); omega
              have hw4 : IntKind.i64.wrap (M0.length : Int) = M0.length := IntWalk.i64_in _ (by omega)
              have hw3 : (0 : Int) ≤ M0.length := by omega
              have hu1 : ((M0 ++ [z]).flatMap itemC)[M0.length * 2 + 1]? = some (.string z.name) := by rw [flat_get itemC (fun _ => rfl) _ M0.length 1 z (by simp) (by decide)]; rfl
              obtain ⟨b, c', e, q, qf, qz, hbk⟩ := HRO.out.cell hu1
              injection e with e1 e2 e3
              subst e1
              have HR2 := Lib.hid hR2
              clear hu1 hbk e2 e3 qf hR2
              go_wp2_with (at_builtin; refine app_R (base := w5.heap.size) (by rfl) _ _ 29 (by rfl) 50 i0 _ 2 24 Tryz.underlying29 hi0 hz0 hz1 hz2 (by rfl) (by decide) (.slice (some ⟨b, 0, none⟩) (M0.length + 1) k') (M0.length + 1) ((M0 ++ [z]).flatMap itemC) (by rfl) _ HRO.out ?_ (itemC ⟨1, x⟩) rfl (itemC_one _) ?_ ?_ (by decide) ?_; omega; (first | rfl | (simp; done) | (simp; rfl)); omega; intro v' w6 ra; obtain ⟨va, vc, e3, -⟩ := ra.1.slice; subst e3; have HRA := Lib.hid ra; clear ra)
              have HGR := Lib.hid (grown_grow HGO.out HRO.out HRA.out.2.1)
              have HADD := Lib.hid (show RowO w5.heap.size 50 2 (.slice va ((M0.length + 1) + 1) vc) ((M0.length + 1) + 1) (((M0 ++ [z]) ++ [(⟨1, x⟩ : Item)]).flatMap itemC) w6 by
                have h9 := HRA.out.1
                rw [List.flatMap_append]
                exact h9)
              clear HRA
              go_wp2_with fail
              go_roundw
              case rel => exact ⟨.slice va ((M0.length + 1) + 1) vc, _, _, .int .i64 ((i + 1 : Nat) : Int), ⟨i + 1, (M0.length + 1) + 1, (M0 ++ [z]) ++ [⟨1, x⟩], va, vc, rfl, rfl, by omega, by simp, by omega, by rw [HNX.out]; exact HR2.out, HADD.out, HGR.out⟩, rfl, rfl, rfl, by go_num⟩
              case measure => simp [Go.RowKit.intOf]; omega
          · have hlt' : ¬ (i : Int) < L.length := by omega
            have HF := Lib.hid (show M = tagsI s from runs_tags (l := l') HP.out (by rw [← HLA.out]; exact HPM.out) (by have h9 := HRU.out; rw [List.take_of_length_le (by rw [HLE.out]; omega)] at h9; exact h9))
            go_wp2_with fail
            go_ret
            refine ⟨_, rfl, HGL.out, ?_⟩
            rw [← HF.out, ← HN.out]; exact HRO.out.base_mono HG5.out.size
end Go.Proofs.YtgpjcgcecahddaaGreatDoor
set_option linter.unusedVariables false
set_option linter.unusedSimpArgs false
namespace Go.Proofs.YtgpjcgcecahddaaGreatDoor
open Go.RowKit Go.Lib
set_option maxRecDepth 100000 in
set_option maxHeartbeats 1000000 in
theorem common_any (a b : Note) (av asv bv bsv : Value) (w : World) (ha : Texts w av a.tags) (hb : Texts w bv b.tags) (hsa : ∃ x n c, asv = .slice x n c) (hsb : ∃ x n c, bsv = .slice x n c) (h1 : a.tags.length ≤ 1000000) (h2 : b.tags.length ≤ 1000000) :
    Calls Tryz.prog 51 #[noteV a av asv, noteV b bv bsv] w fun e w' => e = .returned (.int .i64 (commonN a b : Nat)) ∧ Grow w w' := by
  obtain ⟨a1, c1, rfl⟩ := ha.mk
  obtain ⟨a3, c3, rfl⟩ := hb.mk
  obtain ⟨a2, n2, c2, rfl⟩ := hsa
  obtain ⟨a4, n4, c4, rfl⟩ := hsb
  have HX := Lib.hid (two_boxes2 w (.cells #[.int .i64 a.id, .int .i64 a.book, .string a.name, .slice a1 a.tags.length c1, .slice a2 n2 c2] 54) (.cells #[.int .i64 b.id, .int .i64 b.book, .string b.name, .slice a3 b.tags.length c3, .slice a4 n4 c4] 54))
  have HA := Lib.hid ha
  have HB := Lib.hid hb
  clear ha hb
  unfold noteV
  go_enter Tryz.func51, Tryz.ntmps51
  go_upto_region 1 with (fail)
  generalize hV : (w.alloc (.cells #[.int .i64 a.id, .int .i64 a.book, .string a.name, .slice a1 a.tags.length c1, .slice a2 n2 c2] 54)).alloc (.cells #[.int .i64 b.id, .int .i64 b.book, .string b.name, .slice a3 b.tags.length c3, .slice a4 n4 c4] 54) = V
  have gV : Grow w V := by rw [← hV]; exact ((Grow.refl w).alloc _).alloc _
  have H1 : Hid (V.heap[w.heap.size]? = some (.cells #[.int .i64 a.id, .int .i64 a.book, .string a.name, .slice a1 a.tags.length c1, .slice a2 n2 c2] 54 (0, 0))) := by rw [← hV]; exact Lib.hid HX.out.1
  have H2 : Hid (V.heap[w.heap.size + 1]? = some (.cells #[.int .i64 b.id, .int .i64 b.book, .string b.name, .slice a3 b.tags.length c3, .slice a4 n4 c4] 54 (0, 0))) := by rw [← hV]; exact Lib.hid HX.out.2
  have HAV := Lib.hid (HA.out.grow gV)
  have HBV := Lib.hid (HB.out.grow gV)
  clear hV HX
  obtain ⟨⟨p0, p1, p2, p3, p4⟩, pz⟩ := n5 H1.out
  obtain ⟨⟨q0, q1, q2, q3, q4⟩, qz⟩ := n5 H2.out
  go_wp2_with fail
  go_loopw [5, 11] (fun v5 v11 wx => ∃ i k : Nat, v5 = .int .i64 k ∧ v11 = .int .i64 i ∧ i ≤ a.tags.length ∧ k ≤ i ∧ k = ((a.tags.take i).filter fun t => hasT t b.tags).length ∧ wx = V) (fun _ v11 _ => a.tags.length - (Go.RowKit.intOf v11).toNat)
  case atStart => exact ⟨0, 0, rfl, rfl, by omega, by omega, by simp, rfl⟩
  case round =>
    obtain ⟨i, k, rfl, rfl, hi, hki, hk, rfl⟩ := hrel
    have HK := Lib.hid hk
    clear hk
    by_cases hlt : i < a.tags.length
    · have hlt' : (i : Int) < a.tags.length := by omega
      obtain ⟨x, hx, -⟩ := lt_get hlt
      obtain ⟨b1, off, rfl, hb, hc⟩ := HAV.out.at hx
      have HXX := Lib.hid hx
      have c := hasText_any _ b.tags x wr HBV.out h2
      clear hx
      cases hh : hasT x b.tags with
      | true =>
        have HH := Lib.hid hh
        rw [hh] at c
        clear hh
        go_wp2_with fail
        refine c.mono ?_
        rintro e w1 ⟨rfl, rfl⟩
        clear c
        go_wp2_with fail
        go_roundw
        case rel => exact ⟨i + 1, k + 1, by go_num, by go_num, by omega, by omega, by rw [filter_next HXX.out, if_pos HH.out, List.length_append, ← HK.out]; rfl, by first | rfl | trivial⟩
        case measure => simp [Go.RowKit.intOf]; omega
      | false =>
        have HH := Lib.hid hh
        rw [hh] at c
        clear hh
        go_wp2_with fail
        refine c.mono ?_
        rintro e w1 ⟨rfl, rfl⟩
        clear c
        go_wp2_with fail
        go_roundw
        case rel => exact ⟨i + 1, k, rfl, by go_num, by omega, by omega, by rw [filter_next HXX.out, if_neg (by rw [HH.out]; simp), List.append_nil, ← HK.out], by first | rfl | trivial⟩
        case measure => simp [Go.RowKit.intOf]; omega
    · have hlt' : ¬ (i : Int) < a.tags.length := by omega
      have HR := Lib.hid (show commonN a b = k by rw [HK.out, List.take_of_length_le (by omega)]; rfl)
      go_wp2_with fail
      go_ret
      exact ⟨ret_int (by rw [HR.out]), gV⟩
end Go.Proofs.YtgpjcgcecahddaaGreatDoor
