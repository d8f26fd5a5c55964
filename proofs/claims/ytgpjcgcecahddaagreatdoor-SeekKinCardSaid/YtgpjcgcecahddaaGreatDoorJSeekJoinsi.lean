/- The walk of jotterlaw0.Low: a number, from 0 to below n. The walk of jotterlaw26.SeekKin. -/
import Derived.Test.YtgpjcgcecahddaaGreatDoorProg
import Derived.Test.YtgpjcgcecahddaaGreatDoorJSeekJoinsa
import Derived.WalkKit
import Derived.Deep.QuietTactic
import Derived.BigQuiet
import Derived.WalkLawsBesides
import Derived.WalkSpells
import Derived.Outline
import Derived.Test.YtgpjcgcecahddaaGreatDoorJSeekJoinsf
import Derived.Test.YtgpjcgcecahddaaGreatDoorJSeekJoinse
import Derived.Test.YtgpjcgcecahddaaGreatDoorJSeekJoinsd
import Derived.Test.YtgpjcgcecahddaaGreatDoorJSeekJoinsb
set_option linter.unusedVariables false
set_option linter.unusedSimpArgs false
namespace Go.Proofs.YtgpjcgcecahddaaGreatDoor
open Go.RowKit Go.Lib
def lowI (x n : Int) : Int := (x % 18446744073709551616) % n
theorem lowI_bd (x n : Int) (h : 1 ≤ n) : 0 ≤ lowI x n ∧ lowI x n < n := ⟨Int.emod_nonneg _ (by omega), Int.emod_lt_of_pos _ (by omega)⟩
set_option maxRecDepth 100000 in
theorem low_any (x n : Int) (w : World) (h1 : 1 ≤ n) (h2 : n ≤ 1000000) :
    Calls Tryz.prog 31 #[.int .i64 x, .int .i64 n] w fun e w' => e = .returned (.int .i64 (lowI x n)) ∧ w = w' := by
  go_enter Tryz.func31, Tryz.ntmps31
  go_wp2_with fail
  go_ret
  refine ⟨ret_int ?_, rfl⟩
  have e : IntKind.u64.wrap x = x % 18446744073709551616 := rfl
  have hb := lowI_bd x n h1
  rw [e, Int.tmod_eq_emod_of_nonneg (Int.emod_nonneg _ (by decide))]
  show wrap64 (lowI x n) = lowI x n
  generalize lowI x n = y at *
  unfold wrap64; omega
end Go.Proofs.YtgpjcgcecahddaaGreatDoor
set_option linter.unusedVariables false
set_option linter.unusedSimpArgs false
namespace Go.Proofs.YtgpjcgcecahddaaGreatDoor
open Go.RowKit Go.Lib
theorem tags_len2 {s : Shelf} (p : MayP s) (i : Nat) : ((s.notes.take i).flatMap fun n => n.tags).length ≤ 48 := tags_len p i
theorem gather_len2 (l : List ByteArray) : (gather l).length ≤ l.length := by have := gather_len l []; simpa [gather] using this
def sumT (T : List Item) (i : Nat) : Int := ((T.take i).map fun x => x.id).sum
def sumN (l : List Note) (i : Nat) : Nat := ((l.take i).map fun n => n.tags.length).sum
theorem sum_nn : ∀ (l : List Int), (∀ x ∈ l, 0 ≤ x) → 0 ≤ l.sum
  | [], _ => by simp
  | x :: l, h => by
    rw [List.sum_cons]
    have h1 := h x (List.mem_cons_self ..)
    have h2 := sum_nn l fun y hy => h y (List.mem_cons_of_mem _ hy)
    omega
theorem sum_part (l : List Int) (h : ∀ x ∈ l, 0 ≤ x) (i : Nat) : 0 ≤ (l.take i).sum ∧ (l.take i).sum ≤ l.sum := by
  refine ⟨sum_nn _ fun x hx => h x (List.mem_of_mem_take hx), ?_⟩
  have h2 := sum_nn (l.drop i) fun x hx => h x (List.mem_of_mem_drop hx)
  have e : l.sum = (l.take i).sum + (l.drop i).sum := by rw [← List.sum_append, List.take_append_drop]
  omega
theorem sumN_le {s : Shelf} (p : MayP s) (i : Nat) : sumN s.notes i ≤ 48 := by
  have h1 := tags_len2 p i
  unfold sumN
  rw [← List.length_flatMap]; exact h1
theorem sumT_bd {s : Shelf} (p : MayP s) (i : Nat) : 0 ≤ sumT (tagsI s) i ∧ sumT (tagsI s) i ≤ 48 := by
  have hnn : ∀ x ∈ (tagsI s).map (fun x => x.id), 0 ≤ x := fun x hx => by
    obtain ⟨y, hy, rfl⟩ := List.mem_map.1 hx
    rw [tagsI, if_pos (mayS_iff.2 p)] at hy
    obtain ⟨t, -, rfl⟩ := List.mem_map.1 hy
    show 0 ≤ tagN s t
    unfold tagN; omega
  have h1 := sum_part _ hnn i
  rw [← List.map_take] at h1
  have h2 := tags_sum p
  have h3 := sumN_le p s.notes.length
  unfold sumN at h3
  rw [List.take_of_length_le (Nat.le_refl _)] at h3
  unfold sumT
  omega
theorem sum_same {s : Shelf} (p : MayP s) : sumT (tagsI s) (tagsI s).length = (sumN s.notes s.notes.length : Nat) := by
  unfold sumT sumN
  rw [List.take_of_length_le (Nat.le_refl _), List.take_of_length_le (Nat.le_refl _)]
  exact tags_sum p
theorem sumT_next {T : List Item} {i : Nat} {x : Item} (h : T[i]? = some x) : sumT T (i + 1) = sumT T i + x.id := by
  unfold sumT
  rw [List.take_add_one, h, List.map_append, List.sum_append]; simp
theorem sumN_next {l : List Note} {i : Nat} {x : Note} (h : l[i]? = some x) : sumN l (i + 1) = sumN l i + x.tags.length := by
  unfold sumN
  rw [List.take_add_one, h, List.map_append, List.sum_append]; simp
theorem tags_none {s : Shelf} (h : s.notes.length = 0) : (tagsI s).length = 0 := by
  have e := List.eq_nil_of_length_eq_zero h
  unfold tagsI
  split
  · rw [e]; rfl
  · rfl
theorem tags_few {s : Shelf} (p : MayP s) : (tagsI s).length ≤ 1000000 := by
  rw [tagsI, if_pos (mayS_iff.2 p), List.length_map]
  have h1 := gather_len2 (s.notes.flatMap fun n => n.tags)
  have h2 := tags_len2 p s.notes.length
  rw [List.take_of_length_le (Nat.le_refl _)] at h2
  omega
theorem kin_few {s : Shelf} (p : MayP s) {id : Int} : (kinI s id).length ≤ 1000000 := by
  unfold kinI
  split
  · rw [List.length_map]
    have h0 : ∀ m, (kinL s (noteOf s id) m).length ≤ s.notes.length := fun m => List.length_filter_le ..
    have h2 := p.nl
    have a1 := h0 1; have a2 := h0 2; have a3 := h0 3; have a4 := h0 4
    simp only [List.flatMap_cons, List.flatMap_nil, List.length_append, List.length_nil]
    omega
  · simp
set_option maxRecDepth 100000 in
theorem kin_out (s : Shelf) (bv nv : Value) (id : Int) (w : World) (h : ShelfR w s bv nv) (hz : TameS s) (hT : Tabs w) (he : noteE s id = 0) {L : List Item} (hL : kinI s id = L) :
    Calls Tryz.prog 14 #[shelfV s bv nv, .int .i64 id] w fun e w' => ∃ ka kc, Grow w w' ∧ e = .returned (.tuple #[.slice ka L.length kc, .int .i64 0]) ∧ Items w' (.slice ka L.length kc) L := by
  refine (seekKin_any s bv nv id w h hz hT).mono ?_
  rintro e w' ⟨v, rfl, g, hr⟩
  rw [hL] at hr
  obtain ⟨ka, kc, ev, -⟩ := hr.slice
  subst ev
  exact ⟨ka, kc, g, by rw [he], row_items hr⟩
set_option maxRecDepth 100000 in
set_option maxHeartbeats 8000000 in
theorem kin_walk (s : Shelf) (bv nv : Value) (which : Int) (w : World) (h : ShelfR w s bv nv) (hI : ∀ n ∈ s.notes, ∀ y ∈ n.sheets, Wf y) (hG : ∀ n ∈ s.notes, n.tags.length ≤ 9223372036854775807) (hT : Tabs w) (hm : MaxL w) :
    Calls Tryz.prog 6 #[shelfV s bv nv, .int .i64 which] w fun e w' => e = .returned (.bool true) ∧ Grow w w' := by
  have HTB := Lib.hid hT
  have HMX := Lib.hid hm
  obtain ⟨xa, xc, rfl⟩ := h.1.mk
  obtain ⟨ya, yc, rfl⟩ := h.2.mk
  have HRS := Lib.hid h
  have HI := Lib.hid hI
  have HGT := Lib.hid hG
  have HXX := Lib.hid (heap_alloc_new w (.cells #[.int .i64 s.nb, .int .i64 s.nn, .int .i64 s.ns, .slice xa s.books.length xc, .slice ya s.notes.length yc] 25))
  clear h hI hG hT hm
  unfold shelfV
  go_enter Tryz.func6, Tryz.ntmps6
  go_upto_region 1 with (fail)
  generalize hV : w.alloc (.cells #[.int .i64 s.nb, .int .i64 s.nn, .int .i64 s.ns, .slice xa s.books.length xc, .slice ya s.notes.length yc] 25) = U1
  have gV : Grow w U1 := by rw [← hV]; exact (Grow.refl w).alloc _
  have HB1 : Hid (U1.heap[w.heap.size]? = some (shB s (.slice xa s.books.length xc) (.slice ya s.notes.length yc))) := by rw [← hV]; exact HXX
  clear hV HXX
  have GW := Lib.hid gV
  have HRW := Lib.hid (HRS.out.grow gV)
  clear gV
  have c := great_any s _ _ _ HRW.out HGT.out
  try unfold shelfV at c
  obtain ⟨⟨p0, p1, p2, p3, p4⟩, pz⟩ := n5 HB1.out
  go_wp2_with fail
  refine c.mono ?_
  clear c p0 p1 p2 p3 p4 pz
  rintro e U2 ⟨g, r, rfl, hr⟩
  replace GW := Lib.hid (GW.out.trans g)
  replace HRW := Lib.hid (HRW.out.grow g)
  replace HB1 := Lib.hid (Grow.blk g HB1.out)
  clear g
  cases r with
  | true =>
    clear hr
    have c := awake26_any _ (HTB.out.below GW.out) (HMX.out.grow GW.out)
    go_wp2_with fail
    refine c.mono ?_
    rintro e UA ⟨rfl, gA⟩
    go_wp2_with fail
    go_ret
    exact ⟨rfl, GW.out.trans gA⟩
  | false =>
    have hlow := hr rfl
    have HZ := Lib.hid (show TameS s from ⟨hlow.tame, HI.out⟩)
    clear hr hlow
    have c := mayS_any s _ _ _ HRW.out HZ.out (HTB.out.below GW.out)
    unfold shelfV at c
    obtain ⟨⟨p0, p1, p2, p3, p4⟩, pz⟩ := n5 HB1.out
    cases hmy : mayS s
    · rw [hmy] at c
      clear hmy
      go_wp2_with fail
      refine c.mono ?_
      clear c p0 p1 p2 p3 p4 pz
      rintro e U3 ⟨rfl, g⟩
      replace GW := Lib.hid (GW.out.trans g)
      replace HRW := Lib.hid (HRW.out.grow g)
      replace HB1 := Lib.hid (Grow.blk g HB1.out)
      clear g
      have c := awake26_any _ (HTB.out.below GW.out) (HMX.out.grow GW.out)
      go_wp2_with fail
      refine c.mono ?_
      rintro e UA ⟨rfl, gA⟩
      go_wp2_with fail
      go_ret
      exact ⟨rfl, GW.out.trans gA⟩
    rw [hmy] at c
    have HP := Lib.hid (mayS_iff.1 hmy)
    clear hmy
    go_wp2_with fail
    refine c.mono ?_
    clear c p0 p1 p2 p3 p4 pz
    rintro e U3 ⟨rfl, g⟩
    replace GW := Lib.hid (GW.out.trans g)
    replace HRW := Lib.hid (HRW.out.grow g)
    replace HB1 := Lib.hid (Grow.blk g HB1.out)
    clear g
    obtain ⟨T, hT⟩ : ∃ T, tagsI s = T := ⟨_, rfl⟩
    have HBD := Lib.hid (show ∀ i, 0 ≤ sumT T i ∧ sumT T i ≤ 48 from by rw [← hT]; exact sumT_bd HP.out)
    have HSM := Lib.hid (show sumT T T.length = (sumN s.notes s.notes.length : Nat) from by rw [← hT]; exact sum_same HP.out)
    have HIN := Lib.hid (show T.Pairwise fun a b => ltS a.name b.name = true from by rw [← hT]; exact tags_inc)
    have HTN := Lib.hid (show s.notes.length = 0 → T.length = 0 from fun h => by rw [← hT]; exact tags_none h)
    have hT6 : T.length ≤ 1000000 := by rw [← hT]; exact tags_few HP.out
    have hnl := HZ.out.1.2.1
    have c := seekTags_any s _ _ _ HRW.out HZ.out (HTB.out.below GW.out)
    rw [hT] at c
    unfold shelfV at c
    clear hT
    obtain ⟨⟨p0, p1, p2, p3, p4⟩, pz⟩ := n5 HB1.out
    go_wp2_with fail
    refine c.mono ?_
    clear c p0 p1 p2 p3 p4 pz
    rintro e U4 ⟨v, rfl, g, hr⟩
    replace GW := Lib.hid (GW.out.trans g)
    replace HRW := Lib.hid (HRW.out.grow g)
    replace HB1 := Lib.hid (Grow.blk g HB1.out)
    obtain ⟨ta, tc, ev, -⟩ := hr.slice
    subst ev
    have HT := Lib.hid (row_items hr)
    clear hr g
    go_wp2_with fail
    go_loopw [5, 8] (fun v5 v8 wx => ∃ i : Nat, v5 = .int .i64 (sumT T i) ∧ v8 = .int .i64 i ∧ i ≤ T.length ∧ Grow U4 wx) (fun _ v8 _ => T.length - (Go.RowKit.intOf v8).toNat)
    case atStart => exact ⟨0, rfl, rfl, by omega, Grow.refl _⟩
    case round =>
      obtain ⟨i, rfl, rfl, hi, hg⟩ := hrel
      have HG := Lib.hid hg
      clear hg
      by_cases hlt : i < T.length
      · have hlt' : (i : Int) < T.length := by omega
        obtain ⟨x, hx, -⟩ := lt_get hlt
        obtain ⟨bb, off, rfl, hb, q0, q1⟩ := (Items.grow HT.out HG.out).at hx
        have HX := Lib.hid hx
        have HNX := Lib.hid (sumT_next hx)
        obtain ⟨S, hS⟩ : ∃ S, sumT T i = S := ⟨_, rfl⟩
        have hw : IntKind.i64.wrap (S + x.id) = S + x.id := IntWalk.i64_in _ (by have h1 := HBD.out (i + 1); have h2 := HNX.out; rw [hS] at h2; omega)
        have HS := Lib.hid hS
        rw [hS]
        clear hx hS
        go_upto_region 9 with (fail)
        rcases Nat.eq_zero_or_pos i with h0 | h0
        · have hd : decide (0 < i) = false := decide_eq_false (by omega)
          have hd' : decide ((0 : Int) < i) = false := decide_eq_false (by omega)
          clear h0
          refine wp_region_gr (by kernel_rfl) (by kernel_rfl) ?_
          repeat (go_big_quiet_step (fail))
          refine wpQuiet_nil ?_
          rintro _ ⟨yy, rfl⟩
          have HG6 := Lib.hid (HG.out.trans yy.g)
          generalize yy.W = w6 at *
          clear yy q0 q1 hb
          go_wp2_with fail
          go_roundw
          case rel => exact ⟨i + 1, by rw [HNX.out, HS.out], by go_num, by omega, HG6.out⟩
          case measure => simp [Go.RowKit.intOf]; omega
        · obtain ⟨u, hu, -⟩ := lt_get (l := T) (i := i - 1) (by omega)
          obtain ⟨b', off', eZ, -, k0, k1⟩ := (Items.grow HT.out HG.out).at hu
          injection eZ with eZ
          injection eZ with e1 e2
          subst e1 e2
          have hl2 : ltS u.name x.name = true := by
            have h9 := List.pairwise_iff_getElem.1 HIN.out (i - 1) i (by omega) hlt (by omega)
            rw [(List.getElem?_eq_some_iff.1 hu).2, (List.getElem?_eq_some_iff.1 HX.out).2] at h9
            exact h9
          have hlt3 : Op.bytesLess x.name.toList u.name.toList = false := by
            cases e : ltS x.name u.name
            · exact e
            · have h9 := ltS_trans e hl2
              rw [ltS_irrefl] at h9; cases h9
          have heq : (x.name.toList == u.name.toList) = false := by
            cases e : (x.name.toList == u.name.toList)
            · rfl
            · rw [list_eq.1 e, ltS_irrefl] at hl2; cases hl2
          have hd : decide (0 < i) = true := decide_eq_true (by omega)
          have hd' : decide ((0 : Int) < i) = true := decide_eq_true (by omega)
          have hi0 : IntKind.i64.wrap ((i : Int) - 1) = (i : Int) - 1 := IntWalk.i64_in _ (by omega)
          have hi1 : (0 : Int) ≤ (i : Int) - 1 := by omega
          have hi2 : (i : Int) - 1 < T.length := by omega
          have hi3 : ((i : Int) - 1).toNat = i - 1 := by omega
          clear hu hl2
          refine wp_region_gr (by kernel_rfl) (by kernel_rfl) ?_
          repeat (first | go_big_quiet_step (fail) | rw [hlt3, heq])
          refine wpQuiet_nil ?_
          rintro _ ⟨yy, rfl⟩
          have HG6 := Lib.hid (HG.out.trans yy.g)
          generalize yy.W = w6 at *
          clear yy q0 q1 hb k0 k1
          go_wp2_with fail
          go_roundw
          case rel => exact ⟨i + 1, by rw [HNX.out, HS.out], by go_num, by omega, HG6.out⟩
          case measure => simp [Go.RowKit.intOf]; omega
      · have hlt' : ¬ (i : Int) < T.length := by omega
        have hie : i = T.length := by omega
        have HSM2 := Lib.hid (show sumT T i = (sumN s.notes s.notes.length : Nat) from by rw [hie]; exact HSM.out)
        rw [HSM2.out]
        obtain ⟨S, hS⟩ : ∃ S : Nat, sumN s.notes s.notes.length = S := ⟨_, rfl⟩
        have HSS := Lib.hid hS
        rw [hS]
        replace GW := Lib.hid (GW.out.trans HG.out)
        replace HRW := Lib.hid (HRW.out.grow HG.out)
        replace HB1 := Lib.hid (Grow.blk HG.out HB1.out)
        clear hie hS hi HSM HSM2 HIN HBD HT HG
        generalize wr = U5 at *
        go_wp2_with fail
        clear hlt hlt'
        go_loopw [6, 9] (fun v6 v9 wx => ∃ i : Nat, v6 = .int .i64 (sumN s.notes i : Nat) ∧ v9 = .int .i64 i ∧ i ≤ s.notes.length ∧ Grow U5 wx) (fun _ v9 _ => s.notes.length - (Go.RowKit.intOf v9).toNat)
        case atStart => exact ⟨0, rfl, rfl, by omega, Grow.refl _⟩
        case round =>
          obtain ⟨i, rfl, rfl, hi, hg⟩ := hrel
          have HG := Lib.hid hg
          obtain ⟨⟨p0, p1, p2, p3, p4⟩, pz⟩ := n5 (Grow.blk hg HB1.out)
          clear hg
          by_cases hlt : i < s.notes.length
          · have hlt' : (i : Int) < s.notes.length := by omega
            obtain ⟨x, hx, -⟩ := lt_get hlt
            obtain ⟨bb, off, tv, sv, rfl, hb, q0, q1, q2, q3, q4, htg, hsv⟩ := (Notes.grow HRW.out.2 HG.out).at hx
            obtain ⟨xa3, xc3, etv⟩ := htg.mk
            subst etv
            have HNX := Lib.hid (sumN_next hx)
            have hle := sumN_le HP.out (i + 1)
            rw [HNX.out] at hle
            obtain ⟨R, hR⟩ : ∃ R : Nat, sumN s.notes i = R := ⟨_, rfl⟩
            have HR := Lib.hid hR
            rw [hR] at hle ⊢
            have hw : IntKind.i64.wrap ((R : Int) + x.tags.length) = (R : Int) + x.tags.length := IntWalk.i64_in _ (by omega)
            clear hx htg hsv hR
            go_wp2_with fail
            go_roundw
            case rel => exact ⟨i + 1, by rw [HNX.out, HR.out]; go_num, by go_num, by omega, HG.out⟩
            case measure => simp [Go.RowKit.intOf]; omega
          · have hlt' : ¬ (i : Int) < s.notes.length := by omega
            have hie : i = s.notes.length := by omega
            rw [show sumN s.notes i = S by rw [hie]; exact HSS.out]
            replace GW := Lib.hid (GW.out.trans HG.out)
            replace HRW := Lib.hid (HRW.out.grow HG.out)
            replace HB1 := Lib.hid (Grow.blk HG.out HB1.out)
            have hSS : ((S : Int) != (S : Int)) = false := by simp
            clear hie hi HSS HG
            generalize wr = U6 at *
            by_cases hn0 : s.notes.length = 0
            · have hn1 : ((s.notes.length : Int) == 0) = true := by rw [beq_iff_eq]; omega
              have ht1 : ((T.length : Int) == 0) = true := by rw [beq_iff_eq]; have := HTN.out hn0; omega
              clear hn0
              have c := awake26_any _ (HTB.out.below GW.out) (HMX.out.grow GW.out)
              go_wp2_with fail
              refine c.mono ?_
              rintro e UA ⟨rfl, gA⟩
              go_wp2_with fail
              go_ret
              exact ⟨rfl, GW.out.trans gA⟩
            have hn1 : ((s.notes.length : Int) == 0) = false := by rw [beq_eq_false_iff_ne]; omega
            obtain ⟨K, hK, hKl⟩ : ∃ K : Nat, lowI which s.notes.length = (K : Int) ∧ K < s.notes.length := by
              have h9 := lowI_bd which s.notes.length (by omega)
              exact ⟨(lowI which s.notes.length).toNat, by omega, by omega⟩
            obtain ⟨x, hx, -⟩ := lt_get hKl
            have hKi : (K : Int) < s.notes.length := by omega
            have cL := fun W => low_any which s.notes.length W (by omega) (by omega)
            rw [hK] at cL
            obtain ⟨nb, off, tv, sv, ey, hb, q0, q1, q2, q3, q4, htg, hsv⟩ := HRW.out.2.at hx
            subst ey
            obtain ⟨za, zc, etv⟩ := htg.mk
            obtain ⟨sa, sc, esv⟩ := hsv.mk
            subst etv esv
            have HX := Lib.hid hx
            have HXE := Lib.hid (show noteE s x.id = 0 ∧ noteOf s x.id = x from ⟨noteE_zero.2 ⟨mayS_iff.2 HP.out, (noteOf_of HP.out (List.mem_of_getElem? hx)).1⟩, (noteOf_of HP.out (List.mem_of_getElem? hx)).2⟩)
            obtain ⟨⟨p0, p1, p2, p3, p4⟩, pz⟩ := n5 HB1.out
            clear hx htg hsv hK
            go_upto_region 19 with (fail)
            go_cut [10] (fun v10 wx => ∃ bz, v10 = .pointer (some ⟨bz, 0, none⟩) ∧ Grow U6 wx ∧ wx.heap[bz]? = some (.cells #[.int .i64 x.id, .int .i64 x.book, .string x.name, .slice za x.tags.length zc, .slice sa x.sheets.length sc] 54 (0, 0)))
            case first =>
              go_region_law (first
                | (go_simp; go_at_call 31; refine (cL _).mono ?_; rintro e UF ⟨rfl, rfl⟩))
              all_goals
                go_wp2_with fail
                go_meet
                exact ⟨_, rfl, ((Grow.refl U6).alloc _).drew, ((Grow.refl _).drew).blk (heap_alloc_new U6 _)⟩
            case rest =>
              obtain ⟨bz, rfl, gT, hbz⟩ := hcut
              have HBZ := Lib.hid hbz
              replace GW := Lib.hid (GW.out.trans gT)
              replace HRW := Lib.hid (HRW.out.grow gT)
              replace HB1 := Lib.hid (Grow.blk gT HB1.out)
              clear p0 p1 p2 p3 p4 pz q0 q1 q2 q3 q4 hb cL gT hbz hn1 hSS
              generalize wc = V at *
              obtain ⟨L, hL⟩ : ∃ L, kinI s x.id = L := ⟨_, rfl⟩
              have HKF := Lib.hid (show ∀ y ∈ L, noteE s y.id = 0 ∧ y.id ≠ x.id ∧ inB (kinI s y.id) ⟨x.id, x.name⟩ = true from fun y hy => by
                have h9 := kin_back HP.out HXE.out.1 (by rw [hL]; exact hy)
                rw [HXE.out.2] at h9
                exact h9)
              have HKN := Lib.hid (show x.tags.length = 0 → L.length = 0 from fun h => by
                rw [← hL, kin_none HP.out HXE.out.1 (by rw [HXE.out.2]; exact List.eq_nil_of_length_eq_zero h)]; rfl)
              have hL6 : L.length ≤ 1000000 := by rw [← hL]; exact kin_few HP.out
              have c := kin_out s _ _ x.id V HRW.out HZ.out (HTB.out.below GW.out) HXE.out.1 hL
              unfold shelfV at c
              clear hL
              obtain ⟨⟨p0, p1, p2, p3, p4⟩, pz⟩ := n5 HB1.out
              obtain ⟨⟨m0, m1, m2, m3, m4⟩, mz⟩ := n5 HBZ.out
              go_wp2_with fail
              refine c.mono ?_
              clear c p0 p1 p2 p3 p4 pz m0 m1 m2 m3 m4 mz
              rintro e V1 ⟨ka, kc, g, rfl, hit⟩
              have HL := Lib.hid hit
              have HGV := Lib.hid g
              replace GW := Lib.hid (GW.out.trans g)
              replace HRW := Lib.hid (HRW.out.grow g)
              replace HB1 := Lib.hid (Grow.blk g HB1.out)
              replace HBZ := Lib.hid (Grow.blk g HBZ.out)
              clear g hit
              obtain ⟨⟨m0, m1, m2, m3, m4⟩, mz⟩ := n5 HBZ.out
              go_upto_region 21 with (fail)
              go_cut [112] (fun v112 wx => v112 = .bool false ∧ Grow V1 wx)
              case first =>
                by_cases ht0 : x.tags.length = 0
                · have ht1 : ((x.tags.length : Int) == 0) = true := by rw [beq_iff_eq]; omega
                  have hk1 : ((L.length : Int) != 0) = false := by have := HKN.out ht0; simp; exact List.eq_nil_of_length_eq_zero this
                  clear ht0
                  go_wp2_with fail
                  go_meet
                  exact ⟨rfl, Grow.refl _⟩
                · have ht1 : ((x.tags.length : Int) == 0) = false := by rw [beq_eq_false_iff_ne]; omega
                  clear ht0
                  go_wp2_with fail
                  go_meet
                  exact ⟨rfl, Grow.refl _⟩
              case rest =>
                obtain ⟨rfl, gT⟩ := hcut
                replace GW := Lib.hid (GW.out.trans gT)
                replace HRW := Lib.hid (HRW.out.grow gT)
                replace HB1 := Lib.hid (Grow.blk gT HB1.out)
                replace HBZ := Lib.hid (Grow.blk gT HBZ.out)
                replace HL := Lib.hid (Items.grow HL.out gT)
                clear m0 m1 m2 m3 m4 mz gT
                generalize wc = V2 at *
                go_wp2_with fail
                go_loopw [13] (fun v13 wx => ∃ i : Nat, v13 = .int .i64 i ∧ i ≤ L.length ∧ Grow V2 wx) (fun v13 _ => L.length - (Go.RowKit.intOf v13).toNat)
                case atStart => exact ⟨0, rfl, by omega, Grow.refl _⟩
                case round =>
                  obtain ⟨i, rfl, hi, hg⟩ := hrel
                  have HG := Lib.hid hg
                  clear hg
                  by_cases hlt : i < L.length
                  · have hlt' : (i : Int) < L.length := by omega
                    obtain ⟨y, hy, -⟩ := lt_get hlt
                    obtain ⟨yb, yoff, rfl, hyb, y0, y1⟩ := (Items.grow HL.out HG.out).at hy
                    obtain ⟨f1, f2, f3⟩ := HKF.out y (List.mem_of_getElem? hy)
                    obtain ⟨M, hM⟩ : ∃ M, kinI s y.id = M := ⟨_, rfl⟩
                    rw [hM] at f3
                    have hM6 : M.length ≤ 1000000 := by rw [← hM]; exact kin_few HP.out
                    have cN := fun W (g : Grow wr W) => kin_out s _ _ y.id W (HRW.out.grow (HG.out.trans g)) HZ.out (HTB.out.below (GW.out.trans (HG.out.trans g))) f1 hM
                    unfold shelfV at cN
                    have HY0 := Lib.hid y0
                    have HYB := Lib.hid hyb
                    have F3 := Lib.hid f3
                    have F2 := Lib.hid f2
                    clear hy f1 hM f3 f2 y1
                    obtain ⟨⟨p0, p1, p2, p3, p4⟩, pz⟩ := n5 (Grow.blk HG.out HB1.out)
                    go_upto_region 26 with (fail)
                    go_cut [14, 15] (fun v14 v15 wx => v15 = .int .i64 0 ∧ ∃ na nc, v14 = .slice na M.length nc ∧ Grow wr wx ∧ Items wx (.slice na M.length nc) M)
                    case first =>
                      go_region_law (first
                        | (go_simp; go_at_call 14; refine (cN _ (Grow.refl wr).drew).mono ?_; rintro e UF ⟨na, nc, gF, rfl, hin⟩; have HGF := Lib.hid (((Grow.refl wr).drew).trans gF); have HIN := Lib.hid hin; clear gF hin))
                      all_goals
                        go_wp2_with fail
                        go_meet
                        exact ⟨rfl, _, _, rfl, HGF.out, HIN.out⟩
                    case rest =>
                      obtain ⟨rfl, na, nc, rfl, gT, hin⟩ := hcut
                      have HGT := Lib.hid (HG.out.trans gT)
                      have z0 := (gT.cells yb (yoff + i * 2) HYB.out).trans HY0.out
                      have zb := Nat.lt_of_lt_of_le HYB.out gT.size
                      have hid : (y.id == x.id) = false := by rw [beq_eq_false_iff_ne]; exact F2.out
                      clear cN p0 p1 p2 p3 p4 pz y0 hyb gT
                      generalize wc = V3 at *
                      obtain ⟨⟨m0, m1, m2, m3, m4⟩, mz⟩ := n5 (Grow.blk HGT.out HBZ.out)
                      have kA : ∀ yy : Gr V3, Calls Tryz.prog 30 #[.slice na M.length nc, .agg #[.int .i64 x.id, .string x.name]] yy.W fun e w' => e = .returned (.bool true) ∧ Grow yy.W w' := fun yy => by
                        have h9 := inI_any _ M ⟨x.id, x.name⟩ yy.W (Items.grow hin yy.g) (by omega)
                        rw [F3.out] at h9
                        exact h9
                      go_upto_region 27 with (fail)
                      refine wp_region_gr (by kernel_rfl) (by kernel_rfl) ?_
                      repeat (first | go_big_quiet_step (first | (go_at_call 30; exact Calls.gr (kA _))) | rw [hid])
                      refine wpQuiet_nil ?_
                      rintro _ ⟨yy, rfl⟩
                      have HG6 := Lib.hid (HGT.out.trans yy.g)
                      generalize yy.W = w6 at *
                      clear kA yy z0 zb m0 m1 m2 m3 m4 mz hid hin
                      go_wp2_with fail
                      go_roundw
                      case rel => exact ⟨i + 1, by go_num, by omega, HG6.out⟩
                      case measure => simp [Go.RowKit.intOf]; omega
                  · have hlt' : ¬ (i : Int) < L.length := by omega
                    replace GW := Lib.hid (GW.out.trans HG.out)
                    have c := awake26_any _ (HTB.out.below GW.out) (HMX.out.grow GW.out)
                    go_wp2_with fail
                    refine c.mono ?_
                    rintro e UA ⟨rfl, gA⟩
                    go_wp2_with fail
                    go_ret
                    exact ⟨rfl, GW.out.trans gA⟩
theorem kin_rowlaw (s : Shelf) (bv nv : Value) (which : Int) (w : World) (h : ShelfArg w s bv nv) (hw : Wf which) (hT : Tabs w) (hm : MaxL w) :
    Calls Tryz.prog 6 #[shelfV s bv nv, .int .i64 which] w fun e w' => e = .returned (.bool true) ∧ Grow w w' := kin_walk s bv nv which w h.rows h.ints h.tags hT hm
end Go.Proofs.YtgpjcgcecahddaaGreatDoor
