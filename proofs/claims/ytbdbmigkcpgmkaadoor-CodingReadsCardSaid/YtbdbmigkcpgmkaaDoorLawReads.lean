/- The walk of the law CodingReads. -/
import Derived.Test.YtbdbmigkcpgmkaaDoorRefRead
import Derived.Test.YtbdbmigkcpgmkaaDoorReadW
set_option linter.unusedVariables false
set_option linter.unusedSimpArgs false
namespace Go.Proofs.YtbdbmigkcpgmkaaDoor
open Go.RowKit Go.Lib
def shR : Option Shelf → Shelf
  | some s => s
  | none => ⟨0, 0, 0, [], []⟩
def noR : Option Shelf → Int
  | some _ => 0
  | none => 5
/-- What is read is no greater than its bytes. -/
theorem shR_tame {l : List UInt8} (hl : l.length ≤ 1000000) : Tame (shR (readR l)) := by
  cases h : readR l with
  | none => exact ⟨by simp [shR], by simp [shR], by simp [shR], by simp [shR]⟩
  | some s =>
    obtain ⟨hm, rfl⟩ := read_sound h
    obtain ⟨-, -, -, f4, f5, f6, f7⟩ := fine_of hm
    refine ⟨by show s.books.length ≤ _; omega, by show s.notes.length ≤ _; omega, fun b hb => by have := (f6 b hb).2; omega, fun n hn => ?_⟩
    obtain ⟨-, -, a, b, c, d, -⟩ := f7 n hn
    exact ⟨by omega, by omega, by omega, fun t ht => by have := c t ht; omega⟩
theorem retRead_one {l : List UInt8} {w w' : World} {e : Ending} (h : RetRead l w e w') : Grow w w' ∧ ∃ bv nv Y, e = .returned (.tuple #[shelfV (shR (readR l)) bv nv, .int .i64 (noR (readR l))]) ∧ OwnS w.heap.size bv nv (shR (readR l)).books Y w' ∧ Y.map NV.n = (shR (readR l)).notes := by
  obtain ⟨g, h⟩ := h
  refine ⟨g, ?_⟩
  cases hr : readR l with
  | none => rw [hr] at h; exact ⟨_, _, [], h, OwnS.nil, rfl⟩
  | some s => rw [hr] at h; exact h
set_option maxRecDepth 100000 in
theorem num_is (n : Int) (w : World) : Calls Tryd.prog 26 #[.int .i64 n] w fun e w' => e = .returned (.int .i64 n) ∧ w = w' := by
  go_enter Tryd.func26, Tryd.ntmps26
  go_wp2_with fail
  go_ret
  exact ⟨rfl, rfl⟩
set_option maxRecDepth 100000 in
set_option maxHeartbeats 4000000 in
theorem reads_walk (vb : Value) (l : List UInt8) (w : World) (hb : Bytes w vb l) (hT : Tabs w) :
    Calls Tryd.prog 8 #[vb] w fun e w' => e = .returned (.bool true) ∧ Grow w w' := by
  have cA := fun W (g : Grow w W) => awake19_any W (hT.below g)
  obtain ⟨ba, bc, rfl⟩ := hb.mk
  have HB := Lib.hid hb
  have HT := Lib.hid hT
  by_cases hlong : 1500 < l.length
  · have hlong' : (1500 : Int) < l.length := by omega
    clear hb hT
    go_enter Tryd.func8, Tryd.ntmps8
    go_wp2_with fail
    refine (cA w (Grow.refl w)).mono ?_
    rintro e w2 ⟨rfl, g2⟩
    go_wp2_with fail
    go_ret
    exact ⟨rfl, g2⟩
  · have hshort : (l.length : Int) ≤ 1500 := by omega
    have c1 := lend_any _ l w hb (by omega)
    have HZ := Lib.hid (shR_tame (l := l) (by omega))
    clear hb hT
    go_enter Tryd.func8, Tryd.ntmps8
    go_wp2_with fail
    refine c1.mono ?_
    rintro e w1 ⟨g, rfl, hg, hblk, g1⟩
    have HK := Lib.hid hblk
    have hby := row_bytes (roomC_row (base := g) (by omega) hblk (Nat.le_refl _))
    have c2 := read_any _ l w1 hby (by omega) (HT.out.below g1)
    have HG := Lib.hid g1
    have hgl : g < w1.heap.size := (Array.getElem?_eq_some_iff.1 hblk).1
    clear c1 hblk hby
    go_wp2_with fail
    refine c2.mono ?_
    rintro e w2 h2
    obtain ⟨g2, bv, nv, Y, rfl, ho2, hm2⟩ := retRead_one h2
    have HR := Lib.hid (fun (w : World) e w' (h : RetRead l w e w') => retRead_one h)
    generalize shR (readR l) = s at *
    generalize noR (readR l) = n at *
    obtain ⟨xa, xc, hxv, -⟩ := ho2.books.slice
    obtain ⟨ya, yc, hyv, -⟩ := ho2.notes.slice
    subst hxv hyv
    have hyl : Y.length = s.notes.length := by rw [← hm2, List.length_map]
    rw [hyl] at ho2
    rw [hyl]
    have HO := Lib.hid ho2
    have HM := Lib.hid hm2
    obtain ⟨V, hV⟩ : ∃ V, V = w2.alloc (.cells #[.int .i64 s.nb, .int .i64 s.nn, .int .i64 s.ns, .slice xa s.books.length xc, .slice ya s.notes.length yc] 36) := ⟨_, rfl⟩
    have gV : Grow w2 V := by rw [hV]; exact (Grow.refl w2).alloc _
    have hVb : V.heap[w2.heap.size]? = some (shO s.nb s.nn s.ns (.slice xa s.books.length xc) (.slice ya s.notes.length yc)) := by rw [hV]; exact heap_alloc_new w2 _
    have HVB := Lib.hid hVb
    have c3 := rread_any _ l V (HB.out.grow ((HG.out.trans g2).trans gV)) (by omega)
    rw [hV] at c3
    have HV := Lib.hid hV
    have HG2 := Lib.hid (g2.trans gV)
    have HGV := Lib.hid gV
    unfold shelfV
    clear c2 h2 g2 ho2 hm2 hyl hV gV hVb
    go_wp2_with fail
    refine c3.mono ?_
    rintro e w3 h3
    obtain ⟨g3, bv', nv', Y', rfl, ho3, hm3⟩ := HR.out _ _ _ h3
    rw [← HV.out] at g3 ho3
    obtain ⟨xa', xc', hxv, -⟩ := ho3.books.slice
    obtain ⟨ya', yc', hyv, -⟩ := ho3.notes.slice
    subst hxv hyv
    have hyl : Y'.length = s.notes.length := by rw [← hm3, List.length_map]
    rw [hyl] at ho3
    rw [hyl]
    have HO3 := Lib.hid ho3
    have HM3 := Lib.hid hm3
    have HG3 := Lib.hid g3
    obtain ⟨U, hU⟩ : ∃ U, U = w3.alloc (.cells #[.int .i64 s.nb, .int .i64 s.nn, .int .i64 s.ns, .slice xa' s.books.length xc', .slice ya' s.notes.length yc'] 36) := ⟨_, rfl⟩
    have gU : Grow w3 U := by rw [hU]; exact (Grow.refl w3).alloc _
    have hUb : U.heap[w3.heap.size]? = some (shO s.nb s.nn s.ns (.slice xa' s.books.length xc') (.slice ya' s.notes.length yc')) := by rw [hU]; exact heap_alloc_new w3 _
    have HUB := Lib.hid hUb
    have gwU := ((HG.out.trans HG2.out).trans g3).trans gU
    have hkU := (((HG2.out.trans g3).trans gU)).blk HK.out
    have HKU := Lib.hid hkU
    have c4 := keptBytes_any _ l g U (HB.out.grow gwU) (by omega) hkU
    rw [hU] at c4
    have HU := Lib.hid hU
    have HGU := Lib.hid gU
    have HGW := Lib.hid gwU
    unfold shelfV
    clear c3 h3 g3 ho3 hm3 hyl hU gU hUb hkU gwU
    go_wp2_with fail
    refine c4.mono ?_
    rintro e w4 ⟨rfl, g4⟩
    rw [← HU.out] at g4
    have hk4 := g4.blk HKU.out
    have HK4 := Lib.hid hk4
    have hgw4 := HGW.out.trans g4
    have c5 := overBytes_any _ l.length w.heap.size _ w4 (roomC_row (by omega) hk4 hg) (by omega) hgw4.size
    have HS4 := Lib.hid (g4.blk (HGU.out.blk (HG3.out.blk HVB.out)))
    have HT4 := Lib.hid (g4.blk HUB.out)
    have HOS := Lib.hid (HO.out.grow (HGV.out.trans ((HG3.out.trans HGU.out).trans g4)))
    have HOT := Lib.hid (HO3.out.grow (HGU.out.trans g4))
    have HG4 := Lib.hid hgw4
    clear c4 g4 hk4 hgw4
    go_wp2_with fail
    refine c5.mono ?_
    rintro e w5 ⟨rfl, hg5⟩
    have t5 : Turned g w4 w5 := Turned.of_grown hg5
    have gw5 : Grow w w5 := t5.grow HG4.out hg
    have hks : KeptS w4 w5 := KeptS.of_turned t5 HK4.out ⟨by decide, by decide, by decide, by decide⟩
    have hs5 := (HOS.out.kept hks).reads
    have ht5 := (HOT.out.kept hks).reads
    rw [HM.out] at hs5
    rw [HM3.out] at ht5
    have hbs : w5.heap[w2.heap.size]? = some (shO s.nb s.nn s.ns (.slice xa s.books.length xc) (.slice ya s.notes.length yc)) :=
      (t5.block _ (Array.getElem?_eq_some_iff.1 HS4.out).1 (no_cells HK4.out HS4.out (by decide)).symm).trans HS4.out
    have hbt : w5.heap[w3.heap.size]? = some (shO s.nb s.nn s.ns (.slice xa' s.books.length xc') (.slice ya' s.notes.length yc')) :=
      (t5.block _ (Array.getElem?_eq_some_iff.1 HT4.out).1 (no_cells HK4.out HT4.out (by decide)).symm).trans HT4.out
    have cY := sameShelf_any s s _ _ _ _ w5 ⟨hs5.1, hs5.2⟩ ⟨ht5.1, ht5.2⟩ HZ.out
    rw [same_yes rfl] at cY
    have cN := fun W => num_is n W
    obtain ⟨p0, p1, p2, p3, p4⟩ := box5 hbs
    obtain ⟨q0, q1, q2, q3, q4⟩ := box5 hbt
    have hz1 : w2.heap.size < w5.heap.size := (Array.getElem?_eq_some_iff.1 hbs).1
    have hz2 : w3.heap.size < w5.heap.size := (Array.getElem?_eq_some_iff.1 hbt).1
    unfold shelfV at cY
    clear c5 hg5 t5 hks hs5 ht5 hbs hbt
    go_wp2_with fail
    refine cY.mono ?_
    rintro e w6 ⟨rfl, g6⟩
    go_wp2_with fail
    refine (cN _).mono ?_
    rintro e w7 ⟨rfl, rfl⟩
    go_wp2_with fail
    refine (cA w6 (gw5.trans g6)).mono ?_
    rintro e w8 ⟨rfl, g8⟩
    go_wp2_with fail
    go_ret
    exact ⟨rfl, (gw5.trans g6).trans g8⟩
theorem reads_law (vb : Value) (l : List UInt8) (w : World) (hb : Bytes w vb l) (_ : ∀ x ∈ l, True) (hT : Tabs w) :
    Calls Tryd.prog 8 #[vb] w fun e w' => e = .returned (.bool true) ∧ Grow w w' := reads_walk vb l w hb hT
end Go.Proofs.YtbdbmigkcpgmkaaDoor
