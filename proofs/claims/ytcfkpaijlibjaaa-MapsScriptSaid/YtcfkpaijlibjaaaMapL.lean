/- Live of a map: a range over places. -/
import Derived.Test.YtcfkpaijlibjaaaMapA
import Derived.Test.YtcfkpaijlibjaaaPlInv
import Derived.Maps.RangeWalk
set_option linter.unusedVariables false
set_option linter.unusedSimpArgs false
namespace Go.Proofs.Ytcfkpaijlibjaaa
open Go.RowKit Go.Lib Go.Maps
/-- How many of the places where something stands are in a block. -/
def RetLiveM (H : Pl → Option Int) (blk : Int) (w : World) (e : Ending) (w' : World) : Prop :=
  Grow w w' ∧ ∃ ps : List Pl, ps.Nodup ∧ (∀ p, WfP p → (p ∈ ps ↔ (H p).isSome = true)) ∧ (∀ p ∈ ps, WfP p) ∧ e = .returned (.int .i64 ((ps.filter (fun p => p.b == blk)).length : Nat))
theorem ret_len {c d : Nat} (h : c = d) : (Ending.returned (.int .i64 (c : Int))) = .returned (.int .i64 (d : Nat)) := by rw [h]
theorem left_next {D : DataW Unit} {left : Lit → Bool} {vs : List Pl} {p : Pl} (hp : WfP p) (hleft : ∀ q, WfP q → left (plL q) = (has D (plL q) && !decide (q ∈ vs))) :
    ∀ q, WfP q → ((left (plL q) && !(plL q).sameKey (plL p)) = (has D (plL q) && !decide (q ∈ p :: vs))) := by
  intro q hq
  have hk : ∀ x, WfP x → WideAt.IsKeyLit (plL x) := fun x hx => plKeyed.key (plKey x hx)
  have hs : (plL q).sameKey (plL p) = decide (q = p) := by
    by_cases e : q = p
    · subst e; rw [WideAt.sameKey_self (hk q hq)]; simp
    · rw [decide_eq_false e]
      cases h : (plL q).sameKey (plL p) with
      | false => rfl
      | true => exact absurd (whoKV.inj q p hq hp (WideAt.sameKey_eq h)) e
  rw [hleft q hq, hs]
  by_cases e : q = p <;> simp [e]
set_option maxRecDepth 100000 in
set_option maxHeartbeats 2000000 in
theorem live_map {w : World} {B a h : Nat} {g : Geo} {n : Nat} {A : Int → Option Pl} {H : Pl → Option Int} (s : MSt w B a h g n A H) (blk : Int) (hn : n ≤ 1000000000) :
    Calls Try.prog 27 #[.pointer (some ⟨B, 0, none⟩), .int .i64 blk] w (RetLiveM H blk w) := by
  obtain ⟨hb, hA, ⟨D, h1, h2, h3, h4⟩, hne⟩ := s
  have hBw : B < w.heap.size := (Array.getElem?_eq_some_iff.1 hb).1
  obtain ⟨c0, c1, c2, c3, c4, c5, c6⟩ := map7 hb
  obtain ⟨w1, hr, hrg, hgr, hsz1⟩ := h1.range plKeyed Try.underlying74
  have g1 : Grow w w1 := Turned.grow (b := w.heap.size) (Turned.of_grown (hgr.but _)) (Grow.refl w) (Nat.le_refl _)
  have hsd := h1.size_le
  have H3 := Lib.hid h3
  have HRG := Lib.hid hrg
  clear hb hA h1 h2 h3 h4 hne hrg hgr hsz1
  go_enter Try.func27, Try.ntmps27
  go_wp2_with fail
  go_loopw [5, 6] (fun v5 v6 wx => ∃ (vs : List Pl) (left : Lit → Bool) (cnt : Nat), v5 = .int .i64 ((vs.filter (fun p => p.b == blk)).length : Nat) ∧ Grow w wx ∧ wx.ranges Try.prog 28 (elemE inV inD) h w.heap.size n D left cnt ∧ vs.Nodup ∧ (∀ p ∈ vs, WfP p ∧ has D (plL p) = true) ∧ (∀ p, WfP p → left (plL p) = (has D (plL p) && !decide (p ∈ vs))) ∧ vs.length + cnt ≤ n) (fun _ _ wx => wx.rangeLeft h w.heap.size)
  case atStart => exact ⟨[], has D, size D, rfl, g1, HRG.out, List.nodup_nil, by simp, by simp, by simpa using hsd⟩
  case round =>
    obtain ⟨vs, left, cnt, rfl, hg, hrg2, hnd, hin, hleft, hcnt⟩ := hrel
    have HML := Lib.hid hrg2.left_eq
    have hfl := List.length_filter_le (fun p : Pl => p.b == blk) vs
    obtain ⟨c, hc⟩ : ∃ c, c = (vs.filter (fun p => p.b == blk)).length := ⟨_, rfl⟩
    rw [← hc] at hfl
    rw [← hc]
    have HC := Lib.hid hc
    have HND := Lib.hid hnd
    have HIN := Lib.hid hin
    have HLE := Lib.hid hleft
    clear hc hnd hin hleft
    rcases hrg2.next plKeyed 0 with ⟨h0, hl, hrun⟩ | ⟨key, v, kl, y, w', cnt', hkey, hlk, hv, hat, hrun, hrg3, hlt, hgr3, hsz3, hen⟩
    · have hrun' : ∀ ty : TypeId, (Instr.next (.pointer (some ⟨w.heap.size, 0, none⟩)) false ty).run Try.prog wr = .ok (.tuple #[.bool false]) wr := fun _ => hrun
      have HL := Lib.hid hl
      clear hrun hl hrg2 h0
      go_wp2_with fail
      go_ret
      refine ⟨hg, vs, HND.out, fun p hp => ?_, fun p hp => (HIN.out p hp).1, ret_len HC.out⟩
      have e1 := HLE.out p hp
      rw [HL.out] at e1
      rw [← H3.out p hp]
      constructor
      · exact fun hm => (HIN.out p hm).2
      · intro hh
        rw [hh] at e1
        simpa using e1
    · obtain ⟨p, rfl, hp, rfl⟩ := plKey_inv hkey
      obtain ⟨y1, y2⟩ := y
      obtain ⟨c', rfl, -⟩ := elemE_inv hv
      have hrun' : ∀ ty : TypeId, (Instr.next (.pointer (some ⟨w.heap.size, 0, none⟩)) false ty).run Try.prog wr = .ok (.tuple #[.bool true, .agg #[.int .i64 p.b, .int .i64 p.p], .int .i64 c']) w' := fun _ => hrun
      have g3 : Grow w w' := (Turned.of_grown hgr3).grow hg (Nat.le_refl _)
      have HR3 := Lib.hid (hrg3.alloc (plO p.b p.p))
      have HLK := Lib.hid hlk
      have HLN := Lib.hid (left_next hp HLE.out)
      have hpm : p ∉ vs ∧ has D (plL p) = true := by
        have e1 := HLE.out p hp
        rw [hlk] at e1
        have e2 := Bool.and_eq_true_iff.1 e1.symm
        exact ⟨by simpa using e2.2, e2.1⟩
      have HPM := Lib.hid hpm
      have HP := Lib.hid hp
      clear hrun hrg2 hrg3 hlk hv hat hkey hgr3 hpm hp
      by_cases q : p.b = blk
      · have q1 : (p.b == blk) = true := by rw [q]; simp
        have HQ := Lib.hid (show ((p :: vs).filter (fun p => p.b == blk)).length = c + 1 by rw [List.filter_cons_of_pos (by simpa using q), List.length_cons, HC.out])
        clear q
        go_wp2_with fail
        go_roundw
        case rel => exact ⟨p :: vs, _, cnt', by rw [HQ.out]; go_num, g3.alloc _, HR3.out, List.nodup_cons.2 ⟨HPM.out.1, HND.out⟩, fun x hx => by
          rcases List.mem_cons.1 hx with rfl | hx
          · exact ⟨HP.out, HPM.out.2⟩
          · exact HIN.out x hx, HLN.out, by rw [List.length_cons]; omega⟩
        case measure => rw [HR3.out.left_eq, HML.out]; exact hlt
      · have q1 : (p.b == blk) = false := by rw [beq_eq_false_iff_ne]; exact q
        have HQ := Lib.hid (show ((p :: vs).filter (fun p => p.b == blk)).length = c by rw [List.filter_cons_of_neg (by simpa using q), HC.out])
        clear q
        go_wp2_with fail
        go_roundw
        case rel => exact ⟨p :: vs, _, cnt', by rw [HQ.out], g3.alloc _, HR3.out, List.nodup_cons.2 ⟨HPM.out.1, HND.out⟩, fun x hx => by
          rcases List.mem_cons.1 hx with rfl | hx
          · exact ⟨HP.out, HPM.out.2⟩
          · exact HIN.out x hx, HLN.out, by rw [List.length_cons]; omega⟩
        case measure => rw [HR3.out.left_eq, HML.out]; exact hlt
end Go.Proofs.Ytcfkpaijlibjaaa
