/- The shelf of one note; what the awake of chapter 18 comes to, in plain words. -/
import Derived.Test.YtieohecgoaakmaaDoorOut
import Derived.Test.YtieohecgoaakmaaDoorCTag
import Derived.Test.YtieohecgoaakmaaDoorCAppend
import Derived.Test.YtieohecgoaakmaaDoorCRemove
set_option linter.unusedVariables false
set_option linter.unusedSimpArgs false
namespace Go.Proofs.YtieohecgoaakmaaDoor
open Go.RowKit Go.Lib
def tnB : ByteArray := ⟨#[98]⟩
def tnN : ByteArray := ⟨#[110]⟩
def tnX : ByteArray := ⟨#[120]⟩
def nSh (ns : Int) (ts : List ByteArray) (ss : List Int) : Shelf := ⟨2, 2, ns, [⟨1, tnB⟩], [⟨1, 1, tnN, ts, ss⟩]⟩
def o1 : Shelf := nSh 1 [] []
def o2 : Shelf := nSh 2 [] [1]
def o3 : Shelf := nSh 3 [] [1, 2]
def o4 : Shelf := nSh 3 [] [2]
def o5 : Shelf := nSh 1 [tnX] []
theorem may_o1 : mayS o1 = true := by decide +kernel
theorem may_o2 : mayS o2 = true := by decide +kernel
theorem may_o3 : mayS o3 = true := by decide +kernel
theorem may_o4 : mayS o4 = true := by decide +kernel
theorem app_1 : appendR o1 1 = ⟨o2, 1, 0⟩ := by
  have : appendE o1 1 = 0 := by decide +kernel
  rw [appendR, resOf_ok this]; rfl
theorem app_2 : appendR o2 1 = ⟨o3, 2, 0⟩ := by
  have : appendE o2 1 = 0 := by decide +kernel
  rw [appendR, resOf_ok this]; rfl
theorem rem_3 : removeR o3 1 0 = ⟨o4, 1, 0⟩ := by
  have : sheetE o3 1 0 = 0 := by decide +kernel
  rw [removeR, resOf_ok this]; rfl
theorem she_4 : sheetE o4 1 0 = 0 ∧ sheetV o4 1 0 = 2 := by
  have : sheetE o4 1 0 = 0 := by decide +kernel
  exact ⟨this, by rw [sheetV, if_pos this]; rfl⟩
theorem tag_1 : tagR o1 1 tnX = ⟨o5, 0, 0⟩ := by
  have : tagE o1 1 tnX = 0 := by decide +kernel
  rw [tagR, resOf_ok this]; rfl
set_option maxRecDepth 100000 in
theorem one_any (w : World) : Calls Tryd.prog 48 #[] w fun e w' => ∃ xa xc ya yc, Grow w w' ∧ e = .returned (.agg #[.int .i64 2, .int .i64 2, .int .i64 1, .slice xa 1 xc, .slice ya 1 yc]) ∧ ShelfR w' o1 (.slice xa 1 xc) (.slice ya 1 yc) := by
  go_enter Tryd.func48, Tryd.ntmps48
  go_wp2_with fail
  refine bodyPost_ret (v := .agg #[.int .i64 2, .int .i64 2, .int .i64 1, .slice (some ⟨w.heap.size + 1, 0, none⟩) 1 1, .slice (some ⟨w.heap.size + 1 + 1, 0, none⟩) 1 1]) ?_ rfl ?_
  · rw [results_cell rfl]
    go_simp
  · have key : ∀ W, Grow w W → W.heap[w.heap.size + 1]? = some (.cells #[.int .i64 1, .string tnB] 58 (0, 0)) → W.heap[w.heap.size + 1 + 1]? = some (.cells #[.int .i64 1, .int .i64 1, .string tnN, .slice none 0 0, .slice none 0 0] 38 (0, 0)) →
        ∃ xa xc ya yc, Grow w W ∧ Ending.returned (.agg #[.int .i64 2, .int .i64 2, .int .i64 1, .slice (some ⟨w.heap.size + 1, 0, none⟩) 1 1, .slice (some ⟨w.heap.size + 1 + 1, 0, none⟩) 1 1]) = .returned (.agg #[.int .i64 2, .int .i64 2, .int .i64 1, .slice xa 1 xc, .slice ya 1 yc]) ∧ ShelfR W o1 (.slice xa 1 xc) (.slice ya 1 yc) := fun W g k2 k3 => by
      refine ⟨_, _, _, _, g, rfl, ⟨_, _, rfl, by decide, fun _ => ⟨_, 0, rfl, (Array.getElem?_eq_some_iff.1 k2).1, fun i hi => ⟨bookC ⟨1, tnB⟩, rfl, fun x hx => ?_, fun j v hj => ?_⟩⟩⟩, ⟨_, _, rfl, by decide, fun _ => ⟨_, 0, rfl, (Array.getElem?_eq_some_iff.1 k3).1, fun i hi => ⟨[.int .i64 1, .int .i64 1, .string tnN, .slice none 0 0, .slice none 0 0], rfl, fun x hx => ?_, fun j v hj => ?_⟩⟩⟩⟩
      · obtain rfl : i = 0 := by have : o1.books.length = 1 := rfl; omega
        obtain rfl := Option.some.inj hx
        rfl
      · obtain rfl : i = 0 := by have : o1.books.length = 1 := rfl; omega
        rw [cell_of_row W _ _ _ _ _ k2]
        simpa using hj
      · obtain rfl : i = 0 := by have : o1.notes.length = 1 := rfl; omega
        obtain rfl := Option.some.inj hx
        exact ⟨_, _, rfl, Reads.nil, Reads.nil⟩
      · obtain rfl : i = 0 := by have : o1.notes.length = 1 := rfl; omega
        rw [cell_of_row W _ _ _ _ _ k3]
        simpa using hj
    exact key _ ((((Grow.refl w).alloc _).alloc _).alloc _) (three_boxes w _ _ _).2.1 (three_boxes w _ _ _).2.2
end Go.Proofs.YtieohecgoaakmaaDoor
