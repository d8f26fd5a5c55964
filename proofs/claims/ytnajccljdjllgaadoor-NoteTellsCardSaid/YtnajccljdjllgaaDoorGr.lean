/- A region that draws its order, whose operations read and whose calls only make memory: one walk of the text's order serves every order. The class of worlds: those that have grown out of the one at hand. -/
import Derived.Test.YtnajccljdjllgaaDoorData
import Derived.Deep.QuietTactic
import Derived.BigQuiet
set_option linter.unusedVariables false
set_option linter.unusedSimpArgs false
namespace Go.Proofs.YtnajccljdjllgaaDoor
open Go.RowKit Go.Lib
/-- A world grown out of w. -/
structure Gr (w : World) where
  W : World
  g : Grow w W
instance (w : World) : Nonempty (Gr w) := ⟨⟨w, Grow.refl w⟩⟩
theorem Gr.cell {w : World} (x : Gr w) (b o : Nat) (hb : b < w.heap.size) : x.W.cell? ⟨b, o, none⟩ = w.cell? ⟨b, o, none⟩ := x.g.cells b o hb
theorem Gr.mark {w : World} (x : Gr w) (b o : Nat) (hb : b < w.heap.size) : x.W.frozen? ⟨b, o, none⟩ = w.frozen? ⟨b, o, none⟩ := x.g.marks b o hb
theorem Gr.block {w : World} (x : Gr w) (b : Nat) (hb : b < w.heap.size) : x.W.heap[b]? = w.heap[b]? := Below.block x.g b hb
attribute [go_sem] Gr.cell Gr.mark
theorem wp_region_gr {P : Program} {id : Nat} {Q : Exit → Act → World → Prop} {a : Act} {w : World} {l : List Oper} (hm : P.follows .mixedOrders = true) (hB : Region.lexB .any l.toArray = true)
    (h : wpQuiet P l.toArray (fun w' => ∃ x : Gr w, w' = x.W) (fun a' => ∀ w', (∃ x : Gr w, w' = x.W) → Q .normal a' w') l a) : (Code.region id l.toArray true).wp P Q a w :=
  wp_region_quiet (C := fun w' => ∃ x : Gr w, w' = x.W) hm hB ⟨⟨w.drew, (Grow.refl w).drew⟩, rfl⟩ (by simpa using h)
/-- A contract met within such a walk. -/
theorem Calls.gr {P : Program} {f : FuncId} {args : Array Value} {w : World} {x : Gr w} {v : Value} (h : Calls P f args x.W fun e w' => e = .returned v ∧ Grow x.W w') :
    Calls P f args x.W fun e w'' => e = .returned v ∧ ∃ y : Gr w, w'' = y.W := h.mono fun _ w' ⟨he, hg⟩ => ⟨he, ⟨w', x.g.trans hg⟩, rfl⟩
theorem Calls.gr_same {P : Program} {f : FuncId} {args : Array Value} {w : World} {x : Gr w} {v : Value} (h : Calls P f args x.W fun e w' => e = .returned v ∧ x.W = w') :
    Calls P f args x.W fun e w'' => e = .returned v ∧ ∃ y : Gr w, w'' = y.W := h.mono fun _ w' ⟨he, hg⟩ => ⟨he, x, hg.symm⟩
end Go.Proofs.YtnajccljdjllgaaDoor
