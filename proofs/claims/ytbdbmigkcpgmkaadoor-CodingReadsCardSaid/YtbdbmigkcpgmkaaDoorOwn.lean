/- Buffers of bytes that a call owns, grown by appends. -/
import Derived.Test.YtbdbmigkcpgmkaaDoorIdx
import Derived.Test.YtbdbmigkcpgmkaaDoorRow
set_option linter.unusedVariables false
set_option linter.unusedSimpArgs false
namespace Go.Proofs.YtbdbmigkcpgmkaaDoor
open Go.RowKit Go.Lib
/-! Buffers of bytes -/
theorem info_u8 : (Tryd.prog.info? 5).map (fun i => (i.zero, i.size, i.bytes)) = some (some (.int .u8 0), 1, 1) := by kernel_rfl
def byteV (c : UInt8) : Value := .int .u8 c.toNat
abbrev Buf (W0 : World) (v : Value) (l : List UInt8) (w : World) : Prop := Own 5 1 W0 v l.length (l.map byteV) w
theorem Buf.bytes {W0 : World} {v : Value} {l : List UInt8} {w : World} (h : Buf W0 v l w) : Bytes w v l := by
  refine Own.reads h fun i x hx => ?_
  rw [Nat.mul_one, List.take_one, List.head?_drop, List.getElem?_map, hx]; rfl
theorem byteV_of {c : Int} (h : 0 ≤ c ∧ c < 256) : byteV (UInt8.ofNat c.toNat) = .int .u8 c := by
  unfold byteV
  rw [UInt8.toNat_ofNat']
  congr 1; omega
theorem app_byte {ops : Array Oper} {rest : List Oper} {o : Oper} {a : Act} {Q : Exit → Act → World → Prop} (hgd : o.guard = none) (s x : Operand)
    (ho : o.op = .call { callee := .builtin .append, args := #[s, x], argTypes := #[38, 38] })
    (v : Value) (l : List UInt8) (hs : a.eval s = v) (W0 w : World) (hb : Buf W0 v l w) (c : Int) (hc : 0 ≤ c ∧ c < 256)
    (hx : a.eval x = .slice (some ⟨w.heap.size, 0, none⟩) 1 1) (hn : l.length + 1 ≤ 1000000000000)
    (h : ∀ v' w', Buf W0 v' (l ++ [UInt8.ofNat c.toNat]) w' → Kept 5 w w' → wpList Tryd.prog ops Q rest (a.put o.dst v') w') : wpList Tryd.prog ops Q (o :: rest) a (w.alloc (.cells #[.int .u8 c] 5)) := by
  obtain ⟨i0, hi, hz0, hz1, hz2⟩ := info_parts info_u8
  refine app_one hgd s x 38 ho 5 i0 _ 1 1 Tryd.underlying38 hi hz0 hz1 hz2 rfl (by decide) v l.length (l.map byteV) hs W0 w hb [.int .u8 c] rfl (by simp [Value.oneCell']) hx hn (by decide) ?_
  intro v' w' h1 h2 _
  refine h v' w' ?_ h2
  rw [show [Value.int .u8 c] = [UInt8.ofNat c.toNat].map byteV by rw [List.map_cons, List.map_nil, byteV_of hc], ← List.map_append, show l.length + 1 = (l ++ [UInt8.ofNat c.toNat]).length by simp] at h1
  exact h1
theorem strCells_eq (s : ByteArray) : strCells s = s.data.toList.map byteV := rfl
theorem app_str {ops : Array Oper} {rest : List Oper} {o : Oper} {a : Act} {Q : Exit → Act → World → Prop} {w : World} (hgd : o.guard = none) (sl x : Operand)
    (ho : o.op = .call { callee := .builtin .append, args := #[sl, x], argTypes := #[38, 9] })
    (v : Value) (l : List UInt8) (hs : a.eval sl = v) (W0 : World) (hb : Buf W0 v l w) (s : ByteArray) (hx : a.eval x = .string s) (hn : l.length + s.size ≤ 1000000000000)
    (h : ∀ v' w', Buf W0 v' (l ++ s.data.toList) w' → Kept 5 w w' → wpList Tryd.prog ops Q rest (a.put o.dst v') w') : wpList Tryd.prog ops Q (o :: rest) a w := by
  obtain ⟨i0, hi, hz0, hz1, hz2⟩ := info_parts info_u8
  refine Go.Proofs.YtbdbmigkcpgmkaaDoor.app_text hgd sl x 38 9 ho 5 i0 Tryd.underlying38 Tryd.underlying9 hi hz0 hz1 hz2 v l.length (l.map byteV) hs W0 hb s hx hn ?_
  intro v' w' h1 h2
  refine h v' w' ?_ h2
  rw [strCells_eq, ← List.map_append, show l.length + s.size = (l ++ s.data.toList).length by rw [List.length_append]; rfl] at h1
  exact h1
end Go.Proofs.YtbdbmigkcpgmkaaDoor
