/- RankCommits: the bits, the new pages (plain facts). -/
import Derived.Test.YtcfkpaijlibjaaaRkAt
import Derived.Test.YtcfkpaijlibjaaaLow
set_option linter.unusedVariables false
set_option linter.unusedSimpArgs false
namespace Go.Proofs.Ytcfkpaijlibjaaa
open Go.RowKit Go.Lib Go.Maps
/-- bits>>i & 1 -/
def bitI (b : Int) (i : Nat) : Int := bits .and .i64 (b / 2 ^ i) 1
theorem wrap_bit (x : Int) : IntKind.i64.wrap ((BitVec.ofInt 64 x &&& 1#64).toNat : Int) = x % 2 := by
  have h : ((BitVec.ofInt 64 x &&& 1#64).toNat : Int) = x % 2 := by
    rw [BitVec.toNat_and, show (1#64).toNat = 1 from rfl, Nat.and_one_is_mod, BitVec.toNat_ofInt]
    omega
  rw [h]
  rcases (by omega : x % 2 = 0 ∨ x % 2 = 1) with h | h <;> rw [h] <;> rfl
theorem bits_one (x : Int) : bits .and .i64 x 1 = x % 2 := (show bits .and .i64 x 1 = _ from rfl).trans (wrap_bit x)
theorem bit01 (b : Int) (i : Nat) : bitI b i = 0 ∨ bitI b i = 1 := by unfold bitI; rw [bits_one]; omega
/-- The new pages. -/
def newF (ps : List Int) (bits e : Int) (i : Nat) : Found := mkF (if bitI bits i = 1 then 2 else 1) (lowI (ps.getD i 0) 20) e i
def newsF (ps : List Int) (bits e : Int) (k : Nat) : List Found := (List.range k).map (newF ps bits e)
theorem newsF_succ (ps : List Int) (bits e : Int) (k : Nat) : newsF ps bits e (k + 1) = newsF ps bits e k ++ [newF ps bits e k] := by
  unfold newsF; rw [List.range_succ, List.map_append]; rfl
theorem newsF_len (ps : List Int) (bits e : Int) (k : Nat) : (newsF ps bits e k).length = k := by unfold newsF; simp
theorem newsF_ok (ps : List Int) (bits e : Int) (k : Nat) : NewPages e (newsF ps bits e k) := by
  intro f hf
  unfold newsF at hf
  obtain ⟨i, _, rfl⟩ := List.mem_map.1 hf
  refine ⟨?_, rfl⟩
  unfold newF mkF
  by_cases h : bitI bits i = 1
  · right; simp only [if_pos h]
  · left; simp only [if_neg h]
theorem newsF_wf (ps : List Int) (bits e : Int) (k : Nat) : ∀ f ∈ newsF ps bits e k, Wf f.pg := by
  intro f hf
  unfold newsF at hf
  obtain ⟨i, _, rfl⟩ := List.mem_map.1 hf
  have := lowI_bd (ps.getD i 0) 20 (by omega)
  have h : (newF ps bits e i).pg = lowI (ps.getD i 0) 20 := rfl
  rw [h]; unfold Wf; omega
theorem newsF_split (ps : List Int) (bits e : Int) {i n : Nat} (h : i < n) : newsF ps bits e n = newsF ps bits e i ++ newF ps bits e i :: ((List.range n).drop (i + 1)).map (newF ps bits e) := by
  unfold newsF
  rw [← List.map_cons, ← List.map_append]
  congr 1
  have h1 : List.range n = (List.range n).take i ++ (List.range n).drop i := (List.take_append_drop _ _).symm
  rw [List.drop_eq_getElem_cons (by simpa using h)] at h1
  rw [List.take_range, Nat.min_eq_left (by omega), List.getElem_range] at h1
  exact h1
/-- The last one of a page among the first i: its number, or -1. -/
def LastAt (ps : List Int) (p : Int) (i : Nat) (k : Int) : Prop := (k = -1 ∧ ∀ j : Nat, j < i → lowI (ps.getD j 0) 20 ≠ p) ∨ ∃ n : Nat, k = n ∧ n < i ∧ lowI (ps.getD n 0) 20 = p ∧ ∀ j : Nat, n < j → j < i → lowI (ps.getD j 0) 20 ≠ p
theorem LastAt.yes {ps : List Int} {p k : Int} {i : Nat} (h : LastAt ps p i k) (hp : lowI (ps.getD i 0) 20 = p) : LastAt ps p (i + 1) i :=
  .inr ⟨i, rfl, by omega, hp, fun j h1 h2 => by omega⟩
theorem LastAt.no {ps : List Int} {p k : Int} {i : Nat} (h : LastAt ps p i k) (hp : lowI (ps.getD i 0) 20 ≠ p) : LastAt ps p (i + 1) k := by
  rcases h with ⟨rfl, h⟩ | ⟨n, rfl, h1, h2, h3⟩
  · exact .inl ⟨rfl, fun j hj => by rcases (by omega : j < i ∨ j = i) with h4 | rfl; exact h j h4; exact hp⟩
  · exact .inr ⟨n, rfl, by omega, h2, fun j h4 hj => by rcases (by omega : j < i ∨ j = i) with h5 | rfl; exact h3 j h4 h5; exact hp⟩
section
variable {l : List Found} {ps : List Int} {bits p : Int}
/-- No new one: as before. -/
theorem commit_old (h0 : staleF l = []) (h : ∀ j : Nat, j < ps.length → lowI (ps.getD j 0) 20 ≠ p) :
    liveF (l ++ newsF ps bits (lastF l + 1) ps.length ++ [mkF 3 0 (lastF l + 1) ps.length]) p = liveF l p :=
  new_old h0 (newsF_ok _ _ _ _) rfl rfl fun f hf => by
    unfold newsF at hf
    obtain ⟨i, hi, rfl⟩ := List.mem_map.1 hf
    exact h i (List.mem_range.1 hi)
/-- The last new one of the page. -/
theorem commit_top (h0 : staleF l = []) {n : Nat} (hn : n < ps.length) (hp : lowI (ps.getD n 0) 20 = p) (h : ∀ j : Nat, n < j → j < ps.length → lowI (ps.getD j 0) 20 ≠ p) :
    liveF (l ++ newsF ps bits (lastF l + 1) ps.length ++ [mkF 3 0 (lastF l + 1) ps.length]) p = dataF (some (newF ps bits (lastF l + 1) n)) := by
  have hnew := newsF_ok ps bits (lastF l + 1) ps.length
  rw [newsF_split ps bits (lastF l + 1) hn] at hnew ⊢
  have := new_top h0 hnew (c := mkF 3 0 (lastF l + 1) ps.length) rfl rfl (fun f hf => by
    unfold newsF at hf
    obtain ⟨i, hi, rfl⟩ := List.mem_map.1 hf
    have := List.mem_range.1 hi
    show (i : Int) < n
    omega) (fun f hf => by
    obtain ⟨i, hi, rfl⟩ := List.mem_map.1 hf
    obtain ⟨q, hq, rfl⟩ := List.mem_iff_getElem.1 hi
    rw [List.getElem_drop, List.getElem_range]
    have h2 : q < ps.length - (n + 1) := by simpa using hq
    intro e
    exact h (n + 1 + q) (by omega) (by omega) (e.trans hp))
  rw [show (newF ps bits (lastF l + 1) n).pg = p from hp] at this
  exact this
theorem commit_data1 {n : Nat} {e : Int} (hb : bitI bits n = 1) : dataF (some (newF ps bits e n)) = none := by
  unfold dataF newF mkF; simp only [if_pos hb]; rfl
theorem commit_data0 {n : Nat} {e : Int} (hb : ¬ bitI bits n = 1) : dataF (some (newF ps bits e n)) = some (newF ps bits e n) := by
  unfold dataF newF mkF; simp only [if_neg hb]; rfl
end
end Go.Proofs.Ytcfkpaijlibjaaa
