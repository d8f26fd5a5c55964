/- 'a[x], b[y] = ..': an entry is made first and filled later, with other blocks changed between: for keys of any kind. -/
import Derived.Test.YtcfkpaijlibjaaaPMap
import Derived.WideKeyEntry
set_option linter.unusedVariables false
set_option linter.unusedSimpArgs false
namespace Go.Proofs.Ytcfkpaijlibjaaa
open Go.RowKit Go.Lib Go.Maps Go.ChangeShapes Go.WideShapes Go.MapKept Go.ChangeMaps
section
variable {P : Program} {w : World} {t k e : TypeId} {R : Value → Option (DataW Unit × List MemPlace)} {b n : Nat} {D : DataW Unit}
theorem setBlock_inj {w : World} {b : Nat} {es : Array MapEntry} {clock : Nat} {o1 o2 : Obj} (hb : w.heap[b]? = some (.map es clock)) (h : setBlock w b o1 = setBlock w b o2) : o1 = o2 := by
  have h1 := heap_setBlock_same hb o1
  rw [h, heap_setBlock_same hb o2] at h1
  exact (Option.some.inj h1).symm
/-- The entry that was made is filled: as if it had been put at once. -/
theorem owns_entry (K : Keyed P k) (ht : P.underlying t = some (.map k e)) {z : Value} (hz : ∀ u : World, (zeroValue e).run P u = .ok z u) (h : w.ownsMap P k R b n D) (hn : n < maxLen) {key : Value} {kl : Lit} (hkey : keyOf P k key = some kl) :
    ∃ (v0 : Value) (st : Nat) (w1 : World), (Instr.mapEntry t (.map (some b)) key).run P w = .ok (.tuple #[v0, goInt st]) w1 ∧ w.mapTurned w1 b ∧
      ∀ (W : World) (val : Value) (d : DataW Unit) (ps : List MemPlace), W.heap[b]? = w1.heap[b]? → R val = some (d, ps) →
        ∃ W', (Instr.entryStore t (.map (some b)) (goInt st) val).run P W = .ok () W' ∧ W'.ownsMap P k R b (n + 1) (D.put kl d) ∧ W.mapTurned W' b := by
  obtain ⟨es, clock, hb, F, hs, rfl⟩ := h
  obtain ⟨s1, s2, s3⟩ := F.stamped
  have fin : ∀ (W : World) (val : Value) (d : DataW Unit) (ps : List MemPlace) (ex : Array MapEntry) (cx : Nat) (es2 : Array MapEntry) (c2 : Nat), W.heap[b]? = some (.map ex cx) → es2.size ≤ n + 1 → R val = some (d, ps) →
      (Instr.mapUpdate t (.map (some b)) key val).run P w = .ok () (setBlock w b (.map es2 c2)) → (setBlock W b (.map es2 c2)).ownsMap P k R b (n + 1) ((DataW.map ((es.toList.map (WideElems.rg P k R)).foldr DataW.insert [])).put kl d) := by
    intro W val d ps ex cx es2 c2 hW hsz hv hrun
    obtain ⟨es', clock', hrun', F', hput, _⟩ := Maps.fit_store (R' := R) K ht hb F (Nat.lt_of_le_of_lt hs hn) (fun _ _ _ _ hz => hz) hkey hv
    rw [hrun] at hrun'
    injection hrun' with _ hr
    injection setBlock_inj hb hr with e1 e2
    subst e1 e2
    exact ⟨es2, c2, heap_setBlock_same hW _, F', hsz, by rw [DataW.put_eq, hput]⟩
  rcases K.find w hkey es.toList (WideElems.Fit.keys F) with ⟨h1, h2⟩ | ⟨j, e0, h1, h2, h3⟩
  · have hst := stamped_push (val := z) F.stamped h2
    refine ⟨z, clock, setBlock w b (.map (es.push ⟨key, z, clock⟩) (clock + 1)), ?_, ⟨es, clock, _, _, hb, rfl⟩, fun W val d ps hW hv => ?_⟩
    · simp [Instr.mapEntry, run_underlying ht, MapKept.run_getObj_map hb, K.check w false hkey, h1, hz, MapKept.run_setObj_map _ hb, Result.andThen, setBlock]
    · rw [heap_setBlock_same hb] at hW
      have hidx : (es.push ⟨key, z, clock⟩).findIdx? (fun e => ((e.born : Nat) : Int) == ((clock : Nat) : Int)) = some es.size := by
        rw [WideElems.findIdx_arr]
        exact WideElems.findIdx_born (e0 := ⟨key, z, clock⟩) hst.2.1 (by simp)
      have hmod : (es.push ⟨key, z, clock⟩).modify es.size (fun e => { e with val := val }) = es.push ⟨key, val, clock⟩ := by
        apply Array.ext'
        rw [Array.toList_modify, Array.toList_push, Array.toList_push, ← Array.length_toList, WideElems.modify_last]
      refine ⟨setBlock W b (.map (es.push ⟨key, val, clock⟩) (clock + 1)), ?_, fin W val d ps _ _ _ _ hW (by simp; omega) hv ?_, ⟨_, _, _, _, hW, rfl⟩⟩
      · simp [Instr.entryStore, MapKept.run_getObj_map hW, asInt, asIntOf, goInt, hidx, hmod, MapKept.run_setObj_map _ hW, Result.andThen, setBlock]
      · simp [Instr.mapUpdate, run_underlying ht, MapKept.run_getObj_map hb, K.check w false hkey, h1, MapKept.run_setObj_map _ hb, Result.andThen, setBlock]
  · have hj : es[j]? = some e0 := by simpa using h2
    have hsame : es.modify j (fun e => { e with key := key }) = es := by
      apply Array.ext'
      rw [Array.toList_modify, modify_eq_set _ _ _ _ h2, show ({ e0 with key := key } : MapEntry) = e0 by rw [← h3]]
      exact WideElems.set_self _ _ _ h2
    refine ⟨e0.val, e0.born, setBlock w b (.map es clock), ?_, ⟨es, clock, _, _, hb, rfl⟩, fun W val d ps hW hv => ?_⟩
    · simp [Instr.mapEntry, run_underlying ht, MapKept.run_getObj_map hb, K.check w false hkey, h1, hj, h3, K.stays w hkey, hsame, MapKept.run_setObj_map _ hb, Result.andThen, setBlock]
    · rw [heap_setBlock_same hb] at hW
      have hidx : es.findIdx? (fun e => ((e.born : Nat) : Int) == ((e0.born : Nat) : Int)) = some j := by
        rw [WideElems.findIdx_arr]
        exact WideElems.findIdx_born s2 h2
      have hmod : es.modify j (fun e => { e with val := val }) = es.modify j (fun e' => { e' with key := key, val := val }) := by
        apply Array.ext'
        rw [Array.toList_modify, Array.toList_modify, modify_eq_set _ _ _ _ h2, modify_eq_set _ _ _ _ h2, ← h3]
      refine ⟨setBlock W b (.map (es.modify j (fun e' => { e' with key := key, val := val })) clock), ?_, fin W val d ps _ _ _ _ hW (by simp; omega) hv ?_, ⟨_, _, _, _, hW, rfl⟩⟩
      · simp [Instr.entryStore, MapKept.run_getObj_map hW, asInt, asIntOf, goInt, hidx, hmod, MapKept.run_setObj_map _ hW, Result.andThen, setBlock]
      · simp [Instr.mapUpdate, run_underlying ht, MapKept.run_getObj_map hb, K.check w false hkey, h1, hj, h3, K.stays w hkey, MapKept.run_setObj_map _ hb, Result.andThen, setBlock]
end
section
variable {k e t : TypeId} {K V : Type} {Wk : K → Prop} {kv : K → Value} {kl : K → Lit} {vv : V → Value} {vd : V → DataW Unit} {R : Value → Option (DataW Unit × List MemPlace)} {z : V}
theorem GMap.entry (S : KV k e t Wk kv kl vv vd R z) {w : World} {b n : Nat} {f : K → Option V} (h : GMap k Wk kl vd R z w b n f) {x : K} (hx : Wk x) (hn : n ≤ 1000000000) [DecidableEq K] :
    ∃ (v0 : Value) (st : Nat) (w1 : World), (Instr.mapEntry t (.map (some b)) (kv x)).run Try.prog w = .ok (.tuple #[v0, goInt st]) w1 ∧ Turned b w w1 ∧
      ∀ (W : World) (y : V), W.heap[b]? = w1.heap[b]? → ∃ W', (Instr.entryStore t (.map (some b)) (goInt st) (vv y)).run Try.prog W = .ok () W' ∧ GMap k Wk kl vd R z W' b (n + 1) (fun a => if a = x then some y else f a) ∧ Turned b W W' := by
  obtain ⟨D, h1, h2, h3, h4⟩ := h
  obtain ⟨v0, st, w1, hr, ht, hf⟩ := owns_entry S.keyed S.und (z := vv z) S.zero h1 (by unfold maxLen; omega) (S.key x hx)
  have hk := S.keyed.key (S.key x hx)
  refine ⟨v0, st, w1, hr, Turned.of_grown ht.grown, fun W y hW => ?_⟩
  obtain ⟨W', hr2, h5, h6⟩ := hf W (vv y) (vd y) [] hW (S.mkE y)
  refine ⟨W', hr2, ⟨_, h5, h2.put _ _, fun a ha => ?_, fun a ha => ?_⟩, Turned.of_grown h6.grown⟩
  · by_cases e : a = x
    · subst e; rw [has_put_same h2 hk]; simp
    · rw [has_put_other (fun e' => e (S.inj _ _ ha hx (by first | exact e' | exact e'.symm))), h3 a ha]; simp [e]
  · by_cases e : a = x
    · subst e; rw [atKey_put_same h2 hk]; simp
    · rw [atKey_put_other (fun e' => e (S.inj _ _ ha hx (by first | exact e' | exact e'.symm))), h4 a ha]; simp [e]
end
end Go.Proofs.Ytcfkpaijlibjaaa
