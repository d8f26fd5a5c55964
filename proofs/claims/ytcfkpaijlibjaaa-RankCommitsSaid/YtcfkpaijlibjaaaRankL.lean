/- The plain laws of chapter 10. -/
import Derived.Test.YtcfkpaijlibjaaaRankM
set_option linter.unusedVariables false
set_option linter.unusedSimpArgs false
namespace Go.Proofs.Ytcfkpaijlibjaaa
/-! in whatever order -/
theorem mem_turn {α : Type} (l : List α) (t : Nat) (x : α) : x ∈ l ↔ x ∈ l.drop t ++ l.take t := by
  rw [List.mem_append, Or.comm, ← List.mem_append, List.take_append_drop]
theorem stale_turn (fs : List Found) (t : Nat) : (staleF fs).length = (staleF (fs.drop t ++ fs.take t)).length := by
  unfold staleF
  rw [← lastF_perm (mem_turn fs t), List.filter_append, List.length_append, Nat.add_comm, ← List.length_append, ← List.filter_append, List.take_append_drop]
theorem all_turn {fs a b : List Found} {t : Nat} (ha : IsAll fs a) (hb : IsAll (fs.drop t ++ fs.take t) b) (hu : Unlike fs) : a = b :=
  ha.unique hb (liveF_unique (mem_turn fs t) hu)
/-! one more -/
theorem live_more_no {fs : List Found} {f : Found} (hk : f.kind ≠ 3) (hc : ¬ cand (lastF fs) f = true) (p : Int) : liveF (fs ++ [f]) p = liveF fs p := by
  unfold liveF; rw [last_more_no hk, bestF_more_no (fun h => hc h.1)]
theorem live_more_far {fs : List Found} {f : Found} (hk : f.kind ≠ 3) {p : Int} (hp : f.pg ≠ p) : liveF (fs ++ [f]) p = liveF fs p := by
  unfold liveF; rw [last_more_no hk, bestF_more_no (fun h => hp h.2)]
theorem live_more_top {fs : List Found} {f : Found} (hk : f.kind ≠ 3) (hc : cand (lastF fs) f = true) (hn : ∀ x, bestF (lastF fs) fs f.pg = some x → newerF f x = true) : liveF (fs ++ [f]) f.pg = dataF (some f) := by
  unfold liveF; rw [last_more_no hk, bestF_more_top hc rfl hn]
theorem all_stale {fs a b : List Found} {x : Found} {s : Int} (ha : IsAll fs a) (hx : x ∈ staleF fs) (hk : x.kind ≠ 3) (hb : IsAll (fs ++ [{ x with seq := s }]) b) : b = a := by
  unfold staleF at hx
  rw [List.mem_filter, decide_eq_true_eq] at hx
  have hk' : ({ x with seq := s } : Found).kind ≠ 3 := hk
  have hc' : ¬ cand (lastF fs) ({ x with seq := s } : Found) = true := by
    unfold cand
    simp only [Bool.and_eq_true, decide_eq_true_eq]
    omega
  exact hb.unique ha (live_more_no hk' hc')
theorem best_of_live {fs : List Found} {x : Found} {p : Int} (h : liveF fs p = some x) : bestF (lastF fs) fs p = some x := (dataF_some h).1
/-- A copy that is newer counts in its place. -/
theorem all_copy {fs a b : List Found} {k : Nat} {x : Found} {bl s : Int} (ha : IsAll fs a) (hx : a[k]? = some x) (hs : ∀ f ∈ fs, f.seq < s) (hb : IsAll (fs ++ [{ x with block := bl, seq := s }]) b) : b = a.set k { x with block := bl, seq := s } := by
  have hm : x ∈ a := List.mem_of_getElem? hx
  have hl := (ha.2 x).1 hm
  obtain ⟨h1, h2, h3, h4⟩ := live_spec hl
  have hbest := best_of_live hl
  have hk : ({ x with block := bl, seq := s } : Found).kind ≠ 3 := by show x.kind ≠ 3; omega
  have hc : cand (lastF fs) ({ x with block := bl, seq := s } : Found) = true := by
    unfold cand; simp only [Bool.and_eq_true, decide_eq_true_eq, Bool.or_eq_true, beq_iff_eq]; exact ⟨.inl h2, h4⟩
  have htop : liveF (fs ++ [{ x with block := bl, seq := s }]) x.pg = some { x with block := bl, seq := s } := by
    have := live_more_top (fs := fs) hk hc (fun y hy => by
      obtain rfl : x = y := by rw [show ({ x with block := bl, seq := s } : Found).pg = x.pg from rfl, hbest] at hy; exact Option.some.inj hy
      unfold newerF; simp only [Bool.or_eq_true, Bool.and_eq_true, decide_eq_true_eq, beq_iff_eq]
      exact .inr ⟨trivial, hs x h1⟩)
    rw [show ({ x with block := bl, seq := s } : Found).pg = x.pg from rfl] at this
    rw [this]; unfold dataF; simp only; rw [if_pos h2]
  have hfar : ∀ p, p ≠ x.pg → liveF (fs ++ [{ x with block := bl, seq := s }]) p = liveF fs p := fun p hp => live_more_far hk (fun e => hp e.symm)
  have hki : k < a.length := (List.getElem?_eq_some_iff.1 hx).1
  have hxk : a[k] = x := (List.getElem?_eq_some_iff.1 hx).2
  have hpw := List.pairwise_iff_getElem.1 ha.1
  refine sorted_ext hb.1 ?_ fun y => ?_
  · rw [List.pairwise_iff_getElem]
    intro i j hi hj hij
    rw [List.length_set] at hi hj
    rw [List.getElem_set, List.getElem_set]
    have hq := hpw i j hi hj hij
    split
    · rename_i e; subst e
      rw [if_neg (by omega)]
      rw [hxk] at hq; exact hq
    · split
      · rename_i e; subst e
        rw [hxk] at hq; exact hq
      · exact hq
  · rw [hb.2]
    constructor
    · intro hy
      by_cases hp : y.pg = x.pg
      · rw [hp, htop] at hy
        obtain rfl : ({ x with block := bl, seq := s } : Found) = y := Option.some.inj hy
        exact List.mem_iff_getElem.2 ⟨k, by rw [List.length_set]; exact hki, by rw [List.getElem_set_self]⟩
      · rw [hfar _ hp] at hy
        have hya := (ha.2 y).2 hy
        obtain ⟨i, hi, e⟩ := List.getElem_of_mem hya
        have hik : k ≠ i := by rintro rfl; rw [hxk] at e; rw [e] at hp; exact hp rfl
        exact List.mem_iff_getElem.2 ⟨i, by rw [List.length_set]; exact hi, by rw [List.getElem_set_ne hik]; exact e⟩
    · intro hy
      obtain ⟨i, hi, e⟩ := List.getElem_of_mem hy
      rw [List.length_set] at hi
      rw [List.getElem_set] at e
      split at e
      · subst e; exact htop
      · rename_i hne
        have hya : y ∈ a := by rw [← e]; exact List.getElem_mem hi
        have hyp : y.pg ≠ x.pg := by
          rcases Nat.lt_or_ge i k with hlt | hge
          · have := hpw i k hi hki hlt; rw [hxk, e] at this; omega
          · have := hpw k i hki hi (by omega); rw [hxk, e] at this; omega
        rw [hfar _ hyp]; exact (ha.2 y).1 hya
/-- A page trimmed counts no more. -/
theorem all_trim {fs a b : List Found} {x : Found} (ha : IsAll fs a) (hk : x.kind = 2) (he : x.epoch = lastF fs) (hs : ∀ f ∈ fs, f.seq < x.seq) (hb : IsAll (fs ++ [x]) b) : b = a.filter fun f => !(f.pg == x.pg) := by
  have hk3 : x.kind ≠ 3 := by omega
  have hc : cand (lastF fs) x = true := by
    unfold cand; simp only [Bool.and_eq_true, decide_eq_true_eq, Bool.or_eq_true, beq_iff_eq]; omega
  have htop : liveF (fs ++ [x]) x.pg = none := by
    rw [live_more_top hk3 hc (fun y hy => by
      obtain ⟨h1, h2, h3, _⟩ := (bestF_spec _ _ _).2 y hy
      have h4 := hs y h1
      unfold cand at h2
      unfold newerF
      simp only [Bool.or_eq_true, Bool.and_eq_true, decide_eq_true_eq, beq_iff_eq] at h2 ⊢
      omega)]
    unfold dataF; simp only; rw [if_neg (by omega)]
  refine sorted_ext hb.1 (ha.1.filter _) fun y => ?_
  rw [hb.2, List.mem_filter, ha.2]
  by_cases hp : y.pg = x.pg
  · rw [hp, htop]; simp
  · rw [live_more_far hk3 (fun e => hp e.symm)]
    simp [hp]
/-! without a commit -/
def someF (fs : List Found) : List Found := fs.filter fun f => !(f.kind == 3) && decide (1 ≤ f.epoch) && decide (f.epoch ≤ 16777215)
theorem some_mem {fs : List Found} {f : Found} (h : f ∈ someF fs) : f.kind ≠ 3 ∧ 1 ≤ f.epoch ∧ f.epoch ≤ 16777215 := by
  unfold someF at h
  rw [List.mem_filter] at h
  simpa [and_assoc] using h.2
theorem last_some (fs : List Found) : lastF (someF fs) = 0 := by
  apply Int.le_antisymm
  · rw [lastF_le_iff]; exact ⟨by omega, fun f hf hk => absurd hk (some_mem hf).1⟩
  · exact lastF_nonneg _
theorem live_some (fs : List Found) (p : Int) : liveF (someF fs) p = none := by
  cases h : liveF (someF fs) p with
  | none => rfl
  | some x =>
    obtain ⟨h1, h2, h3, h4⟩ := live_spec h
    rw [last_some] at h4
    have := (some_mem h1).2.1
    omega
theorem all_some {fs l : List Found} (h : IsAll (someF fs) l) : l = [] := by
  cases l with
  | nil => rfl
  | cons x l => have := (h.2 x).1 List.mem_cons_self; rw [live_some] at this; cases this
theorem stale_some (fs : List Found) : staleF (someF fs) = someF fs := by
  unfold staleF
  rw [List.filter_eq_self]
  intro f hf
  rw [last_some, decide_eq_true_eq]
  have := (some_mem hf).2.1; omega
def topE (fs : List Found) : Int := fs.foldl (fun n f => max n f.epoch) 0
theorem topE_snoc (fs : List Found) (f : Found) : topE (fs ++ [f]) = max (topE fs) f.epoch := by unfold topE; rw [List.foldl_append]; rfl
theorem topE_ge (fs : List Found) : 0 ≤ topE fs ∧ ∀ f ∈ fs, f.epoch ≤ topE fs := by
  refine snoc_ind (P := fun fs => 0 ≤ topE fs ∧ ∀ f ∈ fs, f.epoch ≤ topE fs) ?_ ?_ fs
  · exact ⟨Int.le_refl _, fun f hf => (by cases hf)⟩
  · intro l a ⟨h1, h2⟩
    rw [topE_snoc]
    refine ⟨by omega, fun f hf => ?_⟩
    rcases List.mem_append.1 hf with hf | hf
    · have := h2 f hf; omega
    · obtain rfl : f = a := by simpa using hf
      omega
theorem last_commit {fs : List Found} {c : Found} (hk : c.kind = 3) (he : c.epoch = topE (someF fs)) : lastF (someF fs ++ [c]) = topE (someF fs) := by
  rw [lastF_snoc, last_some]; unfold lastStep; rw [if_pos hk, he]; have := (topE_ge (someF fs)).1; omega
theorem stale_commit {fs : List Found} {c : Found} (hk : c.kind = 3) (he : c.epoch = topE (someF fs)) : staleF (someF fs ++ [c]) = [] := by
  unfold staleF
  rw [last_commit hk he, List.filter_eq_nil_iff]
  intro f hf
  rw [decide_eq_true_eq]
  rcases List.mem_append.1 hf with hf | hf
  · have := (topE_ge (someF fs)).2 f hf; omega
  · obtain rfl : f = c := by simpa using hf
    omega
/-! a new epoch -/
theorem bestF_append_no {last p : Int} {fs : List Found} : ∀ {ns : List Found}, (∀ f ∈ ns, ¬ (cand last f = true ∧ f.pg = p)) → bestF last (fs ++ ns) p = bestF last fs p := by
  intro ns
  refine snoc_ind (P := fun ns => (∀ f ∈ ns, ¬ (cand last f = true ∧ f.pg = p)) → bestF last (fs ++ ns) p = bestF last fs p) ?_ ?_ ns
  · intro _; rw [List.append_nil]
  · intro l a ih h
    rw [← List.append_assoc, bestF_more_no (h a (by simp)), ih (fun f hf => h f (List.mem_append_left _ hf))]
theorem lastF_append_no {fs : List Found} : ∀ {ns : List Found}, (∀ f ∈ ns, f.kind ≠ 3) → lastF (fs ++ ns) = lastF fs := by
  intro ns
  refine snoc_ind (P := fun ns => (∀ f ∈ ns, f.kind ≠ 3) → lastF (fs ++ ns) = lastF fs) ?_ ?_ ns
  · intro _; rw [List.append_nil]
  · intro l a ih h
    rw [← List.append_assoc, last_more_no (h a (by simp)), ih (fun f hf => h f (List.mem_append_left _ hf))]
/-- New pages: none a commit, all of epoch e. -/
def NewPages (e : Int) (ns : List Found) : Prop := ∀ f ∈ ns, (f.kind = 1 ∨ f.kind = 2) ∧ f.epoch = e
theorem new_ahead {fs ns a b : List Found} (hn : NewPages (lastF fs + 1) ns) (ha : IsAll fs a) (hb : IsAll (fs ++ ns) b) : b = a := by
  refine hb.unique ha fun p => ?_
  unfold liveF
  rw [lastF_append_no (fun f hf => by have := (hn f hf).1; omega), bestF_append_no (fun f hf hh => by
    have h1 := (hn f hf).2
    have h2 := hh.1
    unfold cand at h2
    simp only [Bool.and_eq_true, decide_eq_true_eq] at h2
    omega)]
theorem new_last {fs ns : List Found} {c : Found} (hn : NewPages (lastF fs + 1) ns) (hk : c.kind = 3) (he : c.epoch = lastF fs + 1) : lastF (fs ++ ns ++ [c]) = lastF fs + 1 := by
  rw [lastF_snoc, lastF_append_no (fun f hf => by have := (hn f hf).1; omega)]
  unfold lastStep; rw [if_pos hk, he]; omega
theorem fresh_le {fs : List Found} (h : staleF fs = []) : ∀ f ∈ fs, f.epoch ≤ lastF fs := by
  intro f hf
  unfold staleF at h
  rw [List.filter_eq_nil_iff] at h
  have := h f hf
  rw [decide_eq_true_eq] at this
  omega
theorem new_stale {fs ns : List Found} {c : Found} (h0 : staleF fs = []) (hn : NewPages (lastF fs + 1) ns) (hk : c.kind = 3) (he : c.epoch = lastF fs + 1) : staleF (fs ++ ns ++ [c]) = [] := by
  unfold staleF
  rw [new_last hn hk he, List.filter_eq_nil_iff]
  intro f hf
  rw [decide_eq_true_eq]
  rcases List.mem_append.1 hf with hf | hf
  · rcases List.mem_append.1 hf with hf | hf
    · have := fresh_le h0 f hf; omega
    · have := (hn f hf).2; omega
  · obtain rfl : f = c := by simpa using hf
    omega
theorem bestF_last {last last' : Int} {fs : List Found} (h : ∀ f ∈ fs, cand last f = cand last' f) (p : Int) : bestF last fs p = bestF last' fs p := by
  revert h
  refine snoc_ind (P := fun fs => (∀ f ∈ fs, cand last f = cand last' f) → bestF last fs p = bestF last' fs p) ?_ ?_ fs
  · intro _; rfl
  · intro l a ih h
    rw [bestF_snoc, bestF_snoc, ih (fun f hf => h f (List.mem_append_left _ hf))]
    unfold bestStep
    rw [h a (by simp)]
theorem cand_new {fs : List Found} (h0 : staleF fs = []) {f : Found} (hf : f ∈ fs) : cand (lastF fs + 1) f = cand (lastF fs) f := by
  have := fresh_le h0 f hf
  unfold cand
  rw [decide_eq_true this, decide_eq_true (by omega)]
/-- A page that none of the new ones is for. -/
theorem new_old {fs ns : List Found} {c : Found} {p : Int} (h0 : staleF fs = []) (hn : NewPages (lastF fs + 1) ns) (hk : c.kind = 3) (he : c.epoch = lastF fs + 1) (hp : ∀ f ∈ ns, f.pg ≠ p) : liveF (fs ++ ns ++ [c]) p = liveF fs p := by
  unfold liveF
  rw [new_last hn hk he, bestF_more_no (fun h => by
    have h1 := h.1
    unfold cand at h1
    simp only [Bool.and_eq_true, Bool.or_eq_true, beq_iff_eq, decide_eq_true_eq] at h1
    omega), bestF_append_no (fun f hf hh => hp f hf hh.2), bestF_last (fun f hf => cand_new h0 hf)]
/-- The last one of a page among the new ones. -/
theorem new_top {fs ms rs : List Found} {x c : Found} (h0 : staleF fs = []) (hn : NewPages (lastF fs + 1) (ms ++ x :: rs)) (hk : c.kind = 3) (he : c.epoch = lastF fs + 1) (hlow : ∀ f ∈ ms, f.seq < x.seq) (hr : ∀ f ∈ rs, f.pg ≠ x.pg) :
    liveF (fs ++ (ms ++ x :: rs) ++ [c]) x.pg = dataF (some x) := by
  have hx := hn x (by simp)
  have hcx : cand (lastF fs + 1) x = true := by
    unfold cand; simp only [Bool.and_eq_true, Bool.or_eq_true, beq_iff_eq, decide_eq_true_eq]; exact ⟨hx.1, by omega⟩
  unfold liveF
  rw [new_last hn hk he, bestF_more_no (fun h => by
    have h1 := h.1
    unfold cand at h1
    simp only [Bool.and_eq_true, Bool.or_eq_true, beq_iff_eq, decide_eq_true_eq] at h1
    omega)]
  rw [show fs ++ (ms ++ x :: rs) = (fs ++ ms ++ [x]) ++ rs by simp]
  rw [bestF_append_no (fun f hf hh => hr f hf hh.2), bestF_more_top hcx rfl (fun y hy => ?_)]
  obtain ⟨h1, h2, h3, _⟩ := (bestF_spec _ _ _).2 y hy
  unfold newerF
  simp only [Bool.or_eq_true, Bool.and_eq_true, decide_eq_true_eq, beq_iff_eq]
  rcases List.mem_append.1 h1 with h1 | h1
  · have := fresh_le h0 y h1; omega
  · have := (hn y (List.mem_append_left _ h1)).2
    have := hlow y h1
    omega
end Go.Proofs.Ytcfkpaijlibjaaa
