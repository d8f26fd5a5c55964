/- Which pages count: the plain facts. -/
set_option linter.unusedVariables false
set_option linter.unusedSimpArgs false
namespace Go.Proofs.Ytcfkpaijlibjaaa
theorem snoc_ind {α : Type} {P : List α → Prop} (h0 : P []) (h1 : ∀ l a, P l → P (l ++ [a])) (l : List α) : P l := by
  have h : ∀ l : List α, P l.reverse := by
    intro l
    induction l with
    | nil => exact h0
    | cons a l ih => rw [List.reverse_cons]; exact h1 _ _ ih
  have := h l.reverse
  rwa [List.reverse_reverse] at this
structure Found where
  block : Int
  page : Int
  kind : Int
  pg : Int
  seq : Int
  epoch : Int
  deriving DecidableEq
instance : Inhabited Found := ⟨⟨0, 0, 0, 0, 0, 0⟩⟩
def lastStep (n : Int) (f : Found) : Int := if f.kind = 3 then max n f.epoch else n
def lastF (fs : List Found) : Int := fs.foldl lastStep 0
def newerF (a b : Found) : Bool := decide (b.epoch < a.epoch) || (a.epoch == b.epoch && decide (b.seq < a.seq))
def cand (last : Int) (f : Found) : Bool := (f.kind == 1 || f.kind == 2) && decide (f.epoch ≤ last)
def bestStep (last p : Int) (acc : Option Found) (f : Found) : Option Found :=
  if cand last f && f.pg == p then (match acc with | none => some f | some x => if newerF f x then some f else some x) else acc
def bestF (last : Int) (fs : List Found) (p : Int) : Option Found := fs.foldl (bestStep last p) none
def dataF (x : Option Found) : Option Found := match x with | some f => if f.kind = 1 then some f else none | none => none
def liveF (fs : List Found) (p : Int) : Option Found := dataF (bestF (lastF fs) fs p)
def staleF (fs : List Found) : List Found := fs.filter fun f => decide (lastF fs < f.epoch)
def IsAll (fs l : List Found) : Prop := l.Pairwise (fun a b => a.pg < b.pg) ∧ ∀ x, x ∈ l ↔ liveF fs x.pg = some x
/-- Sorted lists with the same members are the same. -/
theorem sorted_ext : ∀ {l m : List Found}, l.Pairwise (fun a b => a.pg < b.pg) → m.Pairwise (fun a b => a.pg < b.pg) → (∀ x, x ∈ l ↔ x ∈ m) → l = m
  | [], [], _, _, _ => rfl
  | [], y :: m, _, _, h => by have := (h y).2 List.mem_cons_self; simp at this
  | x :: l, [], _, _, h => by have := (h x).1 List.mem_cons_self; simp at this
  | x :: l, y :: m, hl, hm, h => by
    rw [List.pairwise_cons] at hl hm
    have hxy : x = y := by
      rcases List.mem_cons.1 ((h x).1 List.mem_cons_self) with e | hx
      · exact e
      rcases List.mem_cons.1 ((h y).2 List.mem_cons_self) with e | hy
      · exact e.symm
      have := hl.1 y hy; have := hm.1 x hx; omega
    subst hxy
    have : l = m := sorted_ext hl.2 hm.2 fun z => by
      constructor
      · intro hz
        rcases List.mem_cons.1 ((h z).1 (List.mem_cons_of_mem _ hz)) with e | hz'
        · subst e; have := hl.1 z hz; omega
        · exact hz'
      · intro hz
        rcases List.mem_cons.1 ((h z).2 (List.mem_cons_of_mem _ hz)) with e | hz'
        · subst e; have := hm.1 z hz; omega
        · exact hz'
    rw [this]
theorem IsAll.unique {fs gs l m : List Found} (hl : IsAll fs l) (hm : IsAll gs m) (h : ∀ p, liveF fs p = liveF gs p) : l = m :=
  sorted_ext hl.1 hm.1 fun x => by rw [hl.2, hm.2, h]
/-! the last epoch -/
theorem lastF_ge0 (fs : List Found) : ∀ n : Int, n ≤ fs.foldl lastStep n := by
  induction fs with
  | nil => intro n; exact Int.le_refl _
  | cons f fs ih =>
    intro n
    rw [List.foldl_cons]
    have := ih (lastStep n f)
    have h2 : n ≤ lastStep n f := by unfold lastStep; split <;> omega
    omega
theorem lastF_snoc (fs : List Found) (f : Found) : lastF (fs ++ [f]) = lastStep (lastF fs) f := by unfold lastF; rw [List.foldl_append]; rfl
theorem foldl_last_iff (fs : List Found) : ∀ (n m : Int), fs.foldl lastStep n ≤ m ↔ n ≤ m ∧ ∀ f ∈ fs, f.kind = 3 → f.epoch ≤ m := by
  induction fs with
  | nil => intro n m; simp
  | cons f fs ih =>
    intro n m
    rw [List.foldl_cons, ih]
    unfold lastStep
    constructor
    · rintro ⟨h1, h2⟩
      refine ⟨by split at h1 <;> omega, fun g hg hk => ?_⟩
      rcases List.mem_cons.1 hg with rfl | hg
      · rw [if_pos hk] at h1; omega
      · exact h2 g hg hk
    · rintro ⟨h1, h2⟩
      refine ⟨?_, fun g hg hk => h2 g (List.mem_cons_of_mem _ hg) hk⟩
      split
      · rename_i hk
        have := h2 f List.mem_cons_self hk
        omega
      · exact h1
theorem lastF_le_iff (fs : List Found) (m : Int) : lastF fs ≤ m ↔ 0 ≤ m ∧ ∀ f ∈ fs, f.kind = 3 → f.epoch ≤ m := foldl_last_iff fs 0 m
theorem lastF_nonneg (fs : List Found) : 0 ≤ lastF fs := lastF_ge0 fs 0
theorem lastF_perm {fs gs : List Found} (h : ∀ f, f ∈ fs ↔ f ∈ gs) : lastF fs = lastF gs := by
  apply Int.le_antisymm
  · rw [lastF_le_iff]
    refine ⟨lastF_nonneg gs, fun f hf hk => ?_⟩
    exact ((lastF_le_iff gs _).1 (Int.le_refl _)).2 f ((h f).1 hf) hk
  · rw [lastF_le_iff]
    refine ⟨lastF_nonneg fs, fun f hf hk => ?_⟩
    exact ((lastF_le_iff fs _).1 (Int.le_refl _)).2 f ((h f).2 hf) hk
/-! the best -/
theorem bestF_snoc (last : Int) (fs : List Found) (f : Found) (p : Int) : bestF last (fs ++ [f]) p = bestStep last p (bestF last fs p) f := by unfold bestF; rw [List.foldl_append]; rfl
theorem newer_trans {a b c : Found} (h1 : newerF a b = true) (h2 : newerF b c = true) : newerF a c = true := by
  unfold newerF at *
  simp only [Bool.or_eq_true, Bool.and_eq_true, decide_eq_true_eq, beq_iff_eq] at *
  omega
theorem newer_total {a b : Found} (h : ¬ newerF a b = true) (hd : a.epoch ≠ b.epoch ∨ a.seq ≠ b.seq) : newerF b a = true := by
  unfold newerF at *
  simp only [Bool.or_eq_true, Bool.and_eq_true, decide_eq_true_eq, beq_iff_eq] at *
  omega
theorem not_newer_trans {a b c : Found} (h1 : ¬ newerF a b = true) (h2 : ¬ newerF b c = true) : ¬ newerF a c = true := by
  unfold newerF at *
  simp only [Bool.or_eq_true, Bool.and_eq_true, decide_eq_true_eq, beq_iff_eq] at *
  omega
/-- What the best is: a member that counts, and none that counts is newer. -/
theorem bestF_spec (last p : Int) : ∀ (fs : List Found),
    (bestF last fs p = none → ∀ f ∈ fs, ¬ (cand last f = true ∧ f.pg = p)) ∧
    ∀ x, bestF last fs p = some x → x ∈ fs ∧ cand last x = true ∧ x.pg = p ∧ ∀ f ∈ fs, cand last f = true → f.pg = p → ¬ newerF f x = true := by
  refine snoc_ind ?_ ?_
  · exact ⟨fun _ f hf => (by cases hf), fun x h => (by cases h)⟩
  · intro fs f ⟨ih1, ih2⟩
    rw [bestF_snoc]
    unfold bestStep
    by_cases hc : (cand last f && f.pg == p) = true
    · rw [if_pos hc]
      rw [Bool.and_eq_true, beq_iff_eq] at hc
      cases hb : bestF last fs p with
      | none =>
        refine ⟨fun h => (by cases h), fun x hx => ?_⟩
        obtain rfl : f = x := by simpa using hx
        refine ⟨by simp, hc.1, hc.2, fun g hg h1 h2 => ?_⟩
        rcases List.mem_append.1 hg with hg | hg
        · exact absurd ⟨h1, h2⟩ (ih1 hb g hg)
        · obtain rfl : g = f := by simpa using hg
          unfold newerF; simp
      | some y =>
        obtain ⟨y1, y2, y3, y4⟩ := ih2 y hb
        simp only
        by_cases hn : newerF f y = true
        · rw [if_pos hn]
          refine ⟨fun h => (by cases h), fun x hx => ?_⟩
          obtain rfl : f = x := by simpa using hx
          refine ⟨by simp, hc.1, hc.2, fun g hg h1 h2 => ?_⟩
          rcases List.mem_append.1 hg with hg | hg
          · have := y4 g hg h1 h2
            intro h9
            exact this (newer_trans h9 hn)
          · obtain rfl : g = f := by simpa using hg
            unfold newerF; simp
        · rw [if_neg hn]
          refine ⟨fun h => (by cases h), fun x hx => ?_⟩
          obtain rfl : y = x := by simpa using hx
          refine ⟨List.mem_append_left _ y1, y2, y3, fun g hg h1 h2 => ?_⟩
          rcases List.mem_append.1 hg with hg | hg
          · exact y4 g hg h1 h2
          · obtain rfl : g = f := by simpa using hg
            exact hn
    · rw [if_neg hc]
      rw [Bool.and_eq_true, beq_iff_eq] at hc
      refine ⟨fun h g hg => ?_, fun x hx => ?_⟩
      · rcases List.mem_append.1 hg with hg | hg
        · exact ih1 h g hg
        · obtain rfl : g = f := by simpa using hg
          exact hc
      · obtain ⟨y1, y2, y3, y4⟩ := ih2 x hx
        refine ⟨List.mem_append_left _ y1, y2, y3, fun g hg h1 h2 => ?_⟩
        rcases List.mem_append.1 hg with hg | hg
        · exact y4 g hg h1 h2
        · obtain rfl : g = f := by simpa using hg
          exact absurd ⟨h1, h2⟩ hc
def Unlike (fs : List Found) : Prop := ∀ a ∈ fs, ∀ b ∈ fs, a.epoch = b.epoch → a.seq = b.seq → a = b
theorem bestF_unique {last p : Int} {fs gs : List Found} (h : ∀ f, f ∈ fs ↔ f ∈ gs) (hu : Unlike fs) : bestF last fs p = bestF last gs p := by
  have hf := bestF_spec last p fs
  have hg := bestF_spec last p gs
  cases e1 : bestF last fs p with
  | none =>
    cases e2 : bestF last gs p with
    | none => rfl
    | some y =>
      obtain ⟨y1, y2, y3, _⟩ := hg.2 y e2
      exact absurd ⟨y2, y3⟩ (hf.1 e1 y ((h y).2 y1))
  | some x =>
    obtain ⟨x1, x2, x3, x4⟩ := hf.2 x e1
    cases e2 : bestF last gs p with
    | none => exact absurd ⟨x2, x3⟩ (hg.1 e2 x ((h x).1 x1))
    | some y =>
      obtain ⟨y1, y2, y3, y4⟩ := hg.2 y e2
      have h1 := x4 y ((h y).2 y1) y2 y3
      have h2 := y4 x ((h x).1 x1) x2 x3
      have : x = y := by
        by_cases hd : x.epoch = y.epoch ∧ x.seq = y.seq
        · exact hu x x1 y ((h y).2 y1) hd.1 hd.2
        · exact absurd (newer_total h1 (by omega)) h2
      rw [this]
theorem liveF_unique {fs gs : List Found} (h : ∀ f, f ∈ fs ↔ f ∈ gs) (hu : Unlike fs) (p : Int) : liveF fs p = liveF gs p := by
  unfold liveF; rw [lastF_perm h, bestF_unique h hu]
theorem dataF_some {o : Option Found} {x : Found} (h : dataF o = some x) : o = some x ∧ x.kind = 1 := by
  unfold dataF at h
  split at h
  · split at h
    · cases h; exact ⟨rfl, by assumption⟩
    · cases h
  · cases h
theorem live_spec {fs : List Found} {p : Int} {x : Found} (h : liveF fs p = some x) : x ∈ fs ∧ x.kind = 1 ∧ x.pg = p ∧ x.epoch ≤ lastF fs := by
  obtain ⟨h1, h2⟩ := dataF_some h
  obtain ⟨h3, h4, h5, _⟩ := (bestF_spec _ _ _).2 x h1
  unfold cand at h4
  simp only [Bool.and_eq_true, decide_eq_true_eq] at h4
  exact ⟨h3, h2, h5, h4.2⟩
/-! with one more -/
theorem bestF_more_no {last p : Int} {fs : List Found} {f : Found} (h : ¬ (cand last f = true ∧ f.pg = p)) : bestF last (fs ++ [f]) p = bestF last fs p := by
  rw [bestF_snoc]; unfold bestStep
  rw [if_neg (by rw [Bool.and_eq_true, beq_iff_eq]; exact h)]
theorem bestF_more_top {last p : Int} {fs : List Found} {f : Found} (h1 : cand last f = true) (h2 : f.pg = p) (h3 : ∀ x, bestF last fs p = some x → newerF f x = true) : bestF last (fs ++ [f]) p = some f := by
  rw [bestF_snoc]; unfold bestStep
  rw [if_pos (by rw [Bool.and_eq_true, beq_iff_eq]; exact ⟨h1, h2⟩)]
  cases e : bestF last fs p with
  | none => rfl
  | some x => simp only; rw [if_pos (h3 x e)]
theorem last_more_no {fs : List Found} {f : Found} (h : f.kind ≠ 3) : lastF (fs ++ [f]) = lastF fs := by rw [lastF_snoc]; unfold lastStep; rw [if_neg h]
end Go.Proofs.Ytcfkpaijlibjaaa
