/- A scope with two labels that are jumped back to, and labels ahead. -/
import Derived.Test.YtbdbmigkcpgmkaaDoorScope
set_option linter.unusedVariables false
set_option linter.unusedSimpArgs false
namespace Go.Proofs.YtbdbmigkcpgmkaaDoor
section
variable {P : Program} {Q : Exit → Act → World → Prop}
/-- Behind a jump to label l: back to l1 or l2, or ahead. -/
def Jmp (P : Program) (c : Code) (Q : Exit → Act → World → Prop) (l1 l2 : Nat) (J1 J2 : Act → World → Prop) (l : Nat) (a : Act) (w : World) : Prop :=
  (l = l1 ∧ J1 a w) ∨ (l = l2 ∧ J2 a w) ∨ wpJ P c Q 3 l a w
theorem wpJ_arrives {c : Code} {b : Frame} {k : List Item} {cs : List Frame} : ∀ (n l : Nat) (a : Act) (w : World), wpJ P c Q n l a w → ∃ rest, findLabel c l = some rest ∧ ∃ e a' w', Q e a' w' ∧ Arrives P (lone (b.at a (.code rest :: .inScope c :: k)) cs w) b k cs e a' w' := by
  intro n
  induction n with
  | zero => intro l a w h; exact h.elim
  | succ n ih =>
    rintro l a w ⟨rest, hf, hw⟩
    refine ⟨rest, hf, ?_⟩
    obtain ⟨e, a₁, w₁, hq, harr⟩ := hw b (.inScope c :: k) cs
    cases e with
    | normal => exact ⟨.normal, a₁, w₁, hq, Steps.trans harr (.one step_inScope)⟩
    | exit id => exact ⟨.exit id, a₁, w₁, hq, fun k' hk => harr k' (by simp [exitTo, hk])⟩
    | goto l' =>
      obtain ⟨rest', hf', e₂, a₂, w₂, hq₂, harr₂⟩ := ih l' a₁ w₁ hq
      have hg : gotoIn l' (.inScope c :: k) = some (.code rest' :: .inScope c :: k) := by simp [gotoIn, hf']
      exact ⟨e₂, a₂, w₂, hq₂, .of_steps (harr _ hg) harr₂⟩
    | ret => exact ⟨_, a₁, w₁, hq, harr⟩
    | panic ch => exact ⟨_, a₁, w₁, hq, harr⟩
    | outgrown => exact ⟨_, a₁, w₁, hq, harr⟩
theorem wp_scope_two {c : Code} {a : Act} {w : World} (l1 l2 : Nat) (I1 I2 : Nat → Act → World → Prop)
    (h2 : ∀ m a w, I2 m a w → ∃ rest, findLabel c l2 = some (Code.skip.seq rest) ∧ rest.wp P (Exit.jumps (Jmp P c Q l1 l2 (fun _ _ => False) (fun a w => ∃ m', m' < m ∧ I2 m' a w)) Q) a w)
    (h1 : (∀ m a w, I2 m a w → ∃ rest, findLabel c l2 = some (Code.skip.seq rest) ∧ ∀ J1 : Act → World → Prop, rest.wp P (Exit.jumps (Jmp P c Q l1 l2 J1 (fun a w => ∃ m', I2 m' a w)) Q) a w) → ∀ m a w, I1 m a w → ∃ rest, findLabel c l1 = some (Code.skip.seq rest) ∧ rest.wp P (Exit.jumps (Jmp P c Q l1 l2 (fun a w => ∃ m', m' < m ∧ I1 m' a w) (fun a w => ∃ m', I2 m' a w)) Q) a w)
    (first : (∀ m a w, I1 m a w → ∃ rest, findLabel c l1 = some (Code.skip.seq rest) ∧ rest.wp P (Exit.jumps (Jmp P c Q l1 l2 (fun a w => ∃ m', I1 m' a w) (fun a w => ∃ m', I2 m' a w)) Q) a w) → c.wp P (Exit.jumps (Jmp P c Q l1 l2 (fun a w => ∃ m', I1 m' a w) (fun a w => ∃ m', I2 m' a w)) Q) a w) :
    (Code.scope c).wp P Q a w := by
  have mono : ∀ {J1 J1' J2 J2' : Act → World → Prop} (g1 : ∀ a w, J1 a w → J1' a w) (g2 : ∀ a w, J2 a w → J2' a w) {r : Code} {a : Act} {w : World}, r.wp P (Exit.jumps (Jmp P c Q l1 l2 J1 J2) Q) a w → r.wp P (Exit.jumps (Jmp P c Q l1 l2 J1' J2') Q) a w := by
    intro J1 J1' J2 J2' g1 g2 r a w h
    refine Code.wp_mono (fun e a w q => ?_) h
    cases e with
    | goto l =>
      rcases q with ⟨e, q⟩ | ⟨e, q⟩ | q
      · exact .inl ⟨e, g1 _ _ q⟩
      · exact .inr (.inl ⟨e, g2 _ _ q⟩)
      · exact .inr (.inr q)
    | _ => exact q
  have h1' := h1 fun m a w h => by
    obtain ⟨rest, hf, hw⟩ := h2 m a w h
    exact ⟨rest, hf, fun J1 => mono (fun _ _ h => h.elim) (fun _ _ ⟨m', _, h⟩ => ⟨m', h⟩) hw⟩
  have hfirst := first fun m a w h => by
    obtain ⟨rest, hf, hw⟩ := h1' m a w h
    exact ⟨rest, hf, mono (fun _ _ ⟨m', _, h⟩ => ⟨m', h⟩) (fun _ _ h => h) hw⟩
  intro b k cs
  have tail : ∀ (l : Nat) (rest : Code) (a : Act) (w : World) (J : Nat → Act → World → Prop), rest.wp P (Exit.jumps J Q) a w → (∀ l' a' w', J l' a' w' → ∃ rest', findLabel c l' = some rest' ∧ ∃ e a'' w'', Q e a'' w'' ∧ Arrives P (lone (b.at a' (.code rest' :: .inScope c :: k)) cs w') b k cs e a'' w'') →
      ∃ e a' w', Q e a' w' ∧ Arrives P (lone (b.at a (.code rest :: .inScope c :: k)) cs w) b k cs e a' w' := by
    intro l rest a w J hw hJ
    obtain ⟨e, a₁, w₁, hq, harr⟩ := hw b (.inScope c :: k) cs
    cases e with
    | normal => exact ⟨.normal, a₁, w₁, hq, Steps.trans harr (.one step_inScope)⟩
    | exit id => exact ⟨.exit id, a₁, w₁, hq, fun k' hk => harr k' (by simp [exitTo, hk])⟩
    | goto l' =>
      obtain ⟨rest', hf', e₂, a₂, w₂, hq₂, harr₂⟩ := hJ l' a₁ w₁ hq
      have hg : gotoIn l' (.inScope c :: k) = some (.code rest' :: .inScope c :: k) := by simp [gotoIn, hf']
      exact ⟨e₂, a₂, w₂, hq₂, .of_steps (harr _ hg) harr₂⟩
    | ret => exact ⟨_, a₁, w₁, hq, harr⟩
    | panic ch => exact ⟨_, a₁, w₁, hq, harr⟩
    | outgrown => exact ⟨_, a₁, w₁, hq, harr⟩
  have key2 : ∀ m a w, I2 m a w → ∃ rest, findLabel c l2 = some rest ∧ ∃ e a' w', Q e a' w' ∧ Arrives P (lone (b.at a (.code rest :: .inScope c :: k)) cs w) b k cs e a' w' := by
    intro m
    induction m using Nat.strongRecOn with
    | ind m ih =>
      intro a w h
      obtain ⟨rest, hf, hw⟩ := h2 m a w h
      refine ⟨_, hf, tail l2 _ a w _ (wp_seq (wp_skip hw)) fun l' a' w' hj => ?_⟩
      rcases hj with ⟨-, q⟩ | ⟨rfl, m', hm, q⟩ | q
      · exact q.elim
      · exact ih m' hm a' w' q
      · exact wpJ_arrives 3 l' a' w' q
  have key1 : ∀ m a w, I1 m a w → ∃ rest, findLabel c l1 = some rest ∧ ∃ e a' w', Q e a' w' ∧ Arrives P (lone (b.at a (.code rest :: .inScope c :: k)) cs w) b k cs e a' w' := by
    intro m
    induction m using Nat.strongRecOn with
    | ind m ih =>
      intro a w h
      obtain ⟨rest, hf, hw⟩ := h1' m a w h
      refine ⟨_, hf, tail l1 _ a w _ (wp_seq (wp_skip hw)) fun l' a' w' hj => ?_⟩
      rcases hj with ⟨rfl, m', hm, q⟩ | ⟨rfl, m', q⟩ | q
      · exact ih m' hm a' w' q
      · exact key2 m' a' w' q
      · exact wpJ_arrives 3 l' a' w' q
  obtain ⟨e, a₁, w₁, hq, harr⟩ := tail 0 c a w _ hfirst fun l' a' w' hj => by
    rcases hj with ⟨rfl, m', q⟩ | ⟨rfl, m', q⟩ | q
    · exact key1 m' a' w' q
    · exact key2 m' a' w' q
    · exact wpJ_arrives 3 l' a' w' q
  exact ⟨e, a₁, w₁, hq, .of_steps (.one step_scope) harr⟩
/-- A label that is come to from above. -/
theorem fall {c r : Code} {l1 l2 : Nat} {J1 J2 : Act → World → Prop} {I2 : Nat → Act → World → Prop} (H : ∀ m a w, I2 m a w → ∃ rest, findLabel c l2 = some (Code.skip.seq rest) ∧ ∀ J1 : Act → World → Prop, rest.wp P (Exit.jumps (Jmp P c Q l1 l2 J1 J2) Q) a w) (hf : findLabel c l2 = some (Code.skip.seq r)) {m : Nat} {a : Act} {w : World} (hi : I2 m a w) : r.wp P (Exit.jumps (Jmp P c Q l1 l2 J1 J2) Q) a w := by
  obtain ⟨rest, h1, h2⟩ := H m a w hi
  rw [hf] at h1
  injection h1 with h1
  injection h1 with h3 h4
  rw [h4]; exact h2 J1
theorem fall1 {c r : Code} {l1 l2 : Nat} {J1 J2 : Act → World → Prop} {I1 : Nat → Act → World → Prop} (H : ∀ m a w, I1 m a w → ∃ rest, findLabel c l1 = some (Code.skip.seq rest) ∧ rest.wp P (Exit.jumps (Jmp P c Q l1 l2 J1 J2) Q) a w) (hf : findLabel c l1 = some (Code.skip.seq r)) {m : Nat} {a : Act} {w : World} (hi : I1 m a w) : r.wp P (Exit.jumps (Jmp P c Q l1 l2 J1 J2) Q) a w := by
  obtain ⟨rest, h1, h2⟩ := H m a w hi
  rw [hf] at h1
  injection h1 with h1
  injection h1 with h3 h4
  rw [h4]; exact h2
theorem Jmp.one {c : Code} {l1 l2 : Nat} {J1 J2 : Act → World → Prop} {a : Act} {w : World} (h : J1 a w) : Jmp P c Q l1 l2 J1 J2 l1 a w := .inl ⟨rfl, h⟩
theorem Jmp.two {c : Code} {l1 l2 : Nat} {J1 J2 : Act → World → Prop} {a : Act} {w : World} (h : J2 a w) : Jmp P c Q l1 l2 J1 J2 l2 a w := .inr (.inl ⟨rfl, h⟩)
theorem Jmp.far {c : Code} {l1 l2 l : Nat} {J1 J2 : Act → World → Prop} {a : Act} {w : World} (h : wpJ P c Q 3 l a w) : Jmp P c Q l1 l2 J1 J2 l a w := .inr (.inr h)
end
end Go.Proofs.YtbdbmigkcpgmkaaDoor
