/- The abstract machine, part X: what is walked may be cut, so that ways that part meet again. -/
import Derived.Test.YthglohpeijfcfaaAmU
set_option linter.unusedVariables false
set_option linter.unusedSimpArgs false
set_option linter.unusedSectionVars false
namespace Go.Am
open Go
section
variable {P : Program} {loc : List Nat} {ops : Array Oper} {cfg : Cfg}
theorem vcOps_monoQ {Q Q' : St → Prop} (hq : ∀ σ, Q σ → Q' σ) : ∀ (l : List Oper) (σ : St), vcOps P loc ops Q l σ → vcOps P loc ops Q' l σ := by
  intro l
  induction l with
  | nil => intro σ h; exact hq _ h
  | cons o r ih =>
    intro σ h
    simp only [vcOps] at h ⊢
    split at h
    · exact h.elim
    · exact ih _ h
    · split at h
      · exact h.mono fun v h' q hn => ih _ (q hn)
      · split at h
        · exact ih _ h
        · exact h.elim
theorem vcH_monoQ {B : Nat → Nat → Bool} {Q Q' : St → Prop} (hq : ∀ σ, Q σ → Q' σ) : ∀ (l : List (Nat × Oper)) (hl : HL) (σ : St), vcH P loc ops B Q hl l σ → vcH P loc ops B Q' hl l σ := by
  intro l
  induction l with
  | nil => intro hl σ h; exact hq _ h
  | cons p r ih =>
    intro hl σ h
    obtain ⟨i, o⟩ := p
    simp only [vcH] at h ⊢
    split at h
    · rename_i hn
      rw [if_pos hn]
      split at h
      · exact ih _ _ h
      · exact h.elim
    · rename_i hn
      rw [if_neg hn]
      split at h
      · exact h.elim
      · exact ih _ _ h
      · split at h
        · exact h.mono fun v h' q hn => ⟨(q hn).1, ih _ _ (q hn).2⟩
        · split at h
          · exact ⟨h.1, ih _ _ h.2⟩
          · exact h.elim
theorem vcIter_monoQ {vb : (Ex → St → Prop) → St → Prop} (hb : ∀ (Q Q' : Ex → St → Prop), (∀ e σ, Q e σ → Q' e σ) → ∀ σ, vb Q σ → vb Q' σ) {Q Q' : Ex → St → Prop} (hq : ∀ e σ, Q e σ → Q' e σ) : ∀ (n : Nat) (σ : St), vcIter vb Q n σ → vcIter vb Q' n σ := by
  intro n
  induction n with
  | zero => intro σ h; exact h
  | succ n ih =>
    intro σ h
    simp only [vcIter] at h ⊢
    refine hb _ _ (fun e σ' h' => ?_) σ h
    cases e with
    | normal => exact ih _ h'
    | exit j => exact hq _ _ h'
    | ret => exact hq _ _ h'
theorem vc_mono : ∀ (c : Code) (Q Q' : Ex → St → Prop), (∀ e σ, Q e σ → Q' e σ) → ∀ σ, vc P cfg c Q σ → vc P cfg c Q' σ := by
  intro c
  induction c with
  | skip => intro Q Q' hq σ h; exact hq _ _ h
  | region id ops draw =>
    intro Q Q' hq σ h
    cases draw with
    | false => exact vcOps_monoQ (fun σ => hq _ _) _ _ h
    | true => exact vcH_monoQ (fun σ => hq _ _) _ _ _ h
  | seq a b iha ihb =>
    intro Q Q' hq σ h
    refine iha _ _ (fun e σ' h' => ?_) σ h
    cases e with
    | normal => exact ihb _ _ hq _ h'
    | exit j => exact hq _ _ h'
    | ret => exact hq _ _ h'
  | cond c a b iha ihb =>
    intro Q Q' hq σ h
    simp only [vc] at h ⊢
    split at h
    · split at h
      · rename_i ht; rw [if_pos ht]; exact iha _ _ hq _ h
      · rename_i ht; rw [if_neg ht]; exact ihb _ _ hq _ h
    · exact h.elim
  | block i b ih =>
    intro Q Q' hq σ h
    refine ih _ _ (fun e σ' h' => ?_) σ h
    cases e with
    | normal => exact hq _ _ h'
    | exit j =>
      simp only [blockQ] at h' ⊢
      split at h'
      · rename_i e; rw [if_pos e]; exact hq _ _ h'
      · rename_i e; rw [if_neg e]; exact hq _ _ h'
    | ret => exact hq _ _ h'
  | loop b ih =>
    intro Q Q' hq σ h
    obtain ⟨n, h⟩ := h
    exact ⟨n, vcIter_monoQ ih hq n σ h⟩
  | exit i => intro Q Q' hq σ h; exact hq _ _ h
  | ret => intro Q Q' hq σ h; exact hq _ _ h
  | rangeFunc f ps x y => intro Q Q' hq σ h; exact h.elim
  | scope b => intro Q Q' hq σ h; exact h.elim
  | label l => intro Q Q' hq σ h; exact h.elim
  | goto l => intro Q Q' hq σ h; exact h.elim
  | refuse s => intro Q Q' hq σ h; exact h.elim
/-- what is left of the walk is one thing alone -/
def normQ (M : St → Prop) : Ex → St → Prop
  | .normal, σ => M σ
  | _, _ => False
theorem norm_n {M : St → Prop} {σ : St} : normQ M .normal σ = M σ := rfl
theorem condQ_mono {a b : Code} {Q Q' : Ex → St → Prop} {σ : St} {t : Bool} (hq : ∀ e σ, Q e σ → Q' e σ) (h : condQ P cfg a b Q σ t) : condQ P cfg a b Q' σ t := by
  cases t with
  | true => exact vc_mono a _ _ hq _ h
  | false => exact vc_mono b _ _ hq _ h
/-- ways that part meet: of a condition ahead of more -/
theorem condQ_cut {a b r : Code} {Q : Ex → St → Prop} {σ : St} {t : Bool} (M : St → Prop) (h1 : condQ P cfg a b (normQ M) σ t) (h2 : ∀ σ', M σ' → vc P cfg r Q σ') : condQ P cfg a b (thenQ (vc P cfg r Q) Q) σ t := by
  refine condQ_mono (fun e σ' h => ?_) h1
  cases e with
  | normal => exact h2 _ h
  | exit j => exact h.elim
  | ret => exact h.elim
/-- of a condition that ends a block ahead of more -/
theorem condQ_cutB {a b r : Code} {Q : Ex → St → Prop} {σ : St} {t : Bool} {i : Nat} (M : St → Prop) (h1 : condQ P cfg a b (blockQ i (normQ M)) σ t) (h2 : ∀ σ', M σ' → vc P cfg r Q σ') : condQ P cfg a b (blockQ i (thenQ (vc P cfg r Q) Q)) σ t := by
  refine condQ_mono (fun e σ' h => ?_) h1
  cases e with
  | normal => exact h2 _ h
  | exit j =>
    simp only [blockQ] at h ⊢
    split at h
    · rename_i e; rw [if_pos e]; exact h2 _ h
    · exact h.elim
  | ret => exact h.elim
/-- a condition that ends a block which ends a body's step -/
theorem condQ_cutE {a b : Code} {Q : Ex → St → Prop} {σ : St} {t : Bool} (M : St → Prop) (h1 : condQ P cfg a b (normQ M) σ t) (h2 : ∀ σ', M σ' → Q .normal σ') : condQ P cfg a b Q σ t := by
  refine condQ_mono (fun e σ' h => ?_) h1
  cases e with
  | normal => exact h2 _ h
  | exit j => exact h.elim
  | ret => exact h.elim
attribute [simp ↓] norm_n
end
end Go.Am
