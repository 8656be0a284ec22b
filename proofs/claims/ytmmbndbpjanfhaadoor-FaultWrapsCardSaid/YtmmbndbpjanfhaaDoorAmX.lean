/- The abstract machine, part X: what is walked may be cut, so that ways that part meet again. -/
import Derived.Test.YtmmbndbpjanfhaaDoorAmU
set_option linter.unusedVariables false
set_option linter.unusedSimpArgs false
set_option linter.unusedSectionVars false
namespace Go.Am
open Go
section
variable {P : Program} {loc : List Nat} {ops : Array Oper} {cfg : Cfg}
theorem vc_mono (c : Code) (Q Q' : Ex → St → Prop) (hq : ∀ e σ, Q e σ → Q' e σ) (σ : St) (h : vc P cfg c Q σ) : vc P cfg c Q' σ := vc_to c hq σ h
/-- what is left of the walk is one thing alone -/
def normQ (M : St → Prop) : Ex → St → Prop
  | .normal, σ => M σ
  | _, _ => False
theorem norm_n {M : St → Prop} {σ : St} : normQ M .normal σ = M σ := rfl
theorem condQ_mono {a b : Code} {Q Q' : Ex → St → Prop} {σ : St} {t : Bool} (hq : ∀ e σ, Q e σ → Q' e σ) (h : condQ P cfg a b Q σ t) : condQ P cfg a b Q' σ t := by
  cases t with
  | true => exact vc_mono a _ _ hq _ h
  | false => exact vc_mono b _ _ hq _ h
/-- ways that part meet: of a condition ahead of more -/
theorem condQ_cut {a b r : Code} {Q : Ex → St → Prop} {σ : St} {t : Bool} (M : St → Prop) (h1 : condQ P cfg a b (normQ M) σ t) (h2 : ∀ σ', M σ' → vc P cfg r Q σ') : condQ P cfg a b (thenQ (vc P cfg r Q) Q) σ t := by
  refine condQ_mono (fun e σ' h => ?_) h1
  cases e with
  | normal => exact h2 _ h
  | exit j => exact h.elim
  | ret => exact h.elim
/-- of a condition that ends a block ahead of more -/
theorem condQ_cutB {a b r : Code} {Q : Ex → St → Prop} {σ : St} {t : Bool} {i : Nat} (M : St → Prop) (h1 : condQ P cfg a b (blockQ i (normQ M)) σ t) (h2 : ∀ σ', M σ' → vc P cfg r Q σ') : condQ P cfg a b (blockQ i (thenQ (vc P cfg r Q) Q)) σ t := by
  refine condQ_mono (fun e σ' h => ?_) h1
  cases e with
  | normal => exact h2 _ h
  | exit j =>
    simp only [blockQ] at h ⊢
    split at h
    · rename_i e; rw [if_pos e]; exact h2 _ h
    · exact h.elim
  | ret => exact h.elim
/-- a condition that ends a block which ends a body's step -/
theorem condQ_cutE {a b : Code} {Q : Ex → St → Prop} {σ : St} {t : Bool} (M : St → Prop) (h1 : condQ P cfg a b (normQ M) σ t) (h2 : ∀ σ', M σ' → Q .normal σ') : condQ P cfg a b Q σ t := by
  refine condQ_mono (fun e σ' h => ?_) h1
  cases e with
  | normal => exact h2 _ h
  | exit j => exact h.elim
  | ret => exact h.elim
/-- the first n parts of a body, and what is behind them -/
def headC : Nat → Code → Code
  | n + 1, .seq a b => .seq a (headC n b)
  | _, _ => .skip
def tailC : Nat → Code → Code
  | n + 1, .seq a b => tailC n b
  | _, c => c
theorem head_s (n : Nat) (a b : Code) : headC (n + 1) (.seq a b) = .seq a (headC n b) := rfl
theorem head_0 (c : Code) : headC 0 c = .skip := rfl
theorem tail_s (n : Nat) (a b : Code) : tailC (n + 1) (.seq a b) = tailC n b := rfl
theorem tail_0 (c : Code) : tailC 0 c = c := by cases c <;> rfl
/-- what is known behind the first n parts is enough for the rest -/
theorem vc_cutAt (n : Nat) (M : St → Prop) : ∀ {c : Code} {Q : Ex → St → Prop} {σ : St}, vc P cfg (headC n c) (normQ M) σ → (∀ σ', M σ' → vc P cfg (tailC n c) Q σ') → vc P cfg c Q σ := by
  induction n with
  | zero => intro c Q σ h1 h2; have := h2 σ h1; rw [tail_0] at this; exact this
  | succ n ih =>
    intro c Q σ h1 h2
    cases c with
    | seq a b =>
      refine vc_mono a _ _ (fun e σ' h => ?_) σ h1
      cases e with
      | normal => exact ih h h2
      | exit j => exact h.elim
      | ret => exact h.elim
    | _ => exact h2 σ h1
attribute [simp ↓] norm_n
end
end Go.Am
