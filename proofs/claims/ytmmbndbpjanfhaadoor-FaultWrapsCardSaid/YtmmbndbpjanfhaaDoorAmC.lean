/- The abstract machine, part C: one operation. -/
import Derived.Test.YtmmbndbpjanfhaaDoorAmB
set_option linter.unusedVariables false
set_option linter.unusedSimpArgs false
set_option linter.unusedSectionVars false
namespace Go.Am
open Go

structure St where
  t : Fr
  m : Mem

def FRel (ρ : Rho) (T : Fr) (tmps : Array Value) : Prop := ∀ i v, T.get i = some v → ∃ v', tmps[i]? = some v' ∧ VT ρ v v'

def opnd (σ : St) : Operand → Option Value
  | .tmp i => σ.t.get i
  | .const v => if flat1 v then some v else none
  | .func f => some (.func (.func f) #[] #[])
  | .global g => if g < σ.m.h.g then some (.pointer (some ⟨g, 0, none⟩)) else none

section
variable {P : Program} {ρ0 ρ ρ' : Rho} {h0 : Heap} {w0 w : World} {m : Mem}

theorem VT.mono (hρ : ∀ b pl, ρ (false, b) = some pl → ρ' (false, b) = some pl) (ht : ∀ s, ρ' (true, s) = ρ (true, s)) {v v' : Value} (h : VT ρ v v') : VT ρ' v v' := by
  cases h with
  | val _ _ h => exact .val _ _ (h.mono hρ)
  | loc s off x pl h => exact .loc s off x pl (by rw [ht]; exact h)
theorem FRel.mono (hρ : ∀ b pl, ρ (false, b) = some pl → ρ' (false, b) = some pl) (ht : ∀ s, ρ' (true, s) = ρ (true, s)) {T : Fr} {tmps : Array Value} (h : FRel ρ T tmps) : FRel ρ' T tmps :=
  fun i v hi => let ⟨v', q1, q2⟩ := h i v hi; ⟨v', q1, q2.mono hρ ht⟩
theorem FRel.put {T : Fr} {tmps : Array Value} (h : FRel ρ T tmps) {i : Nat} (hi : i < tmps.size) {v v' : Value} (hv : VT ρ v v') : FRel ρ (T.put i v) (tmps.setIfInBounds i v') := by
  intro j u hj
  simp only [Fr.put, Fr.get] at hj
  split at hj
  · rename_i e; subst e; obtain rfl := Option.some.inj hj
    exact ⟨v', by rw [Array.getElem?_setIfInBounds_self_of_lt hi], hv⟩
  · rename_i e
    obtain ⟨u', q1, q2⟩ := h j u hj
    exact ⟨u', by rw [Array.getElem?_setIfInBounds_ne e]; exact q1, q2⟩
theorem FRel.prune {T : Fr} {tmps : Array Value} (h : FRel ρ T tmps) (l : List Nat) : FRel ρ (T.prune l) tmps := fun i v hi => h i v (Fr.get_prune T i v l hi)
/-- a new box at slot s: what pointed to the elder one is forgotten -/
theorem FRel.scrub {T : Fr} {tmps : Array Value} (h : FRel ρ T tmps) (s : Nat) (pl : Pl) : FRel (ρ.upd (true, s) pl) (T.scrub s) tmps := by
  intro i v hi
  rw [Fr.get_scrub] at hi
  unfold scrub1 at hi
  split at hi
  · rename_i u hu
    obtain ⟨u', q1, q2⟩ := h i u hu
    split at hi
    · rename_i s' hs'
      split at hi
      · simp at hi
      · rename_i hne
        obtain rfl := Option.some.inj hi
        refine ⟨u', q1, ?_⟩
        cases q2 with
        | val _ _ q => exact .val _ _ (q.mono fun b p z => by rw [Rho.upd_ne _ _ (by simp)]; exact z)
        | loc s2 off x p z =>
          simp only [locOf, Option.some.injEq] at hs'; subst hs'
          exact .loc _ off x p (by rw [Rho.upd_ne _ _ (by simpa using hne)]; exact z)
    · rename_i hnone
      obtain rfl := Option.some.inj hi
      refine ⟨u', q1, ?_⟩
      cases q2 with
      | val _ _ q => exact .val _ _ (q.mono fun b p z => by rw [Rho.upd_ne _ _ (by simp)]; exact z)
      | loc s2 off x p z => simp [locOf] at hnone
  · simp at hi

theorem opnd_sound {σ : St} (I : Inv P ρ0 h0 w0 ρ σ.m w) {a : Act} (F : FRel ρ σ.t a.tmps) {x : Operand} {v : Value} (h : opnd σ x = some v) : VT ρ v (a.eval x) := by
  cases x with
  | tmp i =>
    obtain ⟨v', q1, q2⟩ := F i v h
    have : a.eval (.tmp i) = v' := by
      simp only [Act.eval, Array.getD_eq_getD_getElem?, q1, Option.getD_some]
    rw [this]; exact q2
  | const u =>
    simp only [opnd] at h
    split at h
    · rename_i hf; obtain rfl := Option.some.inj h; exact .val _ _ (.of_flat1 hf)
    · simp at h
  | func f =>
    simp only [opnd, Option.some.injEq] at h; subst h
    exact .val _ _ (.func _ [] [] [] [] rfl rfl (by simp) (by simp))
  | global g =>
    simp only [opnd] at h
    split at h
    · rename_i hg; obtain rfl := Option.some.inj h
      obtain ⟨pl, q1, q2, q3⟩ := I.rel.glob g hg
      have := VR.ptr (ρ := ρ) g 0 pl q1
      rw [q2, q3] at this
      exact .val _ _ this
    · simp at h

/-! ### pure operations: no memory, no address -/
def _root_.Go.Sem.pureRun {α : Type} (P : Program) : Sem α → Option α
  | .pure a => some a
  | .program k => (k P).pureRun P
  | .mark _ k => k.pureRun P
  | _ => none
theorem pureRun_run {α : Type} (P : Program) (s : Sem α) (a : α) (h : s.pureRun P = some a) (w : World) : s.run P w = .ok a w := by
  induction s with
  | pure b => simp [Sem.pureRun] at h; subst h; rfl
  | program k ih => exact ih P h
  | mark m k ih => exact ih h
  | _ => simp [Sem.pureRun] at h
theorem pureRun_bind {α β : Type} (P : Program) (s : Sem α) (f : α → Sem β) : (s >>= f).pureRun P = (s.pureRun P).bind fun a => (f a).pureRun P := by
  induction s with
  | pure b => rfl
  | program k ih => exact ih P
  | mark m k ih => exact ih
  | _ => rfl
theorem pureRun_pure {α : Type} (P : Program) (a : α) : (pure a : Sem α).pureRun P = some a := rfl
theorem pureRun_program (P : Program) : program.pureRun P = some P := rfl

def evO (σ : St) : Operand → Value := fun x => (opnd σ x).getD undef
def isSelect : Op → Bool
  | .select .. => true
  | _ => false
def flatO (σ : St) (x : Operand) : Bool := match opnd σ x with
  | some v => flat2 v
  | none => false
def pureOp (P : Program) (σ : St) (o : Oper) : Option Value :=
  if o.op.operands.toList.all (flatO σ) && !isSelect o.op then
    match (execOp (evO σ) o).pureRun P with
    | some (.value v) => if flat2 v then some v else none
    | _ => none
  else none

def outV : Next → Option Value
  | .value v => some v
  | .skip => some undef
  | _ => none

/-- what is to be shown of one operation -/
def StepOK (P : Program) (o : Oper) (σ : St) (v : Value) (σ' : St) : Prop :=
  ∀ (ρ0 : Rho) (h0 : Heap) (w0 : World) (ρ : Rho) (a : Act) (w : World), Inv P ρ0 h0 w0 ρ σ.m w → FRel ρ σ.t a.tmps →
    ∃ nx v' w' ρ', (execOp a.eval o).run P w = .ok nx w' ∧ outV nx = some v' ∧ Inv P ρ0 h0 w0 ρ' σ'.m w' ∧ FRel ρ' σ'.t a.tmps ∧ VT ρ' v v' ∧
      ∀ s, (∀ d, o.dst = some d → d ≠ s) → ρ' (true, s) = ρ (true, s) ∧ (ρ (true, s) = none → σ'.m.x s = σ.m.x s)

theorem pureOp_ok {σ : St} {o : Oper} {v : Value} (h : pureOp P σ o = some v) : StepOK P o σ v σ := by
  intro ρ0 h0 w0 ρ a w I F
  unfold pureOp at h
  split at h
  · rename_i hall
    rw [Bool.and_eq_true] at hall
    obtain ⟨hall, hsel⟩ := hall
    rw [List.all_eq_true] at hall
    have hev : ∀ x ∈ o.op.operands, a.eval x = evO σ x := fun x hx => by
      have := hall x (by simpa using hx)
      unfold flatO at this
      cases ho : opnd σ x with
      | none => simp [ho] at this
      | some u =>
        rw [ho] at this
        rw [(opnd_sound I F ho).flat2 this]
        simp [evO, ho]
    have hc : execOp a.eval o = execOp (evO σ) o := execOp_congr o (fun cs b e => by simp [e, isSelect] at hsel) hev
    split at h
    · rename_i u hu
      split at h
      · rename_i hf
        obtain rfl := Option.some.inj h
        exact ⟨_, u, w, ρ, by rw [hc]; exact pureRun_run P _ _ hu w, rfl, I, F, .of_flat2 hf, fun _ _ => ⟨rfl, fun _ => rfl⟩⟩
      · simp at h
    · simp at h
  · simp at h
end
end Go.Am
