/- The abstract machine, part I: regions that draw their order. -/
import Derived.Test.YtmmbndbpjanfhaaDoorAmH
import Derived.Orders
set_option linter.unusedVariables false
set_option linter.unusedSimpArgs false
set_option linter.unusedSectionVars false
namespace Go.Am
open Go

section
variable {P : Program} {ρ0 ρ ρ' : Rho} {h0 : Heap} {w0 w : World} {m : Mem}

/-- operations that change no memory -/
def clsN : Op → Bool
  | .move _ | .assign _ | .pick .. | .load .. | .build .. | .fieldAddr .. | .field .. | .indexAddr .. | .extract .. | .makeInterface .. | .makeFunc .. | .slice _ _ _ _ none | .nilCheck _
  | .binOp .. | .unOp .. | .convert .. | .index .. => true
  | .call c => match c.callee with
    | .builtin .len | .builtin .min | .builtin .max => true
    | _ => false
  | _ => false
/-- of these, those that read memory -/
def clsR : Op → Bool
  | .load .. | .slice .. => true
  | _ => false

theorem opnd_congr {T : Fr} {m m' : Mem} (h : m'.h.g = m.h.g) (x : Operand) : opnd ⟨T, m'⟩ x = opnd ⟨T, m⟩ x := by
  cases x <;> simp [opnd, h]
theorem mapM_congr_opnd {f g : Operand → Option Value} : ∀ (l : List Operand), (∀ x ∈ l, f x = g x) → l.mapM f = l.mapM g := by
  intro l
  induction l with
  | nil => intro _; rfl
  | cons x r ih => intro h; rw [List.mapM_cons, List.mapM_cons, h x (by simp), ih fun y hy => h y (by simp [hy])]
theorem partsA_congr {σ τ : St} : ∀ (l : List (Nat × Operand)), (∀ p ∈ l, opnd σ p.2 = opnd τ p.2) → partsA σ l = partsA τ l := by
  intro l
  induction l with
  | nil => intro _; rfl
  | cons p r ih => intro h; obtain ⟨i, x⟩ := p; simp only [partsA, h (i, x) (by simp), ih fun y hy => h y (by simp [hy])]

/-- the value of an operation that changes no memory: what its operands are, and memory where it reads, decide -/
def valN (P : Program) (loc : List Nat) (σ : St) (o : Oper) : Option Value := (stepOp P loc σ o).map (·.1)

theorem pureOp_congr {σ τ : St} {o : Oper} (h : ∀ x ∈ o.op.operands, opnd σ x = opnd τ x) : pureOp P σ o = pureOp P τ o := by
  unfold pureOp
  have h1 : o.op.operands.toList.all (flatO σ) = o.op.operands.toList.all (flatO τ) := by
    rw [Bool.eq_iff_iff, List.all_eq_true, List.all_eq_true]
    constructor
    · intro q x hx; have := q x hx; unfold flatO at this ⊢; rw [← h x (by simpa using hx)]; exact this
    · intro q x hx; have := q x hx; unfold flatO at this ⊢; rw [h x (by simpa using hx)]; exact this
  rw [h1]
  by_cases hs : isSelect o.op = true
  · simp [hs]
  · have : execOp (evO σ) o = execOp (evO τ) o := execOp_congr o (fun cs b e => hs (by simp [e, isSelect])) fun x hx => by simp only [evO, h x hx]
    rw [this]

theorem valN_congr {loc : List Nat} {σ τ : St} {o : Oper} (hn : clsN o.op = true) (h : ∀ x ∈ o.op.operands, opnd σ x = opnd τ x) (hm : clsR o.op = true → σ.m = τ.m) :
    valN P loc σ o = valN P loc τ o := by
  have hpure := pureOp_congr (P := P) h
  obtain ⟨dst, op, type, pos, after, guard⟩ := o
  unfold valN stepOp
  cases op <;> simp only [clsN, Bool.false_eq_true] at hn <;> simp only [Op.operands] at h <;> simp only [clsR] at hm
  case move x => have := h x (by simp); simp only [opMove, this]; split <;> rfl
  case assign x => have := h x (by simp); simp only [opMove, this]; split <;> rfl
  case pick c x y => have h1 := h c (by simp); have h2 := h x (by simp); have h3 := h y (by simp); simp only [opPick, h1]; split <;> first | rfl | (rename_i b _; cases b <;> simp only [h2, h3, Bool.false_eq_true, if_true, if_false] <;> split <;> rfl)
  case build t ps =>
    have h1 := partsA_congr (σ := σ) (τ := τ) ps.toList (fun p hp => h p.2 (by simp; exact ⟨p.1, by simpa using hp⟩))
    simp only [opBuild, h1]; split <;> first | rfl | (split <;> first | rfl | (split <;> rfl))
  case load t x => have h1 := h x (by simp); have h2 := hm trivial; simp only [opLoad, h1, h2]; split <;> first | rfl | (split <;> first | rfl | (split <;> rfl))
  case nilCheck x => have h1 := h x (by simp); simp only [opNilCheck, h1]; split <;> rfl
  case makeInterface t x => have h1 := h x (by simp); simp only [opMakeIface, h1]; split <;> first | rfl | (split <;> first | rfl | (split <;> rfl))
  case makeFunc fn a b =>
    have h1 := mapM_congr_opnd (f := opnd σ) (g := opnd τ) a.toList (fun x hx => h x (by simp; exact .inl (by simpa using hx)))
    have h2 := mapM_congr_opnd (f := opnd σ) (g := opnd τ) b.toList (fun x hx => h x (by simp; exact .inr (by simpa using hx)))
    simp only [opMakeFunc, h1, h2]; split <;> first | rfl | (split <;> rfl)
  case slice t x lo hi mx =>
    cases mx with
    | some _ => simp at hn
    | none =>
      have h0 := h x (by simp); have h2 := hm trivial
      have hb : ∀ d, boundA σ lo d = boundA τ lo d := fun d => by cases lo with | none => rfl | some i => have := h i (by simp); simp only [boundA, this]
      have hb2 : ∀ d, boundA σ hi d = boundA τ hi d := fun d => by cases hi with | none => rfl | some i => have := h i (by simp); simp only [boundA, this]
      simp only
      split
      · simp only [stepPure, hpure]; split <;> rfl
      · simp only [opSlice, h0, hb, hb2, h2]; split <;> first | rfl | (split <;> first | rfl | (split <;> rfl))
  case fieldAddr s x f => have h1 := h x (by simp); simp only [opFieldAddr, h1]; split <;> rfl
  case field s x f => have h1 := h x (by simp); simp only [opField, h1]; split <;> first | rfl | (split <;> rfl)
  case indexAddr t x i => have h1 := h x (by simp); have h2 := h i (by simp); simp only [opIndexAddr, h1, h2]; split <;> first | rfl | (split <;> first | rfl | (split <;> rfl))
  case extract x k => have h1 := h x (by simp); simp only [opExtract, h1]; split <;> first | rfl | (split <;> rfl)
  case binOp op t x y yt =>
    have h1 := h x (by simp); have h2 := h y (by simp)
    have e : (opNilC P σ op t x y).map (·.1) = (opNilC P τ op t x y).map (·.1) := by
      simp only [opNilC, h1, h2]; split <;> first | rfl | (split <;> first | rfl | (split <;> rfl))
    simp only
    cases q1 : opNilC P σ op t x y <;> cases q2 : opNilC P τ op t x y <;> rw [q1, q2] at e <;> simp at e
    · simp only [stepPure, hpure]; split <;> rfl
    · simp [e]
  case call c =>
    obtain ⟨callee, ⟨args⟩, ⟨tys⟩⟩ := c
    cases callee with
    | value f => simp at hn
    | invoke r mm => simp at hn
    | builtin b =>
      cases b <;> simp at hn <;> simp only [stepCall]
      · split
        · have h1 := h _ (by simp [Call.operands]; rfl); simp only [opLen, h1]; split <;> rfl
        · rfl
      · simp only [stepPure, hpure]; split <;> rfl
      · simp only [stepPure, hpure]; split <;> rfl
  all_goals (simp only [stepPure, hpure]; split <;> rfl)

/-- an operation that changes no memory leaves the state -/
theorem stepN_same {loc : List Nat} {σ σ' : St} {o : Oper} {v : Value} (hn : clsN o.op = true) (h : stepOp P loc σ o = some (v, σ')) : σ' = σ := by
  obtain ⟨dst, op, type, pos, after, guard⟩ := o
  unfold stepOp at h
  have hp : ∀ {o : Oper}, stepPure P σ o = some (v, σ') → σ' = σ := fun {o} h => by
    unfold stepPure at h; split at h <;> simp at h; exact h.2.symm
  cases op <;> simp only [clsN, Bool.false_eq_true] at hn <;> simp only at h
  case move x => simp only [opMove] at h; split at h <;> simp at h; exact h.2.symm
  case assign x => simp only [opMove] at h; split at h <;> simp at h; exact h.2.symm
  case pick c x y => simp only [opPick] at h; split at h <;> first | (simp at h; done) | (split at h <;> simp at h; exact h.2.symm)
  case build t ps => simp only [opBuild] at h; split at h <;> first | (simp at h; done) | (split at h <;> first | (simp at h; done) | (split at h <;> simp at h; exact h.2.symm))
  case load t x => simp only [opLoad] at h; split at h <;> first | (simp at h; done) | (split at h <;> first | (simp at h; done) | (split at h <;> simp at h; exact h.2.symm))
  case nilCheck x => simp only [opNilCheck] at h; split at h <;> simp at h <;> exact h.2.symm
  case makeInterface t x => simp only [opMakeIface] at h; split at h <;> first | (simp at h; done) | (split at h <;> first | (simp at h; done) | (split at h <;> simp at h; exact h.2.symm))
  case makeFunc fn a b => simp only [opMakeFunc] at h; split at h <;> first | (simp at h; done) | (split at h <;> simp at h; exact h.2.symm)
  case slice t x lo hi mx =>
    cases mx with
    | some _ => simp at hn
    | none =>
      simp only at h
      split at h
      · exact hp h
      · simp only [opSlice] at h; split at h <;> first | (simp at h; done) | (split at h <;> first | (simp at h; done) | (simp at h; exact h.2.symm) | (split at h <;> simp at h; exact h.2.symm))
  case fieldAddr s x f => simp only [opFieldAddr] at h; split at h <;> simp at h; exact h.2.symm
  case field s x f => simp only [opField] at h; split at h <;> first | (simp at h; done) | (split at h <;> simp at h; exact h.2.symm)
  case indexAddr t x i => simp only [opIndexAddr] at h; split at h <;> first | (simp at h; done) | (split at h <;> first | (simp at h; done) | (split at h <;> simp at h; exact h.2.symm))
  case binOp op t x y yt =>
    split at h
    · rename_i r hr
      rw [← hr] at h
      simp only [opNilC] at h; split at h <;> first | (simp at h; done) | (split at h <;> first | (simp at h; done) | (split at h <;> simp at h <;> exact h.2.symm))
    · exact hp h
  case extract x k => simp only [opExtract] at h; split at h <;> first | (simp at h; done) | (split at h <;> simp at h; exact h.2.symm)
  case call c =>
    obtain ⟨callee, ⟨args⟩, ⟨tys⟩⟩ := c
    cases callee with
    | value f => simp at hn
    | invoke r mm => simp at hn
    | builtin b =>
      cases b <;> simp at hn <;> simp only [stepCall] at h
      · split at h
        · simp only [opLen] at h; split at h <;> simp at h <;> exact h.2.symm
        · simp at h
      · exact hp h
      · exact hp h
  all_goals (exact hp h)
theorem callOf_N {σ : St} {o : Oper} (hn : clsN o.op = true) : callOf σ o = none := by
  unfold callOf
  split
  · rename_i ho; rw [ho] at hn; simp [clsN] at hn
  · rfl
end
end Go.Am
