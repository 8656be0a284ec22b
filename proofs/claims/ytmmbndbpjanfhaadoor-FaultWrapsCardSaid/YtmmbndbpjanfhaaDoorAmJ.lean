/- The abstract machine, part J: an order that is drawn comes to what the text's order comes to. -/
import Derived.Test.YtmmbndbpjanfhaaDoorAmI
set_option linter.unusedVariables false
set_option linter.unusedSimpArgs false
set_option linter.unusedSectionVars false
namespace Go.Am
open Go

section
variable {P : Program} {ρ0 ρ ρ' : Rho} {h0 : Heap} {w0 w : World} {m : Mem}

/-- not a variable of this frame that is made -/
def notLoc (loc : List Nat) (o : Oper) : Bool := match o.op with
  | .alloc _ | .box _ _ => match o.dst with
    | some s => !loc.contains s
    | none => true
  | _ => true

theorem newVar_congr {loc : List Nat} {T T' : Fr} {m : Mem} {o : Oper} (hl : (match o.dst with | some s => !loc.contains s | none => true) = true) (e : TypeId) (cs : List Value) :
    St.newVar ⟨T', m⟩ loc o.dst e cs = (St.newVar ⟨T, m⟩ loc o.dst e cs).map fun p => (p.1, ⟨T', p.2.m⟩) := by
  unfold St.newVar
  split
  · rename_i s hs
    rw [hs] at hl
    simp only [Bool.not_eq_true', ] at hl
    simp only [hl, Bool.false_eq_true, if_false, Option.map_some]
  · rfl
theorem srcCells_congr {σ τ : St} {u : TypeId} {sz : Nat} {x : Operand} (h : opnd σ x = opnd τ x) (hm : σ.m = τ.m) : srcCells P σ u sz x = srcCells P τ u sz x := by
  unfold srcCells
  rw [h, hm]
theorem stepW_congr {loc : List Nat} {T T' : Fr} {m : Mem} {o : Oper} (hl : notLoc loc o = true) (h : ∀ x ∈ o.op.operands, opnd ⟨T', m⟩ x = opnd ⟨T, m⟩ x) :
    stepOp P loc ⟨T', m⟩ o = (stepOp P loc ⟨T, m⟩ o).map fun p => (p.1, ⟨T', p.2.m⟩) := by
  by_cases hn : clsN o.op = true
  · have hv := valN_congr (P := P) (loc := loc) hn h (fun _ => rfl)
    unfold valN at hv
    cases h1 : stepOp P loc ⟨T', m⟩ o with
    | none =>
      rw [h1] at hv
      cases h2 : stepOp P loc ⟨T, m⟩ o with
      | none => rfl
      | some p => rw [h2] at hv; simp at hv
    | some p =>
      rw [h1] at hv
      cases h2 : stepOp P loc ⟨T, m⟩ o with
      | none => rw [h2] at hv; simp at hv
      | some q =>
        rw [h2] at hv
        obtain ⟨v, σ'⟩ := p
        obtain ⟨u, τ'⟩ := q
        simp only [Option.map_some, Option.some.injEq] at hv
        have e1 := stepN_same hn h1
        have e2 := stepN_same hn h2
        subst e1; subst e2; subst hv
        rfl
  · have hpure := pureOp_congr (P := P) h
    obtain ⟨dst, op, type, pos, after, guard⟩ := o
    unfold stepOp
    have hp : stepPure P ⟨T', m⟩ ⟨dst, op, type, pos, after, guard⟩ = (stepPure P ⟨T, m⟩ ⟨dst, op, type, pos, after, guard⟩).map fun p => (p.1, ⟨T', p.2.m⟩) := by
      unfold stepPure; rw [hpure]; split <;> rfl
    cases op <;> simp only [clsN, not_true_eq_false] at hn <;> simp only [Op.operands] at h <;> simp only
    case alloc t => simp only [opAlloc]; split <;> first | rfl | exact newVar_congr (o := ⟨dst, .alloc t, type, pos, after, guard⟩) hl _ _
    case box t x =>
      have h1 := h x (by simp)
      simp only [opBox, h1]
      split <;> first | rfl | (split <;> first | rfl | exact newVar_congr (o := ⟨dst, .box t x, type, pos, after, guard⟩) hl _ _)
    case buildSlice t n ps =>
      have h1 := partsA_congr (σ := ⟨T', m⟩) (τ := ⟨T, m⟩) ps.toList (fun p hp => h p.2 (by simp; exact ⟨p.1, by simpa using hp⟩))
      simp only [opBuildSlice, h1]
      split <;> first | rfl | (split <;> first | rfl | (split <;> first | rfl | (split <;> rfl)))
    case store t x y =>
      have h1 := h x (by simp); have h2 := h y (by simp)
      simp only [opStore, h1, h2]
      split <;> first | rfl | (split <;> first | rfl | (split <;> rfl))
    case makeSlice t x y =>
      have h1 := h x (by simp); have h2 := h y (by simp)
      simp only [opMakeSlice, h1, h2]
      split <;> first | rfl | (split <;> first | rfl | (split <;> first | rfl | (split <;> rfl)))
    case range t x =>
      have h1 := h x (by simp)
      simp only [opRange, h1]
      split <;> rfl
    case next x b =>
      have h1 := h x (by simp)
      cases b
      · exact hp
      · simp only [opNextS, h1]
        split <;> first | rfl | (split <;> first | rfl | (split <;> rfl))
    case slice t x lo hi mx =>
      cases mx with
      | none => simp at hn
      | some _ => exact hp
    case call c =>
      obtain ⟨callee, ⟨args⟩, ⟨tys⟩⟩ := c
      simp only [stepCall]
      cases callee with
      | value f => exact hp
      | invoke r mm => exact hp
      | builtin b =>
        cases b <;> first
          | exact hp
          | (simp at hn; done)
          | (simp only
             split <;> first | rfl | (
              have h1 := h _ (by simp [Call.operands]; exact .inl rfl)
              have h2 := h _ (by simp [Call.operands]; exact .inr rfl)
              simp only [opAppend, h1, srcCells_congr (P := P) (σ := ⟨T', m⟩) (τ := ⟨T, m⟩) h2 rfl]
              split <;> first | rfl | (split <;> first | rfl | (split <;> first | rfl | (split <;> first | rfl | (split <;> first | rfl | (split <;> rfl)))))))
    all_goals exact hp

theorem callOf_congr {T T' : Fr} {m : Mem} {o : Oper} (h : ∀ x ∈ o.op.operands, opnd ⟨T', m⟩ x = opnd ⟨T, m⟩ x) : callOf ⟨T', m⟩ o = callOf ⟨T, m⟩ o := by
  unfold callOf
  split
  · rename_i f args ts ho
    rw [ho] at h
    have h1 := h f (by simp [Op.operands, Call.operands])
    have h2 := mapM_congr_opnd (f := opnd ⟨T', m⟩) (g := opnd ⟨T, m⟩) args.toList (fun x hx => h x (by simp [Op.operands, Call.operands]; exact .inr (by simpa using hx)))
    rw [h1, h2]
  · rfl

/-- no operation turns the number of globals -/
theorem step_g {loc : List Nat} {σ σ' : St} {o : Oper} {v : Value} (h : stepOp P loc σ o = some (v, σ')) : σ'.m.h.g = σ.m.h.g := by
  by_cases hn : clsN o.op = true
  · rw [stepN_same hn h]
  · obtain ⟨dst, op, type, pos, after, guard⟩ := o
    unfold stepOp at h
    have hp : ∀ {o : Oper}, stepPure P σ o = some (v, σ') → σ'.m.h.g = σ.m.h.g := fun {o} h => by
      unfold stepPure at h; split at h <;> simp at h; rw [h.2]
    have hnv : ∀ {d : Option Nat} {e : TypeId} {cs : List Value}, σ.newVar loc d e cs = some (v, σ') → σ'.m.h.g = σ.m.h.g := fun {d e cs} h => by
      unfold St.newVar at h
      split at h
      · split at h <;> simp at h <;> rw [← h.2] <;> rfl
      · simp at h
    have hset : ∀ (m : Mem) (k : Key) (e : TypeId) (cs : List Value), (m.setRow k e cs).h.g = m.h.g := fun m k e cs => by obtain ⟨t, b⟩ := k; cases t <;> rfl
    cases op <;> simp only [clsN, not_true_eq_false] at hn <;> simp only at h
    case alloc t => simp only [opAlloc] at h; split at h <;> first | (simp at h; done) | exact hnv h
    case box t x => simp only [opBox] at h; split at h <;> first | (simp at h; done) | (split at h <;> first | (simp at h; done) | exact hnv h)
    case buildSlice t n ps =>
      simp only [opBuildSlice] at h
      split at h <;> first | (simp at h; done) | (split at h <;> first | (simp at h; done) | (split at h <;> first | (simp at h; done) | (split at h <;> simp at h; rw [← h.2]; rfl)))
    case store t x y =>
      simp only [opStore] at h
      split at h <;> first | (simp at h; done) | (split at h <;> first | (simp at h; done) | (split at h <;> simp at h; rw [← h.2]; exact hset _ _ _ _))
    case makeSlice t x y =>
      simp only [opMakeSlice] at h
      split at h <;> first | (simp at h; done) | (split at h <;> first | (simp at h; done) | (split at h <;> first | (simp at h; done) | (split at h <;> simp at h; rw [← h.2]; rfl)))
    case range t x => simp only [opRange] at h; split at h <;> simp at h; rw [← h.2]; rfl
    case next x b =>
      cases b
      · exact hp h
      · simp only [opNextS] at h
        split at h <;> first | (simp at h; done) | (split at h <;> first | (simp at h; done) | (split at h <;> simp at h <;> rw [← h.2] <;> rfl))
    case slice t x lo hi mx =>
      cases mx with
      | none => simp at hn
      | some _ => exact hp h
    case call c =>
      obtain ⟨callee, ⟨args⟩, ⟨tys⟩⟩ := c
      simp only [stepCall] at h
      cases callee with
      | value f => exact hp h
      | invoke r mm => exact hp h
      | builtin b =>
        cases b <;> first
          | exact hp h
          | (simp at hn; done)
          | (simp only at h
             split at h <;> first | (simp at h; done) | (
              simp only [opAppend] at h
              split at h <;> first | (simp at h; done) | (split at h <;> first | (simp at h; done) | (split at h <;> first | (simp at h; done) | (split at h <;> first | (simp at h; done) | (split at h <;> first | (simp at h; done) | (simp at h; rw [← h.2]; done) | (simp at h; rw [← h.2]; rfl) | (split at h <;> first | (simp at h; done) | (simp at h; rw [← h.2]; rfl))))))))
    all_goals exact hp h
end
end Go.Am
