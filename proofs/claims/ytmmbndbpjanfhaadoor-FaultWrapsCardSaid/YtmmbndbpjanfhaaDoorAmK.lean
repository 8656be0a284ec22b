/- The abstract machine, part K: regions that draw, in the text's order. -/
import Derived.Test.YtmmbndbpjanfhaaDoorAmJ
set_option linter.unusedVariables false
set_option linter.unusedSimpArgs false
set_option linter.unusedSectionVars false
namespace Go.Am
open Go

section
variable {P : Program} {ρ0 ρ ρ' : Rho} {h0 : Heap} {w0 w : World} {m : Mem}

abbrev HL := List (Nat × (Mem → Option Value) × Value)
def gO (P : Program) (loc : List Nat) (T : Fr) (o : Oper) : Mem → Option Value := fun M => valN P loc ⟨T, M⟩ o
/-- one operation that changes no memory: its value, and what is to be held of it -/
def effN (P : Program) (loc : List Nat) (ops : Array Oper) (hl : HL) (i : Nat) (o : Oper) (σ : St) : Option (Value × HL) :=
  match wantedA ops σ.t o with
  | none => none
  | some false => some (undef, hl)
  | some true => match valN P loc σ o with
    | some v => some (v, if clsR o.op then (i, gO P loc σ.t o, v) :: hl else hl)
    | none => none
def okHL (B : Nat → Nat → Bool) (i : Nat) (hl : HL) (M : Mem) : Prop := ∀ e ∈ hl, B i e.1 = false → e.2.1 M = some e.2.2
def vcH (P : Program) (loc : List Nat) (ops : Array Oper) (B : Nat → Nat → Bool) (Q : St → Prop) : HL → List (Nat × Oper) → St → Prop
  | _, [], σ => Q σ
  | hl, (i, o) :: r, σ =>
    if clsN o.op then match effN P loc ops hl i o σ with
      | some (v, hl') => vcH P loc ops B Q hl' r (σ.putD o.dst v)
      | none => False
    else match wantedA ops σ.t o with
      | none => False
      | some false => vcH P loc ops B Q hl r (σ.putD o.dst undef)
      | some true => match callOf σ o with
        | some (f, args) => ACalls P f args σ.m.h fun v h' => Nice σ.m.h v h' → okHL B i hl ⟨σ.m.x, h'⟩ ∧ vcH P loc ops B Q hl r (St.putD ⟨σ.t, ⟨σ.m.x, h'⟩⟩ o.dst v)
        | none => match stepOp P loc σ o with
          | some (v, σ') => okHL B i hl σ'.m ∧ vcH P loc ops B Q hl r (σ'.putD o.dst v)
          | none => False

theorem effN_mono {loc : List Nat} {ops : Array Oper} {hl hl' : HL} {i : Nat} {o : Oper} {σ : St} {v : Value} {k : HL} (hs : ∀ e ∈ hl', e ∈ hl) (h : effN P loc ops hl i o σ = some (v, k)) :
    ∃ k', effN P loc ops hl' i o σ = some (v, k') ∧ ∀ e ∈ k', e ∈ k := by
  unfold effN at h ⊢
  split at h
  · simp at h
  · simp only [Option.some.injEq, Prod.mk.injEq] at h; obtain ⟨rfl, rfl⟩ := h; exact ⟨hl', rfl, hs⟩
  · split at h
    · simp only [Option.some.injEq, Prod.mk.injEq] at h
      obtain ⟨rfl, rfl⟩ := h
      refine ⟨_, rfl, ?_⟩
      split
      · intro e he; rcases List.mem_cons.1 he with q | q
        · rw [q]; simp
        · exact List.mem_cons_of_mem _ (hs e q)
      · exact hs
    · simp at h
theorem vcH_mono {loc : List Nat} {ops : Array Oper} {B : Nat → Nat → Bool} {Q : St → Prop} : ∀ (l : List (Nat × Oper)) (hl hl' : HL) (σ : St), (∀ e ∈ hl', e ∈ hl) → vcH P loc ops B Q hl l σ → vcH P loc ops B Q hl' l σ := by
  intro l
  induction l with
  | nil => intro hl hl' σ _ h; exact h
  | cons p r ih =>
    intro hl hl' σ hs h
    obtain ⟨i, o⟩ := p
    simp only [vcH] at h ⊢
    split at h
    · rename_i hn
      rw [if_pos hn]
      split at h
      · rename_i v k hk
        obtain ⟨k', e1, e2⟩ := effN_mono hs hk
        rw [e1]
        exact ih _ _ _ e2 h
      · exact h.elim
    · rename_i hn
      rw [if_neg hn]
      split at h
      · exact h.elim
      · rename_i hw; exact ih _ _ _ hs h
      · rename_i hw
        split at h
        · rename_i f args hc
          exact h.mono fun v h' q hn => ⟨fun e he => (q hn).1 e (hs e he), ih _ _ _ hs (q hn).2⟩
        · rename_i hc
          split at h
          · rename_i v σ' hst; exact ⟨fun e he => h.1 e (hs e he), ih _ _ _ hs h.2⟩
          · exact h.elim

/-- what o looks at is not what d writes -/
theorem looks_opnd {ops : Array Oper} {σ : St} {d : Option Nat} {o : Oper} (h : ∀ i, d = some i → i ∉ o.looksAt ops) (v : Value) : ∀ x ∈ o.op.operands, opnd (σ.putD d v) x = opnd σ x := by
  intro x hx
  cases d with
  | none => rfl
  | some i =>
    cases x with
    | tmp t =>
      have : ¬ i = t := fun e => h i rfl (by
        subst e
        exact List.mem_append_left _ (List.mem_filterMap.2 ⟨.tmp i, by simpa using hx, rfl⟩))
      simp [opnd, St.putD, Fr.get, Fr.put, this]
    | _ => rfl
theorem looks_wanted {ops : Array Oper} {T : Fr} {m : Mem} {d : Option Nat} {o : Oper} (h : ∀ i, d = some i → i ∉ o.looksAt ops) (v : Value) : wantedA ops (St.putD ⟨T, m⟩ d v).t o = wantedA ops T o := by
  cases d with
  | none => rfl
  | some i =>
    unfold wantedA
    cases hg : o.guard with
    | none => rfl
    | some gw =>
      obtain ⟨g, want⟩ := gw
      simp only
      cases ht : (ops[g]?).bind (·.dst) with
      | none => rfl
      | some t =>
        have : ¬ i = t := fun e => h i rfl (by subst e; simp [Oper.looksAt, hg, ht])
        simp [St.putD, Fr.get, Fr.put, this]
theorem putD_comm (σ : St) {d e : Option Nat} (v u : Value) (h : ∀ i, d = some i → e ≠ some i) : (σ.putD d v).putD e u = (σ.putD e u).putD d v := by
  cases d with
  | none => rfl
  | some i =>
    cases e with
    | none => rfl
    | some j =>
      have hne : ¬ i = j := fun q => h i rfl (by rw [q])
      simp only [St.putD]
      congr 1
      funext k
      simp only [Fr.put]
      by_cases h1 : j = k
      · subst h1; simp [hne]
      · simp [h1]
theorem putD_m (σ : St) (d : Option Nat) (v : Value) : (σ.putD d v).m = σ.m := by cases d <;> rfl
theorem putD_mk (T : Fr) (M M' : Mem) (d : Option Nat) (v : Value) : (St.putD ⟨T, M⟩ d v).t = (St.putD ⟨T, M'⟩ d v).t := by cases d <;> rfl

/-- the effect of an operation of class N where another one that it does not look at stands ahead of it -/
theorem effN_congr {loc : List Nat} {ops : Array Oper} {hl : HL} {i : Nat} {o : Oper} (hn : clsN o.op = true) {σ τ : St} (hw : wantedA ops σ.t o = wantedA ops τ.t o)
    (ho : ∀ M, ∀ x ∈ o.op.operands, opnd ⟨σ.t, M⟩ x = opnd ⟨τ.t, M⟩ x) (hv : wantedA ops τ.t o = some true → valN P loc σ o = valN P loc τ o) :
    effN P loc ops hl i o σ = effN P loc ops hl i o τ := by
  unfold effN
  rw [hw]
  have hg : gO P loc σ.t o = gO P loc τ.t o := by
    funext M
    exact valN_congr hn (ho M) (fun _ => rfl)
  split
  · rfl
  · rfl
  · rename_i hw'
    rw [hv hw', hg]

theorem vcH_swap {loc : List Nat} {ops : Array Oper} {B : Nat → Nat → Bool} {Q : St → Prop} {i j : Nat} {oi oj : Oper} {r : List (Nat × Oper)} (hj : clsN oj.op = true) (hB : B i j = false)
    (a1 : ∀ d, oj.dst = some d → d ∉ oi.looksAt ops) (a2 : ∀ d, oj.dst = some d → oi.dst ≠ some d) (a3 : ∀ d, oi.dst = some d → d ∉ oj.looksAt ops) (hnl : notLoc loc oi = true)
    {hl : HL} {σ : St} (h : vcH P loc ops B Q hl ((j, oj) :: (i, oi) :: r) σ) : vcH P loc ops B Q hl ((i, oi) :: (j, oj) :: r) σ := by
  obtain ⟨T, M⟩ := σ
  simp only [vcH] at h
  rw [if_pos hj] at h
  split at h
  rotate_left
  · exact h.elim
  rename_i u hl1 hej
  have hopi : ∀ M', ∀ x ∈ oi.op.operands, opnd (St.putD ⟨T, M'⟩ oj.dst u) x = opnd ⟨T, M'⟩ x := fun M' => looks_opnd a1 u
  have hwi : wantedA ops (St.putD ⟨T, M⟩ oj.dst u).t oi = wantedA ops T oi := looks_wanted (m := M) a1 u
  have hst : ∀ M', St.putD ⟨T, M'⟩ oj.dst u = ⟨(St.putD ⟨T, M⟩ oj.dst u).t, M'⟩ := fun M' => by cases oj.dst <;> rfl
  -- what is held of j, if anything
  have hl1s : ∀ e ∈ hl, e ∈ hl1 := by
    unfold effN at hej
    split at hej
    · simp at hej
    · simp only [Option.some.injEq, Prod.mk.injEq] at hej; rw [← hej.2]; exact fun e he => he
    · split at hej
      · simp only [Option.some.injEq, Prod.mk.injEq] at hej
        rw [← hej.2]
        split
        · exact fun e he => List.mem_cons_of_mem _ he
        · exact fun e he => he
      · simp at hej
  -- j behind i, in whatever memory i leaves where what is held of j holds
  have jafter : ∀ (vi : Value) (M' : Mem), M'.h.g = M.h.g → okHL B i hl1 M' → effN P loc ops hl j oj (St.putD ⟨T, M'⟩ oi.dst vi) = some (u, hl1) := by
    intro vi M' hg hok
    have hwj : wantedA ops (St.putD ⟨T, M'⟩ oi.dst vi).t oj = wantedA ops T oj := looks_wanted (m := M') a3 vi
    have hoj : ∀ M1, ∀ x ∈ oj.op.operands, opnd ⟨(St.putD ⟨T, M'⟩ oi.dst vi).t, M1⟩ x = opnd ⟨T, M1⟩ x := fun M1 x hx => by
      have := looks_opnd (σ := ⟨T, M1⟩) a3 vi x hx
      rw [← this, putD_mk T M' M1]
      cases oi.dst <;> rfl
    rw [← hej]
    refine effN_congr hj hwj hoj fun hwt => ?_
    by_cases hr : clsR oj.op = true
    · -- it reads: what is held of it
      unfold effN at hej
      rw [hwt] at hej
      simp only [hr, if_true] at hej
      split at hej
      rotate_left
      · simp at hej
      rename_i v hv
      simp only [Option.some.injEq, Prod.mk.injEq] at hej
      obtain ⟨rfl, rfl⟩ := hej
      have := hok (j, gO P loc T oj, v) (by simp) hB
      simp only [gO] at this
      rw [hv, ← this]
      have hm : (St.putD ⟨T, M'⟩ oi.dst vi) = ⟨(St.putD ⟨T, M'⟩ oi.dst vi).t, M'⟩ := by cases oi.dst <;> rfl
      rw [hm]
      exact valN_congr hj (hoj M') (fun _ => rfl)
    · have hm : (St.putD ⟨T, M'⟩ oi.dst vi) = ⟨(St.putD ⟨T, M'⟩ oi.dst vi).t, M'⟩ := by cases oi.dst <;> rfl
      rw [hm]
      refine valN_congr hj (fun x hx => ?_) (fun q => absurd q hr)
      rw [hoj M' x hx]
      exact opnd_congr hg x
  have hcomm : ∀ (vi : Value) (M' : Mem), St.putD (St.putD ⟨T, M'⟩ oi.dst vi) oj.dst u = St.putD ⟨(St.putD ⟨T, M⟩ oj.dst u).t, M'⟩ oi.dst vi := fun vi M' => by
    rw [← hst M']
    exact (putD_comm _ u vi a2).symm
  simp only [vcH]
  by_cases hi : clsN oi.op = true
  · -- neither changes memory
    rw [if_pos hi] at h ⊢
    split at h
    rotate_left
    · exact h.elim
    rename_i vi hl2 hei
    have hei' : effN P loc ops hl1 i oi ⟨T, M⟩ = some (vi, hl2) := by
      rw [← hei]
      refine (effN_congr hi hwi (fun M1 x hx => ?_) fun _ => ?_).symm
      · have := hopi M1 x hx; rw [hst M1] at this; exact this
      · rw [hst M]
        exact valN_congr hi (fun x hx => by have := hopi M x hx; rw [hst M] at this; exact this) (fun _ => rfl)
    -- the held ones in the other order
    have hcase : ∃ k, effN P loc ops hl i oi ⟨T, M⟩ = some (vi, k) ∧ ∃ k2, effN P loc ops k j oj (St.putD ⟨T, M⟩ oi.dst vi) = some (u, k2) ∧ ∀ e ∈ k2, e ∈ hl2 := by
      have hwj : wantedA ops (St.putD ⟨T, M⟩ oi.dst vi).t oj = wantedA ops T oj := looks_wanted (m := M) a3 vi
      have hoj : ∀ M1, ∀ x ∈ oj.op.operands, opnd ⟨(St.putD ⟨T, M⟩ oi.dst vi).t, M1⟩ x = opnd ⟨T, M1⟩ x := fun M1 x hx => by
        have := looks_opnd (σ := ⟨T, M1⟩) a3 vi x hx
        rw [← this, putD_mk T M M1]
        cases oi.dst <;> rfl
      have hjv : ∀ k, effN P loc ops k j oj (St.putD ⟨T, M⟩ oi.dst vi) = effN P loc ops k j oj ⟨T, M⟩ := fun k => by
        refine effN_congr hj hwj hoj fun _ => ?_
        have hm : (St.putD ⟨T, M⟩ oi.dst vi) = ⟨(St.putD ⟨T, M⟩ oi.dst vi).t, M⟩ := by cases oi.dst <;> rfl
        rw [hm]
        exact valN_congr hj (hoj M) (fun _ => rfl)
      simp only [hjv]
      unfold effN at hej hei' ⊢
      split at hej
      · simp at hej
      · simp only [Option.some.injEq, Prod.mk.injEq] at hej
        obtain ⟨rfl, rfl⟩ := hej
        rename_i hwjf
        simp only at hwjf
        refine ⟨hl2, hei', hl2, rfl, fun e he => he⟩
      · rename_i hwjt
        simp only at hwjt
        split at hej
        rotate_left
        · simp at hej
        rename_i vj hvj
        simp only [Option.some.injEq, Prod.mk.injEq] at hej
        obtain ⟨rfl, rfl⟩ := hej
        split at hei'
        · simp at hei'
        · simp only [Option.some.injEq, Prod.mk.injEq] at hei'
          obtain ⟨rfl, rfl⟩ := hei'
          exact ⟨hl, rfl, _, rfl, fun e he => he⟩
        · split at hei'
          rotate_left
          · simp at hei'
          simp only [Option.some.injEq, Prod.mk.injEq] at hei'
          obtain ⟨rfl, rfl⟩ := hei'
          refine ⟨_, rfl, _, rfl, fun e he => ?_⟩
          by_cases r1 : clsR oi.op = true <;> by_cases r2 : clsR oj.op = true <;> simp only [r1, r2, if_true, if_false, Bool.false_eq_true] at he ⊢
          · simp only [List.mem_cons] at he ⊢
            rcases he with q | q | q
            · exact .inr (.inl q)
            · exact .inl q
            · exact .inr (.inr q)
          · exact he
          · exact he
          · exact he
    obtain ⟨k, e1, k2, e2, e3⟩ := hcase
    rw [e1]
    simp only
    rw [if_pos hj, e2]
    simp only
    rw [hcomm vi M, ← hst M]
    exact vcH_mono _ _ _ _ e3 h
  · rw [if_neg hi] at h ⊢
    rw [hwi] at h
    split at h
    · exact h.elim
    · rename_i hw
      rw [if_pos hj]
      -- not wanted: nothing is done
      have hwj : wantedA ops (St.putD ⟨T, M⟩ oi.dst undef).t oj = wantedA ops T oj := looks_wanted (m := M) a3 undef
      have hoj : ∀ M1, ∀ x ∈ oj.op.operands, opnd ⟨(St.putD ⟨T, M⟩ oi.dst undef).t, M1⟩ x = opnd ⟨T, M1⟩ x := fun M1 x hx => by
        have := looks_opnd (σ := ⟨T, M1⟩) a3 undef x hx
        rw [← this, putD_mk T M M1]
        cases oi.dst <;> rfl
      have hjv : effN P loc ops hl j oj (St.putD ⟨T, M⟩ oi.dst undef) = some (u, hl1) := by
        rw [← hej]
        refine effN_congr hj hwj hoj fun _ => ?_
        have hm : (St.putD ⟨T, M⟩ oi.dst undef) = ⟨(St.putD ⟨T, M⟩ oi.dst undef).t, M⟩ := by cases oi.dst <;> rfl
        rw [hm]
        exact valN_congr hj (hoj M) (fun _ => rfl)
      rw [hjv]
      simp only
      rw [hcomm undef M, ← hst M]
      exact h
    · rename_i hw
      have hci : callOf (St.putD ⟨T, M⟩ oj.dst u) oi = callOf ⟨T, M⟩ oi := by rw [hst M]; exact callOf_congr fun x hx => by have := hopi M x hx; rw [hst M] at this; exact this
      rw [hci] at h
      split at h
      · rename_i f args hc
        rw [putD_m] at h
        refine h.mono fun v h' q hn => ?_
        obtain ⟨q1, q2⟩ := q hn
        refine ⟨fun e he => q1 e (hl1s e he), ?_⟩
        rw [if_pos hj, jafter v ⟨M.x, h'⟩ hn.1 q1]
        simp only
        rw [hcomm v]
        exact q2
      · rename_i hc
        have hsi := stepW_congr (P := P) (loc := loc) (T := T) (T' := (St.putD ⟨T, M⟩ oj.dst u).t) (m := M) hnl (fun x hx => by have := hopi M x hx; rw [hst M] at this; exact this)
        rw [hst M, hsi] at h
        split at h
        rotate_left
        · exact h.elim
        rename_i v σ' hs
        cases hs2 : stepOp P loc ⟨T, M⟩ oi with
        | none => rw [hs2] at hs; simp at hs
        | some p =>
          obtain ⟨v2, σ2⟩ := p
          rw [hs2] at hs
          simp only [Option.map_some, Option.some.injEq, Prod.mk.injEq] at hs
          obtain ⟨rfl, rfl⟩ := hs
          have hg := step_g hs2
          have ht : σ2.t = T := by
            have := stepW_congr (P := P) (loc := loc) (T := T) (T' := T) (m := M) hnl (fun x hx => rfl)
            rw [hs2] at this
            simp only [Option.map_some, Option.some.injEq, Prod.mk.injEq, true_and] at this
            rw [this]
          obtain ⟨T2, M2⟩ := σ2
          simp only at ht hg h ⊢
          subst ht
          refine ⟨fun e he => h.1 e (hl1s e he), ?_⟩
          rw [if_pos hj, jafter v2 M2 hg h.1]
          simp only
          rw [hcomm v2]
          exact h.2
end
end Go.Am
