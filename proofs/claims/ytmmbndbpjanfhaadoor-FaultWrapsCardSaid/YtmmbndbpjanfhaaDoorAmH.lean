/- The abstract machine, part H: regions, code, calls. -/
import Derived.Test.YtmmbndbpjanfhaaDoorAmG
set_option linter.unusedVariables false
set_option linter.unusedSimpArgs false
set_option linter.unusedSectionVars false
namespace Go.Am
open Go

section
variable {P : Program} {ρ0 ρ ρ' : Rho} {h0 : Heap} {w0 w : World} {m : Mem}

def stepPure (P : Program) (σ : St) (o : Oper) : Option (Value × St) := match pureOp P σ o with
  | some v => some (v, σ)
  | none => none
def stepCall (P : Program) (σ : St) (o : Oper) (c : Call) : Option (Value × St) :=
  match c.callee with
  | .builtin .len => match c.args.toList, c.argTypes.toList with
    | [x], [t] => opLen P σ t x
    | _, _ => none
  | .builtin .append => match c.args.toList, c.argTypes.toList with
    | [s, x], [t, u] => opAppend P σ t u s x
    | _, _ => none
  | _ => stepPure P σ o
def stepOp (P : Program) (loc : List Nat) (σ : St) (o : Oper) : Option (Value × St) :=
  match o.op with
  | .move x => opMove σ x
  | .assign x => opMove σ x
  | .pick c x y => opPick σ c x y
  | .load t x => opLoad P σ t x
  | .store t x y => opStore P σ t x y
  | .alloc t => opAlloc P loc σ o.dst t
  | .box t x => opBox loc σ o.dst t x
  | .build t parts => opBuild P σ t parts
  | .buildSlice t n parts => opBuildSlice P σ t n parts
  | .fieldAddr s x f => opFieldAddr P σ s x f
  | .field s x f => opField P σ s x f
  | .indexAddr t x i => opIndexAddr P σ t x i
  | .extract x k => opExtract σ x k
  | .makeInterface t x => opMakeIface P σ t x
  | .makeFunc fn a b => opMakeFunc σ fn a b
  | .slice t x lo hi none => match P.underlying t with
    | some .string => stepPure P σ o
    | _ => opSlice P σ t x lo hi
  | .nilCheck x => opNilCheck σ x
  | .makeSlice t a b => opMakeSlice P σ t a b
  | .range t x => opRange P σ t x
  | .next x true => opNextS σ x
  | .call c => stepCall P σ o c
  | .binOp op t x y _ => (match opNilC P σ op t x y with
    | some r => some r
    | none => stepPure P σ o)
  | _ => stepPure P σ o
theorem pureStep_ok {σ σ' : St} {o : Oper} {v : Value} (h : stepPure P σ o = some (v, σ')) : StepOK P o σ v σ' := by
  unfold stepPure at h
  split at h
  · rename_i u hu
    simp only [Option.some.injEq, Prod.mk.injEq] at h
    obtain ⟨rfl, rfl⟩ := h
    exact pureOp_ok hu
  · simp at h
theorem stepOp_ok {loc : List Nat} {σ σ' : St} {o : Oper} {v : Value} (h : stepOp P loc σ o = some (v, σ')) : StepOK P o σ v σ' := by
  unfold stepOp at h
  split at h
  · exact opMove_ok (.inl ‹_›) h
  · exact opMove_ok (.inr ‹_›) h
  · exact opPick_ok ‹_› h
  · exact opLoad_ok ‹_› h
  · exact opStore_ok ‹_› h
  · exact opAlloc_ok ‹_› h
  · exact opBox_ok ‹_› h
  · exact opBuild_ok ‹_› h
  · exact opBuildSlice_ok ‹_› h
  · exact opFieldAddr_ok ‹_› h
  · exact opField_ok ‹_› h
  · exact opIndexAddr_ok ‹_› h
  · exact opExtract_ok ‹_› h
  · exact opMakeIface_ok ‹_› h
  · exact opMakeFunc_ok ‹_› h
  · rename_i ho
    split at h
    · exact pureStep_ok h
    · exact opSlice_ok ho h
  · exact opNilCheck_ok ‹_› h
  · exact opMakeSlice_ok ‹_› h
  · exact opRange_ok ‹_› h
  · exact opNextS_ok ‹_› h
  · rename_i c ho
    obtain ⟨callee, ⟨args⟩, ⟨tys⟩⟩ := c
    unfold stepCall at h
    simp only at h
    split at h
    · split at h
      · exact opLen_ok ho h
      · simp at h
    · split at h
      · exact opAppend_ok ho h
      · simp at h
    · exact pureStep_ok h
  · rename_i ho
    split at h
    · rename_i r hr; exact opNilC_ok ho (hr.trans h)
    · exact pureStep_ok h
  · exact pureStep_ok h

/-! ### calls -/
def Enter (P : Program) (f : FuncId) : Prop := ∃ fn, P.funcs[f]? = some fn ∧ fn.body.isNone = false ∧ (fn.name == "runtime.NumGoroutine") = false
def VRl (ρ : Rho) (l l' : List Value) : Prop := l.length = l'.length ∧ ∀ (i : Nat) (v : Value), l[i]? = some v → ∃ v', l'[i]? = some v' ∧ VR ρ v v'
def ACalls (P : Program) (f : FuncId) (args : List Value) (h : Heap) (post : Value → Heap → Prop) : Prop :=
  Enter P f ∧ ∀ (ρ : Rho) (w : World) (args' : List Value), (∀ s, ρ (true, s) = none) → MRel P ρ ⟨Boxes.nil, h⟩ w → VRl ρ args args' →
    Calls P f ⟨args'⟩ w fun e w' => ∃ v v' h' ρ', e = .returned v' ∧ post v h' ∧ (∀ s, ρ' (true, s) = none) ∧ MRel P ρ' ⟨Boxes.nil, h'⟩ w' ∧ Tr ρ h w ρ' h' w' ∧ VR ρ' v v'
theorem ACalls.mono {f : FuncId} {args : List Value} {h : Heap} {post post' : Value → Heap → Prop} (H : ACalls P f args h post) (hp : ∀ v h', post v h' → post' v h') : ACalls P f args h post' :=
  ⟨H.1, fun ρ w args' hb R V => (H.2 ρ w args' hb R V).mono fun _ _ ⟨v, v', h', ρ', q1, q2, q3⟩ => ⟨v, v', h', ρ', q1, hp _ _ q2, q3⟩⟩

/-- what every call keeps -/
def Nice (h : Heap) (v : Value) (h' : Heap) : Prop := h'.g = h.g ∧ noLoc v = true ∧ h.n ≤ h'.n
theorem VR.isNoLoc {v v' : Value} (h : VR ρ v v') : noLoc v = true := by cases h <;> simp [noLoc, locOf]
def callOf (σ : St) (o : Oper) : Option (FuncId × List Value) :=
  match o.op with
  | .call ⟨.value f, args, _⟩ => match opnd σ f, args.toList.mapM (opnd σ) with
    | some (.func (.func fid) first cap), some l => if l.all noLoc then some (fid, first.toList ++ l ++ cap.toList) else none
    | _, _ => none
  | _ => none

theorem VRl.append {l l' k k' : List Value} (h : VRl ρ l l') (g : VRl ρ k k') : VRl ρ (l ++ k) (l' ++ k') := by
  refine ⟨by simp [h.1, g.1], fun i v hi => ?_⟩
  have := vrs_append (ρ := ρ) [] h.1 g.1 h.2 g.2 i v hi
  simpa using this
theorem callOf_ok {σ : St} {o : Oper} {f : FuncId} {args : List Value} (h : callOf σ o = some (f, args)) (hE : Enter P f) (I : Inv P ρ0 h0 w0 ρ σ.m w) {a : Act} (F : FRel ρ σ.t a.tmps) :
    ∃ args' : List Value, VRl ρ args args' ∧ (execOp a.eval o).run P w = .ok (.enter f ⟨args'⟩) w := by
  unfold callOf at h
  split at h
  rotate_left
  · simp at h
  rename_i fo as ts ho
  split at h
  rotate_left
  · simp at h
  rename_i fid first cap l hf hl
  split at h
  rotate_left
  · simp at h
  rename_i hall
  simp only [Option.some.injEq, Prod.mk.injEq] at h
  obtain ⟨rfl, rfl⟩ := h
  obtain ⟨q1, q2⟩ := mapM_opnds I F hl hall
  have hv := (opnd_sound I F hf).noLoc rfl
  generalize hx' : a.eval fo = x' at hv
  cases hv with
  | func fn as1 as1' cs ds ha hl1 h1 h2 =>
    refine ⟨as1' ++ as.toList.map a.eval ++ ds, VRl.append (VRl.append ⟨ha, (vrs_zip ha).1 h1⟩ ⟨q1, q2⟩) ⟨hl1, (vrs_zip hl1).1 h2⟩, ?_⟩
    obtain ⟨fn, e1, e2, e3⟩ := hE
    have hargs : (as1'.toArray ++ as.map a.eval ++ ds.toArray) = ⟨as1' ++ as.toList.map a.eval ++ ds⟩ := by apply Array.ext'; simp
    simp only [execOp, ho, resolve, hx', Deferred.ofValue, pure_bind, invoke, callFunc, Sem.run_bind, run_program, Result.andThen_ok, e1, e3, e2, Bool.false_eq_true, if_false, Sem.run_pure]
    rw [← hargs]

/-! ### regions -/
def wantedA (ops : Array Oper) (T : Fr) (o : Oper) : Option Bool :=
  match o.guard with
  | none => some true
  | some (j, want) => match (ops[j]?).bind (·.dst) with
    | some d => match T.get d with
      | some (.bool b) => some (b == want)
      | some _ => some false
      | none => none
    | none => some false
def St.putD (σ : St) (d : Option Nat) (v : Value) : St := match d with
  | some i => ⟨σ.t.put i v, σ.m⟩
  | none => σ

def vcOps (P : Program) (loc : List Nat) (ops : Array Oper) (Q : St → Prop) : List Oper → St → Prop
  | [], σ => Q σ
  | o :: r, σ =>
    match wantedA ops σ.t o with
    | none => False
    | some false => vcOps P loc ops Q r (σ.putD o.dst undef)
    | some true =>
      match callOf σ o with
      | some (f, args) => ACalls P f args σ.m.h fun v h' => Nice σ.m.h v h' → vcOps P loc ops Q r (St.putD ⟨σ.t, ⟨σ.m.x, h'⟩⟩ o.dst v)
      | none => match stepOp P loc σ o with
        | some (v, σ') => vcOps P loc ops Q r (σ'.putD o.dst v)
        | none => False

/-- what an abstract state stands for, within a body that began at (ρ0, h0, w0), with n slots -/
def Con (P : Program) (ρ0 : Rho) (h0 : Heap) (w0 : World) (n : Nat) (σ : St) (a : Act) (w : World) : Prop :=
  ∃ ρ, Inv P ρ0 h0 w0 ρ σ.m w ∧ FRel ρ σ.t a.tmps ∧ a.tmps.size = n ∧ a.defers = []

theorem putD_ok {σ : St} {n : Nat} {d : Option Nat} (hd : ∀ i, d = some i → i < n) {a : Act} {v v' : Value} (I : Inv P ρ0 h0 w0 ρ σ.m w) (F : FRel ρ σ.t a.tmps) (hs : a.tmps.size = n) (hdf : a.defers = [])
    (hv : VT ρ v v') : Con P ρ0 h0 w0 n (σ.putD d v) (a.put d v') w := by
  cases d with
  | none => exact ⟨ρ, I, F, hs, hdf⟩
  | some i => exact ⟨ρ, I, F.put (by rw [hs]; exact hd i rfl) hv, by simp [Act.put, hs], hdf⟩

theorem VT.notBool {v v' : Value} (h : VT ρ v v') (hv : ∀ b, v ≠ .bool b) : ∀ b, v' ≠ .bool b := by
  intro b e
  subst e
  cases h with
  | val _ _ h => cases h with | bool b => exact hv b rfl
theorem wantedA_ok {ops : Array Oper} {σ : St} {a : Act} (F : FRel ρ σ.t a.tmps) {o : Oper} {b : Bool} (h : wantedA ops σ.t o = some b) : Region.wanted o (yielded ops a.tmps) = b := by
  unfold wantedA at h
  unfold Region.wanted
  split at h
  · rename_i hg; rw [hg]; simpa using h
  · rename_i j want hg
    rw [hg]
    simp only
    split at h
    · rename_i d hd
      split at h
      · rename_i b' hb'
        obtain ⟨v', q1, q2⟩ := F _ _ hb'
        obtain rfl := q2.flat2 rfl
        simp only [yielded, hd, Option.bind_some, q1]
        simpa using h
      · rename_i u hu hnb
        obtain ⟨v', q1, q2⟩ := F _ _ hnb
        have hnb' := q2.notBool (fun b e => hu b e)
        simp only [yielded, hd, Option.bind_some, q1]
        cases v' <;> first | (simpa using h) | (exact absurd rfl (hnb' _))
      · simp at h
    · rename_i hd
      simp only [yielded, hd, Option.bind_none]
      simpa using h

theorem wp_of_call {o : Oper} {f : FuncId} {args : List Value} {σ : St} {a : Act} {n : Nat} {Q : St → Prop} {K : Act → World → Prop} {Z : Exit → Act → World → Prop} (hc : callOf σ o = some (f, args))
    (H : ACalls P f args σ.m.h fun v h' => Nice σ.m.h v h' → Q (St.putD ⟨σ.t, ⟨σ.m.x, h'⟩⟩ o.dst v)) (hd : ∀ i, o.dst = some i → i < n)
    (I : Inv P ρ0 h0 w0 ρ σ.m w) (F : FRel ρ σ.t a.tmps) (hs : a.tmps.size = n) (hdf : a.defers = [])
    (hK : ∀ σ' a' w', Q σ' → Con P ρ0 h0 w0 n σ' a' w' → K a' w') : o.wp P a w K Z := by
  obtain ⟨args', hV, hrun⟩ := callOf_ok hc H.1 I F
  unfold Oper.wp
  rw [hrun]
  simp only [Oper.upon]
  have hcall := H.2 (heapOnly ρ) w args' (fun s => heapOnly_t ρ s) I.rel.heapOnly ⟨hV.1, fun i v hi => let ⟨v', q1, q2⟩ := hV.2 i v hi; ⟨v', q1, q2.heapOnly⟩⟩
  refine hcall.mono ?_
  rintro e w' ⟨v, v', h', ρ', rfl, hpost, hbox, hR, hT, hv⟩
  simp only
  obtain ⟨J, j1, j2⟩ := I.call hR hT
  refine hK _ _ _ (hpost ⟨hT.hg, hv.isNoLoc, hT.hn⟩) (putD_ok (σ := ⟨σ.t, ⟨σ.m.x, h'⟩⟩) hd J (F.mono j1 j2) hs hdf (.val _ _ (hv.mono fun b pl q => ?_)))
  simp only [Rho.join, Bool.false_eq_true, if_false]; exact q

theorem vcOps_sound {loc : List Nat} {ops : Array Oper} {n : Nat} {Q : St → Prop} {Z : Exit → Act → World → Prop} (hZ : ∀ σ' a' w', Q σ' → Con P ρ0 h0 w0 n σ' a' w' → Z .normal a' w') :
    ∀ (l : List Oper) (σ : St) (a : Act) (w : World), (∀ o ∈ l, ∀ i, o.dst = some i → i < n) → vcOps P loc ops Q l σ → Con P ρ0 h0 w0 n σ a w → wpList P ops Z l a w := by
  intro l
  induction l with
  | nil => intro σ a w _ h C; exact hZ _ _ _ h C
  | cons o r ih =>
    intro σ a w hd h C
    obtain ⟨ρ, I, F, hs, hdf⟩ := C
    have hdo := hd o (by simp)
    have hdr := fun o' ho' => hd o' (List.mem_cons_of_mem _ ho')
    unfold wpList
    simp only [vcOps] at h
    split at h
    · exact h.elim
    · rename_i hw
      rw [if_neg (by rw [wantedA_ok F hw]; simp)]
      exact ih _ _ _ hdr h (putD_ok hdo I F hs hdf (.of_flat2 rfl))
    · rename_i hw
      rw [if_pos (wantedA_ok F hw)]
      refine .inl ?_
      split at h
      · rename_i f args hc
        exact wp_of_call (Q := vcOps P loc ops Q r) hc h hdo I F hs hdf fun σ' a' w' h' C' => ih σ' a' w' hdr h' C'
      · split at h
        · rename_i v σ' hst
          obtain ⟨nx, v', w', ρ', q1, q2, q3, q4, q5, _⟩ := stepOp_ok hst ρ0 h0 w0 ρ a w I F
          unfold Oper.wp
          rw [q1]
          cases nx <;> simp only [outV, Option.some.injEq] at q2 <;> first
            | (subst q2; exact ih _ _ _ hdr h (putD_ok hdo q3 q4 hs hdf q5))
            | (exact absurd q2 (by simp))
        · exact h.elim
end
end Go.Am
