/- The abstract machine, part N: the condition of a body, and that it is enough. -/
import Derived.Test.YtmmbndbpjanfhaaDoorAmM
import Derived.Tactics
set_option linter.unusedVariables false
set_option linter.unusedSimpArgs false
set_option linter.unusedSectionVars false
namespace Go.Am
open Go

section
variable {P : Program} {ρ0 ρ ρ' : Rho} {h0 : Heap} {w0 w : World} {m : Mem}

inductive Ex
  | normal
  | exit (n : Nat)
  | ret
def St.cut (σ : St) (cfg : Cfg) (id : Nat) : St := ⟨σ.t.prune (cfg.keep id), ⟨σ.m.x.prune cfg.loc, σ.m.h⟩⟩
def vcIter (vb : (Ex → St → Prop) → St → Prop) (Q : Ex → St → Prop) : Nat → St → Prop
  | 0, _ => False
  | n + 1, σ => vb (fun e σ' => match e with
    | .normal => vcIter vb Q n σ'
    | e => Q e σ') σ
def thenQ (f : St → Prop) (Q : Ex → St → Prop) : Ex → St → Prop
  | .normal, σ => f σ
  | e, σ => Q e σ
def blockQ (i : Nat) (Q : Ex → St → Prop) : Ex → St → Prop
  | .exit j, σ => if j = i then Q .normal σ else Q (.exit j) σ
  | e, σ => Q e σ
/-- the orders in which a region may be told: all of them come to Q -/
def altH (P : Program) (loc : List Nat) (ops : Array Oper) (B : Nat → Nat → Bool) (Q : St → Prop) : List (List Nat) → St → Prop
  | [], _ => True
  | pm :: r, σ => vcH P loc ops B Q [] (remP ops pm) σ ∧ altH P loc ops B Q r σ
theorem altH_mem {loc : List Nat} {ops : Array Oper} {B : Nat → Nat → Bool} {Q : St → Prop} {σ : St} {pm : List Nat} : ∀ {l : List (List Nat)}, pm ∈ l → altH P loc ops B Q l σ → vcH P loc ops B Q [] (remP ops pm) σ := by
  intro l
  induction l with
  | nil => intro h; simp at h
  | cons x r ih =>
    intro h q
    rcases List.mem_cons.1 h with e | e
    · subst e; exact q.1
    · exact ih e q.2
def vc (P : Program) (cfg : Cfg) : Code → (Ex → St → Prop) → St → Prop
  | .skip, Q, σ => Q .normal σ
  | .region id ops false, Q, σ => vcOps P cfg.loc ops (fun σ => Q .normal (σ.cut cfg id)) ops.toList σ
  | .region id ops true, Q, σ => altH P cfg.loc ops (cfg.draw id).B (fun σ => Q .normal (σ.cut cfg id)) (cfg.draw id).perms (enterD (pendL P ops (cfg.draw id)) σ)
  | .seq a b, Q, σ => vc P cfg a (thenQ (vc P cfg b Q) Q) σ
  | .cond c a b, Q, σ => match opnd σ c with
    | some (.bool t) => if t = true then vc P cfg a Q σ else vc P cfg b Q σ
    | _ => False
  | .block i b, Q, σ => vc P cfg b (blockQ i Q) σ
  | .loop b, Q, σ => ∃ n, vcIter (vc P cfg b) Q n σ
  | .exit i, Q, σ => Q (.exit i) σ
  | .ret, Q, σ => Q .ret σ
  | _, _, _ => False

/-- what is asked of the code alone -/
def codeOK (P : Program) (cfg : Cfg) (n : Nat) : Code → Bool
  | .region id ops draw => ops.toList.all (fun o => match o.dst with | some i => decide (i < n) | none => true) && (!draw || drawOK P cfg.loc n ops (cfg.draw id))
  | .seq a b => codeOK P cfg n a && codeOK P cfg n b
  | .cond _ a b => codeOK P cfg n a && codeOK P cfg n b
  | .block _ b => codeOK P cfg n b
  | .loop b => codeOK P cfg n b
  | _ => true

theorem lookL_none {α : Type} (T : Nat → Option α) (i : Nat) : ∀ l : List Nat, lookL (l.map fun i => (i, T i)) i = T i ∨ lookL (l.map fun i => (i, T i)) i = none := by
  intro l
  induction l with
  | nil => exact .inr rfl
  | cons j r ih =>
    simp only [List.map_cons, lookL]
    split
    · rename_i h; subst h; exact .inl rfl
    · exact ih
theorem Con.cut {n : Nat} {σ : St} {a : Act} (C : Con P ρ0 h0 w0 n σ a w) (cfg : Cfg) (id : Nat) : Con P ρ0 h0 w0 n (σ.cut cfg id) a w := by
  obtain ⟨ρ, I, F, hs, hd⟩ := C
  exact ⟨ρ, I.forget (ρ1 := ρ) (x1 := σ.m.x.prune cfg.loc) (fun _ => rfl) fun s pl h => ⟨h, lookL_none σ.m.x.look s cfg.loc⟩, F.prune _, hs, hd⟩

def QC (P : Program) (ρ0 : Rho) (h0 : Heap) (w0 : World) (n : Nat) (Q : Ex → St → Prop) : Exit → Act → World → Prop
  | .normal, a, w => ∃ σ, Q .normal σ ∧ Con P ρ0 h0 w0 n σ a w
  | .exit i, a, w => ∃ σ, Q (.exit i) σ ∧ Con P ρ0 h0 w0 n σ a w
  | .ret, a, w => ∃ σ, Q .ret σ ∧ Con P ρ0 h0 w0 n σ a w
  | _, _, _ => False

theorem wp_loop_iter {c : Code} {Z : Exit → Act → World → Prop} (J : Nat → Act → World → Prop) (hJ : ∀ k a w, J (k + 1) a w → c.wp P (Exit.then (fun a' w' => J k a' w') Z) a w) (h0 : ∀ a w, ¬ J 0 a w) :
    ∀ (k : Nat) (a : Act) (w : World), J k a w → (Code.loop c).wp P Z a w := by
  intro k a w h b kk cs
  have key : ∀ (k : Nat) (a : Act) (w : World), J k a w → ∃ e a' w', Z e a' w' ∧ Arrives P (lone (b.at a (.code c :: .inLoop c :: kk)) cs w) b kk cs e a' w' := by
    intro k
    induction k with
    | zero => intro a w h; exact absurd h (h0 a w)
    | succ k ih =>
      intro a w h
      obtain ⟨e, a₁, w₁, hq, harr⟩ := hJ k a w h b (.inLoop c :: kk) cs
      cases e with
      | normal =>
        obtain ⟨e₂, a₂, w₂, hq₂, harr₂⟩ := ih a₁ w₁ hq
        exact ⟨e₂, a₂, w₂, hq₂, .of_steps (Steps.trans harr (.one step_inLoop)) harr₂⟩
      | exit id => exact ⟨_, a₁, w₁, hq, .pass (x := .inLoop c) rfl (fun _ _ => .inl (by simp)) harr⟩
      | goto l => exact ⟨_, a₁, w₁, hq, .pass (x := .inLoop c) rfl (fun _ _ => .inl (by simp)) harr⟩
      | ret => exact ⟨_, a₁, w₁, hq, .pass (x := .inLoop c) rfl (fun _ _ => .inl (by simp)) harr⟩
      | panic ch => exact ⟨_, a₁, w₁, hq, .pass (x := .inLoop c) rfl (fun _ _ => .inl (by simp)) harr⟩
      | outgrown => exact ⟨_, a₁, w₁, hq, .pass (x := .inLoop c) rfl (fun _ _ => .inl (by simp)) harr⟩
  obtain ⟨e, a', w', hq, harr⟩ := key k a w h
  exact ⟨e, a', w', hq, .of_steps (.one step_loop) harr⟩

theorem vc_sound {cfg : Cfg} {n : Nat} (hmix : P.follows .mixedOrders = true) : ∀ (c : Code) (Q : Ex → St → Prop) (σ : St) (a : Act) (w : World), codeOK P cfg n c = true → vc P cfg c Q σ → Con P ρ0 h0 w0 n σ a w →
    c.wp P (QC P ρ0 h0 w0 n Q) a w := by
  intro c
  induction c with
  | skip => intro Q σ a w _ h C; exact wp_skip ⟨σ, h, C⟩
  | region id ops draw =>
    intro Q σ a w hok h C
    simp only [codeOK, Bool.and_eq_true] at hok
    obtain ⟨h1, h2⟩ := hok
    have hdst : ∀ o ∈ ops.toList, ∀ i, o.dst = some i → i < n := fun o ho i hi => by
      have := List.all_eq_true.1 h1 o ho
      rw [hi] at this
      exact of_decide_eq_true this
    cases draw with
    | false =>
      refine wp_region_list (vcOps_sound (Q := fun σ => Q .normal (σ.cut cfg id)) (fun σ' a' w' hq hc => ⟨_, hq, hc.cut cfg id⟩) ops.toList σ a w hdst h C)
    | true =>
      simp only [Bool.not_true, Bool.false_or] at h2
      refine wp_region_draw fun t => ?_
      simp only [Region.schedule, hmix, Bool.true_or, if_true]
      obtain ⟨hpw, pm, hpm, L⟩ := drawOK_left h2 t
      refine draw_list (Q := fun σ => Q .normal (σ.cut cfg id)) (fun σ' a' w' hq hc => ⟨_, hq, hc.cut cfg id⟩) _ (pendL P ops (cfg.draw id)) (remP ops pm) [] _ a _ L (altH_mem hpm h) ?_
      have C' : Con P ρ0 h0 w0 n σ a w.drew := let ⟨ρ, I, F, z⟩ := C; ⟨ρ, I.drew, F, z⟩
      exact enterD_ok hpw C'
  | seq x y ihx ihy =>
    intro Q σ a w hok h C
    simp only [codeOK, Bool.and_eq_true] at hok
    refine wp_seq (Code.wp_mono (fun e a' w' hq => ?_) (ihx _ σ a w hok.1 h C))
    cases e with
    | normal => obtain ⟨σ', q1, q2⟩ := hq; exact ihy Q σ' a' w' hok.2 q1 q2
    | exit i => exact hq
    | ret => exact hq
    | goto l => exact hq
    | panic ch => exact hq
    | outgrown => exact hq
  | cond c x y ihx ihy =>
    intro Q σ a w hok h C
    simp only [codeOK, Bool.and_eq_true] at hok
    simp only [vc] at h
    split at h
    rotate_left
    · exact h.elim
    rename_i t ht
    obtain ⟨ρ, I, F, z⟩ := C
    have hc := (opnd_sound I F ht).flat2 rfl
    refine wp_cond hc ?_
    cases t with
    | true => simp only [if_true] at h ⊢; exact ihx Q σ a w hok.1 h ⟨ρ, I, F, z⟩
    | false => simp only [Bool.false_eq_true, if_false] at h ⊢; exact ihy Q σ a w hok.2 h ⟨ρ, I, F, z⟩
  | block i b ih =>
    intro Q σ a w hok h C
    refine wp_block (Code.wp_mono (fun e a' w' hq => ?_) (ih _ σ a w hok h C))
    cases e with
    | normal => exact hq
    | exit j =>
      obtain ⟨σ', q1, q2⟩ := hq
      simp only [blockQ] at q1
      simp only [Exit.inBlock]
      by_cases hj : j = i
      · rw [if_pos hj] at q1 ⊢; exact ⟨σ', q1, q2⟩
      · rw [if_neg hj] at q1 ⊢; exact ⟨σ', q1, q2⟩
    | ret => exact hq
    | goto l => exact hq
    | panic ch => exact hq
    | outgrown => exact hq
  | loop b ih =>
    intro Q σ a w hok h C
    obtain ⟨k, hk⟩ := h
    refine wp_loop_iter (J := fun k a w => ∃ σ, vcIter (vc P cfg b) Q k σ ∧ Con P ρ0 h0 w0 n σ a w) (fun k a w hJ => ?_) (fun a w hJ => ?_) k a w ⟨σ, hk, C⟩
    · obtain ⟨σ', q1, q2⟩ := hJ
      refine Code.wp_mono (fun e a' w' hq => ?_) (ih _ σ' a w hok q1 q2)
      cases e with
      | normal => exact hq
      | exit j => exact hq
      | ret => exact hq
      | goto l => exact hq
      | panic ch => exact hq
      | outgrown => exact hq
    · obtain ⟨σ', q1, _⟩ := hJ; exact q1
  | exit i => intro Q σ a w _ h C; exact wp_exit ⟨σ, h, C⟩
  | ret => intro Q σ a w _ h C; exact wp_ret ⟨σ, h, C⟩
  | rangeFunc f ps x y => intro Q σ a w _ h; exact h.elim
  | scope b => intro Q σ a w _ h; exact h.elim
  | label l => intro Q σ a w _ h; exact h.elim
  | goto l => intro Q σ a w _ h; exact h.elim
  | refuse s => intro Q σ a w _ h; exact h.elim

/-! ### a function -/
def res1 (P : Program) (σ : St) : ResultVar → Option Value
  | .tmp t => match σ.t.get t with
    | some v => if noLoc v then some v else none
    | none => none
  | .cell t ty => match σ.t.get t with
    | some (.pointer (some ad)) => match aggT P ty, szT P ty with
      | some true, some n => match σ.m.cells ad n with
        | some l => some (.agg ⟨l⟩)
        | none => none
      | some false, _ => match σ.m.cells ad 1 with
        | some [v] => some v
        | _ => none
      | _, _ => none
    | _ => none
def resL (P : Program) (σ : St) : List ResultVar → Option (List Value)
  | [] => some []
  | r :: l => match res1 P σ r, resL P σ l with
    | some v, some vs => some (v :: vs)
    | _, _ => none
def resV : List Value → Value
  | [v] => v
  | l => .tuple ⟨l⟩

def oneRes (tmps : Array Value) : ResultVar → Sem Value
  | .tmp t => pure (tmps.getD t undef)
  | .cell a t => do loadVar t (← asAddr (tmps.getD a undef))
theorem results_eq (fn : Func) (tmps : Array Value) : results fn tmps = (do
    let vs ← fn.results.mapM (oneRes tmps)
    pure (if h : vs.size = 1 then vs[0] else .tuple vs)) := by
  unfold results
  congr 1
theorem res1_ok {σ : St} {r : ResultVar} {v : Value} (h : res1 P σ r = some v) (I : Inv P ρ0 h0 w0 ρ σ.m w) {tmps : Array Value} (F : FRel ρ σ.t tmps) :
    ∃ v', (oneRes tmps r).run P w = .ok v' w ∧ VR ρ v v' := by
  cases r with
  | tmp t =>
    simp only [res1] at h
    split at h
    · rename_i u hu
      split at h
      · rename_i hnl
        obtain rfl := Option.some.inj h
        obtain ⟨v', q1, q2⟩ := F t _ hu
        exact ⟨v', by simp [oneRes, Array.getD_eq_getD_getElem?, q1], q2.noLoc hnl⟩
      · simp at h
    · simp at h
  | cell t ty =>
    simp only [res1] at h
    split at h
    · rename_i ad hx
      obtain ⟨v', q1, q2⟩ := F t _ hx
      obtain ⟨pl, hk, hv⟩ := q2.ptr
      have hg : tmps.getD t undef = .pointer (some ⟨pl.B, pl.o + ad.off, none⟩) := by simp [Array.getD_eq_getD_getElem?, q1, hv]
      split at h
      · rename_i n hagg hsz
        split at h
        · rename_i l hl
          obtain rfl := Option.some.inj h
          obtain ⟨p1, l', p2, p3, p4⟩ := cells_sound I hk hl
          have hrun := run_loadCells_list (P := P) w ⟨pl.B, pl.o + ad.off, none⟩ l' p4
          rw [p2] at hrun
          exact ⟨.agg ⟨l'⟩, by simp [hg, asAddr, loadVar, oneRes, run_isAgg hagg, run_sizeOf hsz, hrun], vrs_agg (p1.trans p2.symm) p3⟩
        · simp at h
      · rename_i hagg
        split at h
        · rename_i v1 hl
          obtain rfl := Option.some.inj h
          obtain ⟨p1, l', p2, p3, p4⟩ := cells_sound I hk hl
          obtain ⟨v2, e1, e2⟩ := p3 0 v1 rfl
          have hc := p4 0 v2 e1
          rw [Addr.add_zero'] at hc
          exact ⟨v2, by simp [hg, asAddr, loadVar, oneRes, run_isAgg hagg, hc], e2⟩
        · simp at h
      · simp at h
    · simp at h

theorem resL_ok {σ : St} (I : Inv P ρ0 h0 w0 ρ σ.m w) {tmps : Array Value} (F : FRel ρ σ.t tmps) : ∀ {l : List ResultVar} {vs : List Value}, resL P σ l = some vs →
    ∃ vs' : List Value, (l.mapM (oneRes tmps)).run P w = .ok vs' w ∧ VRl ρ vs vs' := by
  intro l
  induction l with
  | nil => intro vs h; simp only [resL, Option.some.injEq] at h; subst h; exact ⟨[], rfl, rfl, by simp⟩
  | cons r l ih =>
    intro vs h
    simp only [resL] at h
    split at h
    rotate_left
    · simp at h
    rename_i v us hv hus
    obtain rfl := Option.some.inj h
    obtain ⟨v', q1, q2⟩ := res1_ok hv I F
    obtain ⟨vs', p1, p2, p3⟩ := ih hus
    refine ⟨v' :: vs', ?_, by simp [p2], fun i u hi => ?_⟩
    · rw [List.mapM_cons]
      simp only [Sem.run_bind, q1, Result.andThen_ok, p1, Sem.run_pure]
    · cases i with
      | zero => simp at hi; subst hi; exact ⟨v', rfl, q2⟩
      | succ i => exact p3 i u (by simpa using hi)
theorem resV_ok {vs vs' : List Value} (h : VRl ρ vs vs') : VR ρ (resV vs) (resV vs') := by
  obtain ⟨hl, h2⟩ := h
  match vs, vs', hl with
  | [], [], _ => exact .tuple [] [] rfl (by simp)
  | [v], [v'], _ => obtain ⟨u, q1, q2⟩ := h2 0 v rfl; simp at q1; subst q1; exact q2
  | v :: v2 :: r, v' :: v2' :: r', hl => exact .tuple _ _ hl ((vrs_zip hl).2 h2)

def entryT (args : List Value) : Fr := Fr.ofList (args.zipIdx.map fun p => (p.2, some p.1))
def endQ (P : Program) (rs : List ResultVar) (post : Value → Heap → Prop) : Ex → St → Prop
  | .exit _, _ => False
  | _, σ => match resL P σ rs with
    | some vs => post (resV vs) σ.m.h
    | none => False

theorem lookL_zip (l : List Value) : ∀ (k i : Nat) (v : Value), lookL ((l.zipIdx k).map fun p => (p.2, some p.1)) i = some v → k ≤ i ∧ l[i - k]? = some v := by
  induction l with
  | nil => intro k i v h; simp [lookL] at h
  | cons x r ih =>
    intro k i v h
    rw [List.zipIdx_cons, List.map_cons] at h
    simp only [lookL] at h
    split at h
    · rename_i e; subst e; simp at h; subst h; simp
    · rename_i hne
      obtain ⟨q1, q2⟩ := ih (k + 1) i v h
      refine ⟨by omega, ?_⟩
      rw [show i - k = (i - (k + 1)) + 1 by omega, List.getElem?_cons_succ]
      exact q2

theorem acalls_of_vc {f : FuncId} {fn : Func} {c : Code} {cfg : Cfg} {args : List Value} {h : Heap} {post : Value → Heap → Prop} (hmix : P.follows .mixedOrders = true) (hf : P.funcs[f]? = some fn) (hb : fn.body = some c)
    (hname : (fn.name == "runtime.NumGoroutine") = false) (hn : args.length ≤ fn.ntmps) (hok : codeOK P cfg fn.ntmps c = true)
    (hvc : vc P cfg c (endQ P fn.results.toList post) ⟨entryT args, ⟨Boxes.nil, h⟩⟩) : ACalls P f args h post := by
  refine ⟨⟨fn, hf, by simp [hb], hname⟩, fun ρ w args' hbox R V => ?_⟩
  refine calls_of_wp hf hb ?_
  have I := Inv.start R hbox
  have hlen : args'.length ≤ fn.ntmps := by rw [← V.1]; exact hn
  have C : Con P ρ h w fn.ntmps ⟨entryT args, ⟨Boxes.nil, h⟩⟩ { tmps := (⟨args'⟩ : Array Value) ++ Array.replicate (fn.ntmps - (⟨args'⟩ : Array Value).size) undef, defers := [] } w := by
    refine ⟨ρ, I, fun i v hi => ?_, by simp; omega, rfl⟩
    obtain ⟨_, q⟩ := lookL_zip args 0 i v hi
    obtain ⟨v', q1, q2⟩ := V.2 i v (by simpa using q)
    refine ⟨v', ?_, .val _ _ q2⟩
    have hi' : i < args'.length := by rcases Nat.lt_or_ge i args'.length with z | z; exact z; rw [List.getElem?_eq_none z] at q1; cases q1
    rw [Array.getElem?_append_left (by simpa using hi')]
    simpa using q1
  refine Code.wp_mono (fun e a' w' hq => ?_) (vc_sound hmix c _ _ _ w hok hvc C)
  have fin : ∀ σ, (match resL P σ fn.results.toList with | some vs => post (resV vs) σ.m.h | none => False) → Con P ρ h w fn.ntmps σ a' w' → a'.defers = [] ∧ ∃ v, (results fn a'.tmps).run P w' = .ok v w' ∧
      ∃ v0 v' h' ρ', Ending.returned v = .returned v' ∧ post v0 h' ∧ (∀ s, ρ' (true, s) = none) ∧ MRel P ρ' ⟨Boxes.nil, h'⟩ w' ∧ Tr ρ h w ρ' h' w' ∧ VR ρ' v0 v' := by
    intro σ hp ⟨ρ1, I1, F1, hs, hd⟩
    refine ⟨hd, ?_⟩
    split at hp
    rotate_left
    · exact hp.elim
    rename_i vs hvs
    obtain ⟨vs', q1, q2⟩ := resL_ok I1 F1 hvs
    refine ⟨resV vs', ?_, resV vs, resV vs', σ.m.h, heapOnly ρ1, rfl, hp, fun s => heapOnly_t _ s, I1.rel.heapOnly, ?_, (resV_ok q2).heapOnly⟩
    · have hm : (fn.results.mapM (oneRes a'.tmps)).run P w' = .ok ⟨vs'⟩ w' := by
        rw [Array.mapM_eq_mapM_toList, Sem.run_map, q1]; rfl
      rw [results_eq, Sem.run_bind, hm]
      simp only [Result.andThen_ok, Sem.run_pure]
      congr 1
      match vs' with
      | [] => rfl
      | [v] => rfl
      | v :: v2 :: r => simp [resV]
    · have t := I1.tr
      exact ⟨t.os, t.tape, t.output, t.drawn, t.size, fun b pl q => by rw [heapOnly_f]; exact t.ext b pl q, t.hn, t.hg, fun b pl q q' => by rw [heapOnly_f] at q; exact t.new b pl q q', t.dead, t.wrd, t.frame⟩
  cases e with
  | normal => obtain ⟨σ, q1, q2⟩ := hq; exact fin σ q1 q2
  | ret => obtain ⟨σ, q1, q2⟩ := hq; exact fin σ q1 q2
  | exit i => obtain ⟨σ, q1, q2⟩ := hq; exact q1
  | goto l => exact hq
  | panic ch => exact hq.elim
  | outgrown => exact hq.elim
end
end Go.Am
