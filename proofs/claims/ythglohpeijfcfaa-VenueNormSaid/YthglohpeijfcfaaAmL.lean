/- The abstract machine, part L: a drawn region, sound. -/
import Derived.Test.YthglohpeijfcfaaAmK
set_option linter.unusedVariables false
set_option linter.unusedSimpArgs false
set_option linter.unusedSectionVars false
namespace Go.Am
open Go

section
variable {P : Program} {ρ0 ρ ρ' : Rho} {h0 : Heap} {w0 w : World} {m : Mem}

/-- what holds of an operation that stands ahead of another one in the list -/
def aheadOK (ops : Array Oper) (B : Nat → Nat → Bool) (p q : Nat × Oper) : Prop :=
  p.1 ≠ q.1 ∧ (B q.1 p.1 = false → clsN p.2.op = true ∧ (∀ d, p.2.dst = some d → d ∉ q.2.looksAt ops) ∧ (∀ d, p.2.dst = some d → q.2.dst ≠ some d) ∧ (∀ d, q.2.dst = some d → d ∉ p.2.looksAt ops))

theorem vcH_N {loc : List Nat} {ops : Array Oper} {B : Nat → Nat → Bool} {Q : St → Prop} {hl : HL} {i : Nat} {o : Oper} {r : List (Nat × Oper)} {σ : St} (hn : clsN o.op = true) :
    vcH P loc ops B Q hl ((i, o) :: r) σ ↔ ∃ v hl', effN P loc ops hl i o σ = some (v, hl') ∧ vcH P loc ops B Q hl' r (σ.putD o.dst v) := by
  rw [vcH, if_pos hn]
  constructor
  · intro h
    split at h
    · rename_i v k hk; exact ⟨v, k, hk, h⟩
    · exact h.elim
  · rintro ⟨v, k, h1, h2⟩
    rw [h1]; exact h2
theorem vcH_front {loc : List Nat} {ops : Array Oper} {B : Nat → Nat → Bool} {Q : St → Prop} {q : Nat × Oper} {post : List (Nat × Oper)} (hnl : notLoc loc q.2 = true) : ∀ (pre : List (Nat × Oper)) (hl : HL) (σ : St),
    (∀ p ∈ pre, aheadOK ops B p q ∧ B q.1 p.1 = false) → vcH P loc ops B Q hl (pre ++ q :: post) σ → vcH P loc ops B Q hl (q :: (pre ++ post)) σ := by
  intro pre
  induction pre with
  | nil => intro hl σ _ h; exact h
  | cons p r ih =>
    intro hl σ hp h
    obtain ⟨j, oj⟩ := p
    obtain ⟨i, oi⟩ := q
    obtain ⟨⟨_, h2⟩, hB⟩ := hp (j, oj) (by simp)
    obtain ⟨hj, a1, a2, a3⟩ := h2 hB
    refine vcH_swap hj hB a1 a2 a3 hnl ?_
    simp only [List.cons_append] at h
    rw [vcH_N hj] at h ⊢
    obtain ⟨v, k, h1, h2⟩ := h
    exact ⟨v, k, h1, ih _ _ (fun p hp' => hp p (List.mem_cons_of_mem _ hp')) h2⟩

/-- a call, with all that is known behind it -/
theorem wp_call_core {o : Oper} {f : FuncId} {args : List Value} {σ : St} {a : Act} {post : Value → Heap → Prop} {K : Act → World → Prop} {Z : Exit → Act → World → Prop} (hc : callOf σ o = some (f, args))
    (H : ACalls P f args σ.m.h post) (I : Inv P ρ0 h0 w0 ρ σ.m w) (F : FRel ρ σ.t a.tmps)
    (hK : ∀ v h' ρ' v' w', post v h' → Nice σ.m.h v h' → Inv P ρ0 h0 w0 ρ' ⟨σ.m.x, h'⟩ w' → (∀ b pl, ρ (false, b) = some pl → ρ' (false, b) = some pl) → (∀ s, ρ' (true, s) = ρ (true, s)) → VR ρ' v v' → K (a.put o.dst v') w') : o.wp P a w K Z := by
  obtain ⟨args', hV, hrun⟩ := callOf_ok hc H.1 I F
  unfold Oper.wp
  rw [hrun]
  simp only [Oper.upon]
  have hcall := H.2 (heapOnly ρ) w args' (fun s => heapOnly_t ρ s) I.rel.heapOnly ⟨hV.1, fun i v hi => let ⟨v', q1, q2⟩ := hV.2 i v hi; ⟨v', q1, q2.heapOnly⟩⟩
  refine hcall.mono ?_
  rintro e w' ⟨v, v', h', ρ', rfl, hpost, hbox, hR, hT, hv⟩
  simp only
  obtain ⟨J, j1, j2⟩ := I.call hR hT
  exact hK v h' _ v' w' hpost ⟨hT.hg, hv.isNoLoc, hT.hn⟩ J j1 j2 (hv.mono fun b pl q => by simp only [Rho.join, Bool.false_eq_true, if_false]; exact q)

/-- boxes that are to be made yet: the operation's number, the slot, the type, the zero value's cells -/
structure Pend where
  i : Nat
  s : Nat
  e : TypeId
  z : List Value
def hideP (pd : List Pend) (T : Fr) : Fr := fun j => if pd.any (fun p => p.s == j) then none else T j
theorem hideP_in {pd : List Pend} {T : Fr} {j : Nat} (h : ∃ p ∈ pd, p.s = j) : hideP pd T j = none := by
  unfold hideP
  rw [if_pos]
  obtain ⟨p, q1, q2⟩ := h
  exact List.any_eq_true.2 ⟨p, q1, by simp [q2]⟩
theorem hideP_out {pd : List Pend} {T : Fr} {j : Nat} (h : ∀ p ∈ pd, p.s ≠ j) : hideP pd T j = T j := by
  unfold hideP
  rw [if_neg]
  intro q
  obtain ⟨p, q1, q2⟩ := List.any_eq_true.1 q
  exact h p q1 (by simpa using q2)

structure PendOK (P : Program) (loc : List Nat) (ops : Array Oper) (p : Pend) : Prop where
  op : ∃ o, ops[p.i]? = some o ∧ o.op = .alloc p.e ∧ o.dst = some p.s ∧ o.guard = none
  zero : zeroT P p.e = some p.z

def ConD (P : Program) (ρ0 : Rho) (h0 : Heap) (w0 : World) (n : Nat) (pd : List Pend) (σ : St) (a : Act) (w : World) : Prop :=
  ∃ ρ, Inv P ρ0 h0 w0 ρ σ.m w ∧ FRel ρ (hideP pd σ.t) a.tmps ∧ a.tmps.size = n ∧ a.defers = [] ∧
    ∀ p ∈ pd, ρ (true, p.s) = none ∧ σ.m.x p.s = some (p.e, p.z) ∧ σ.t p.s = some (.pointer (some ⟨p.s, 0, some 0⟩))

theorem hideP_put {pd : List Pend} {T : Fr} {m : Mem} {d : Option Nat} (h : ∀ i, d = some i → ∀ p ∈ pd, p.s ≠ i) (v : Value) : hideP pd (St.putD ⟨T, m⟩ d v).t = (St.putD ⟨hideP pd T, m⟩ d v).t := by
  cases d with
  | none => rfl
  | some i =>
    funext j
    simp only [St.putD]
    by_cases hj : ∃ p ∈ pd, p.s = j
    · have hne : ¬ i = j := fun q => by obtain ⟨p, q1, q2⟩ := hj; exact h i rfl p q1 (q2.trans q.symm)
      rw [hideP_in hj]
      simp only [Fr.put, hne, if_false]
      rw [hideP_in hj]
    · have hj' : ∀ p ∈ pd, p.s ≠ j := fun p hp q => hj ⟨p, hp, q⟩
      rw [hideP_out hj']
      simp only [Fr.put]
      split
      · rfl
      · rw [hideP_out hj']

/-- one more operation of the list, behind which the boxes that are pending are pending still -/
theorem conD_put {n : Nat} {pd : List Pend} {T : Fr} {M : Mem} {a : Act} {d : Option Nat} {v v' : Value} (I : Inv P ρ0 h0 w0 ρ M w) (F : FRel ρ (hideP pd T) a.tmps) (hs : a.tmps.size = n) (hdf : a.defers = [])
    (hd : ∀ i, d = some i → i < n) (hdp : ∀ i, d = some i → ∀ p ∈ pd, p.s ≠ i) (hv : VT ρ v v')
    (hp : ∀ p ∈ pd, ρ (true, p.s) = none ∧ M.x p.s = some (p.e, p.z) ∧ T p.s = some (.pointer (some ⟨p.s, 0, some 0⟩))) :
    ConD P ρ0 h0 w0 n pd (St.putD ⟨T, M⟩ d v) (a.put d v') w := by
  refine ⟨ρ, by rw [putD_m]; exact I, ?_, by cases d <;> simp [Act.put, hs], by cases d <;> exact hdf, fun p hpp => ?_⟩
  · rw [hideP_put hdp]
    cases d with
    | none => exact F
    | some i => exact F.put (by rw [hs]; exact hd i rfl) hv
  · obtain ⟨q1, q2, q3⟩ := hp p hpp
    refine ⟨q1, by rw [putD_m]; exact q2, ?_⟩
    cases d with
    | none => exact q3
    | some i =>
      have : ¬ i = p.s := fun e => hdp i rfl p hpp e.symm
      simp only [St.putD, Fr.put, this, if_false]
      exact q3

/-- the list's operations, and the boxes, are those that are not listed yet -/
structure Left (P : Program) (loc : List Nat) (ops : Array Oper) (B : Nat → Nat → Bool) (n : Nat) (listed : Array Bool) (pd : List Pend) (rem : List (Nat × Oper)) : Prop where
  size : listed.size = ops.size
  left : ∀ i, i < ops.size → (listed.getD i true = false ↔ (∃ p ∈ pd, p.i = i) ∨ ∃ q ∈ rem, q.1 = i)
  closed : ∀ i j, listed.getD i true = true → B i j = true → j < ops.size → i < ops.size → listed.getD j true = true
  edge : ∀ i j, B i j = true → i < ops.size → j < ops.size ∧ ∃ o, ops[i]? = some o ∧ ∃ e ∈ o.after, Region.binds .any e = true ∧ e.on < ops.size ∧ (e.on = j ∨ B e.on j = true)
  back : ∀ i o, ops[i]? = some o → ∀ e ∈ o.after, Region.binds .any e = true → e.on < i
  pair : rem.Pairwise (aheadOK ops B)
  remOK : ∀ q ∈ rem, ops[q.1]? = some q.2 ∧ notLoc loc q.2 = true ∧ (∀ i, q.2.dst = some i → i < n) ∧
    ∀ p ∈ pd, B q.1 p.i = false → p.s ∉ q.2.looksAt ops ∧ q.2.dst ≠ some p.s
  pend : ∀ p ∈ pd, PendOK P loc ops p ∧ p.s < n
  pendpair : pd.Pairwise fun p q => p.i ≠ q.i ∧ p.s ≠ q.s
  apartI : ∀ p ∈ pd, ∀ q ∈ rem, p.i ≠ q.1

theorem ready_spec {ops : Array Oper} {listed : Array Bool} {i : Nat} : i ∈ Region.ready .any ops listed ↔
    i < ops.size ∧ listed.getD i true = false ∧ ∃ o, ops[i]? = some o ∧ ∀ e ∈ o.after, Region.binds .any e = true → listed.getD e.on false = true := by
  unfold Region.ready
  rw [List.mem_filter, List.mem_range]
  constructor
  · rintro ⟨h1, h2⟩
    rw [Bool.and_eq_true] at h2
    obtain ⟨h2, h3⟩ := h2
    refine ⟨h1, by simpa using h2, ops[i], by simp [h1], ?_⟩
    simp only [Array.getElem?_eq_getElem h1, Option.map_some, Option.getD_some] at h3
    rw [Array.all_eq_true_iff_forall_mem] at h3
    intro e he hb
    have := h3 e he
    rw [hb] at this
    simpa using this
  · rintro ⟨h1, h2, o, h3, h4⟩
    refine ⟨h1, ?_⟩
    rw [Bool.and_eq_true]
    refine ⟨by rw [h2]; rfl, ?_⟩
    rw [h3]
    simp only [Option.map_some, Option.getD_some]
    rw [Array.all_eq_true_iff_forall_mem]
    intro e he
    cases hb : Region.binds .any e with
    | false => rfl
    | true => rw [h4 e he hb]; rfl

theorem pendName {loc : List Nat} {ops : Array Oper} {B : Nat → Nat → Bool} {n : Nat} {listed : Array Bool} {pd : List Pend} {rem : List (Nat × Oper)} (L : Left P loc ops B n listed pd rem) {i : Nat} (hi : i < ops.size)
    {o : Oper} (ho : ops[i]? = some o) (hr : ∀ e ∈ o.after, Region.binds .any e = true → listed.getD e.on false = true) :
    ∀ j, B i j = true → listed.getD j true = true := by
  intro j hB
  obtain ⟨hj, o', ho', e, he, hb, hon, hor⟩ := L.edge i j hB hi
  rw [ho] at ho'
  obtain rfl := Option.some.inj ho'
  have h1 := hr e he hb
  have hlt : e.on < listed.size := by rw [L.size]; exact hon
  have h1' : listed.getD e.on true = true := by
    simp only [Array.getD_eq_getD_getElem?, Array.getElem?_eq_getElem hlt, Option.getD_some] at h1 ⊢
    exact h1
  rcases hor with q | q
  · rw [← q]; exact h1'
  · exact L.closed e.on j h1' q hj hon

theorem getD_set (l : Array Bool) (i j : Nat) (h : i < l.size) : (l.setIfInBounds i true).getD j true = if i = j then true else l.getD j true := by
  simp only [Array.getD_eq_getD_getElem?]
  by_cases hij : i = j
  · subst hij; rw [Array.getElem?_setIfInBounds_self_of_lt h]; simp
  · rw [Array.getElem?_setIfInBounds_ne hij, if_neg hij]

/-- what is left when one of them has been done -/
theorem Left.next {loc : List Nat} {ops : Array Oper} {B : Nat → Nat → Bool} {n : Nat} {listed : Array Bool} {pd pd' : List Pend} {rem rem' : List (Nat × Oper)} (L : Left P loc ops B n listed pd rem) {i : Nat} (hi : i < ops.size)
    (hB : ∀ j, B i j = true → listed.getD j true = true) (hpd : pd'.Sublist pd) (hrem : rem'.Sublist rem)
    (hl : ∀ j, j ≠ i → ((∃ p ∈ pd, p.i = j) ∨ ∃ q ∈ rem, q.1 = j) → ((∃ p ∈ pd', p.i = j) ∨ ∃ q ∈ rem', q.1 = j)) (hi2 : ¬ ((∃ p ∈ pd', p.i = i) ∨ ∃ q ∈ rem', q.1 = i)) :
    Left P loc ops B n (listed.setIfInBounds i true) pd' rem' := by
  have hil : i < listed.size := by rw [L.size]; exact hi
  refine ⟨by simpa using L.size, fun j hj => ?_, fun k j hk hkj hj hk' => ?_, L.edge, L.back, L.pair.sublist hrem, fun q hq => ?_, fun p hp => L.pend p (hpd.subset hp), L.pendpair.sublist hpd, fun p hp q hq => L.apartI p (hpd.subset hp) q (hrem.subset hq)⟩
  · rw [getD_set _ _ _ hil]
    by_cases hij : i = j
    · subst hij; simp only [if_true]; exact ⟨fun h => (by cases h), fun h => absurd h hi2⟩
    · rw [if_neg hij, L.left j hj]
      constructor
      · exact hl j (Ne.symm hij)
      · rintro (⟨p, q1, q2⟩ | ⟨q, q1, q2⟩)
        · exact .inl ⟨p, hpd.subset q1, q2⟩
        · exact .inr ⟨q, hrem.subset q1, q2⟩
  · rw [getD_set _ _ _ hil] at hk ⊢
    by_cases hij : i = j
    · rw [if_pos hij]
    · rw [if_neg hij]
      by_cases hik : i = k
      · subst hik; exact hB j hkj
      · rw [if_neg hik] at hk; exact L.closed k j hk hkj hj hk'
  · obtain ⟨q1, q2, q3, q4⟩ := L.remOK q (hrem.subset hq)
    exact ⟨q1, q2, q3, fun p hp => q4 p (hpd.subset hp)⟩

theorem draw_any {loc : List Nat} {ops : Array Oper} {B : Nat → Nat → Bool} {Q : St → Prop} {Z : Exit → Act → World → Prop} {n : Nat} (hZ : ∀ σ' a' w', Q σ' → Con P ρ0 h0 w0 n σ' a' w' → Z .normal a' w') :
    ∀ (fuel : Nat) (listed : Array Bool) (pd : List Pend) (rem : List (Nat × Oper)) (hl : HL) (σ : St) (a : Act) (w : World), fuel = pd.length + rem.length → Left P loc ops B n listed pd rem →
      vcH P loc ops B Q hl rem σ → ConD P ρ0 h0 w0 n pd σ a w → wpAny P .any ops Z fuel listed a w := by
  intro fuel
  induction fuel with
  | zero =>
    intro listed pd rem hl σ a w hf L h C
    have hpd : pd = [] := List.eq_nil_of_length_eq_zero (by omega)
    have hrem : rem = [] := List.eq_nil_of_length_eq_zero (by omega)
    subst hpd; subst hrem
    refine ⟨?_, ?_⟩
    · rw [List.eq_nil_iff_forall_not_mem]
      intro i hi
      obtain ⟨q1, q2, _⟩ := ready_spec.1 hi
      have := (L.left i q1).1 q2
      simp at this
    · obtain ⟨ρ, I, F, hs, hd, _⟩ := C
      exact hZ σ a w h ⟨ρ, I, F, hs, hd⟩
  | succ fuel ih =>
    intro listed pd rem hl σ a w hf L h C
    refine ⟨fun hnil => ?_, fun i hi => ?_⟩
    · -- the first one that is not listed is ready
      exfalso
      have hex : ∃ i, i < ops.size ∧ listed.getD i true = false := by
        cases pd with
        | cons p r =>
          obtain ⟨⟨o, q1, _⟩, _⟩ := (L.pend p (by simp)).1
          have hlt : p.i < ops.size := by rcases Nat.lt_or_ge p.i ops.size with z | z; exact z; rw [Array.getElem?_eq_none z] at q1; cases q1
          exact ⟨p.i, hlt, (L.left _ hlt).2 (.inl ⟨p, by simp, rfl⟩)⟩
        | nil =>
          cases rem with
          | nil => simp at hf
          | cons q r =>
            have q1 := (L.remOK q (by simp)).1
            have hlt : q.1 < ops.size := by rcases Nat.lt_or_ge q.1 ops.size with z | z; exact z; rw [Array.getElem?_eq_none z] at q1; cases q1
            exact ⟨q.1, hlt, (L.left _ hlt).2 (.inr ⟨q, by simp, rfl⟩)⟩
      have hmin : ∀ k i, i ≤ k → i < ops.size → listed.getD i true = false → ∃ i, i ∈ Region.ready .any ops listed := by
        intro k
        induction k with
        | zero =>
          intro i hik hi hl
          have : i = 0 := by omega
          subst this
          refine ⟨0, ready_spec.2 ⟨hi, hl, ops[0], by simp [hi], fun e he hb => ?_⟩⟩
          exact absurd (L.back 0 _ (Array.getElem?_eq_getElem hi) e he hb) (Nat.not_lt_zero _)
        | succ k ihk =>
          intro i hik hi hl
          by_cases hall : ∀ e ∈ ops[i].after, Region.binds .any e = true → listed.getD e.on false = true
          · exact ⟨i, ready_spec.2 ⟨hi, hl, ops[i], by simp [hi], hall⟩⟩
          · have : ∃ e, e ∈ ops[i].after ∧ Region.binds .any e = true ∧ listed.getD e.on false ≠ true := by
              apply Classical.byContradiction
              intro hno
              exact hall fun e he hb => Classical.byContradiction fun hne => hno ⟨e, he, hb, hne⟩
            obtain ⟨e, he, hb, hne⟩ := this
            have hlt := L.back i _ (Array.getElem?_eq_getElem hi) e he hb
            have hes : e.on < listed.size := by rw [L.size]; omega
            refine ihk e.on (by omega) (by omega) ?_
            simp only [Array.getD_eq_getD_getElem?, Array.getElem?_eq_getElem hes, Option.getD_some] at hne ⊢
            simpa using hne
      obtain ⟨i, h1, h2⟩ := hex
      obtain ⟨j, hj⟩ := hmin i i (Nat.le_refl _) h1 h2
      rw [hnil] at hj
      simp at hj
    · obtain ⟨hi1, hi2, oi, hoi, hi3⟩ := ready_spec.1 hi
      have hBi := pendName L hi1 hoi hi3
      have hnl : ∀ k, ((∃ p ∈ pd, p.i = k) ∨ ∃ q ∈ rem, q.1 = k) → k < ops.size → B i k = false := fun k hk hks => by
        cases hb : B i k with
        | false => rfl
        | true =>
          have h1 := hBi k hb
          have h2 := (L.left k hks).2 hk
          rw [h1] at h2; cases h2
      obtain ⟨ρ, I, F, hs, hdf, hp⟩ := C
      rcases (L.left i hi1).1 hi2 with ⟨p, hpm, hpi⟩ | ⟨q, hqm, hqi⟩
      · -- a box is made
        subst hpi
        obtain ⟨⟨⟨o, c1, c2, c3, c4⟩, hzero⟩, hsn⟩ := L.pend p hpm
        rw [hoi] at c1
        obtain rfl := Option.some.inj c1
        obtain ⟨zv, hzc, hzf, hzr⟩ := run_zeroValue hzero
        obtain ⟨l1, l2, hsplit⟩ := List.append_of_mem hpm
        have hdis : ∀ p' ∈ l1 ++ l2, p'.i ≠ p.i ∧ p'.s ≠ p.s := by
          intro p' hp'
          have hpw := L.pendpair
          rw [hsplit, List.pairwise_append] at hpw
          rcases List.mem_append.1 hp' with q | q
          · exact hpw.2.2 p' q p (by simp)
          · have := (List.pairwise_cons.1 hpw.2.1).1 p' q
            exact ⟨fun e => this.1 e.symm, fun e => this.2 e.symm⟩
        have hsub : (l1 ++ l2).Sublist pd := by rw [hsplit]; exact List.Sublist.append (List.Sublist.refl _) (List.sublist_cons_self _ _)
        obtain ⟨hpn, hpx, hpt⟩ := hp p hpm
        have hfit : Fits P ρ (.row true p.e p.z) (.cells ⟨p.z⟩ p.e (0, 0)) ⟨w.heap.size, 0, (⟨p.z⟩ : Array Value).size, P.cellsOf p.e⟩ := .row p.e p.e p.z ⟨p.z⟩ _ (by simp) (flat_self hzf)
        have J := I.newB p.s hfit rfl
        have hsame : (⟨σ.m.x.set p.s (p.e, p.z), σ.m.h⟩ : Mem) = σ.m := by
          obtain ⟨T, x, hh⟩ := σ
          simp only at hpx ⊢
          congr 1
          funext j
          simp only [Boxes.set]
          split
          · rename_i e; subst e; exact hpx.symm
          · rfl
        rw [hsame] at J
        simp only [wpOp, hoi]
        rw [if_pos (by simp [Region.wanted, c4])]
        refine .inl ?_
        unfold Oper.wp
        have hrun : (execOp a.eval oi).run P w = .ok (.value (.pointer (some ⟨w.heap.size, 0, none⟩))) (w.alloc (.cells ⟨p.z⟩ p.e)) := by
          simp [execOp, c2, Instr.alloc, hzr, newVar, newRow, hzc]
        rw [hrun]
        simp only [Oper.upon, c3]
        refine ih _ (l1 ++ l2) rem hl σ _ _ (by rw [hsplit] at hf; simp at hf ⊢; omega)
          (L.next hi1 hBi hsub (List.Sublist.refl _) (fun j hj hjl => ?_) (fun hj => ?_)) h ?_
        · rcases hjl with ⟨p', q1, q2⟩ | q
          · rw [hsplit] at q1
            simp only [List.mem_append, List.mem_cons] at q1
            rcases q1 with z | z | z
            · exact .inl ⟨p', by simp [z], q2⟩
            · subst z; exact absurd q2.symm hj
            · exact .inl ⟨p', by simp [z], q2⟩
          · exact .inr q
        · rcases hj with ⟨p', q1, q2⟩ | ⟨q, q1, q2⟩
          · exact (hdis p' q1).1 q2
          · exact L.apartI p hpm q q1 q2.symm
        · refine ⟨_, J, ?_, by simp [Act.put, hs], hdf, fun p' hp' => ?_⟩
          · intro j u hj
            simp only [Fr.get] at hj
            by_cases hjs : j = p.s
            · subst hjs
              rw [hideP_out (fun p' hp' => (hdis p' hp').2)] at hj
              rw [hpt] at hj
              obtain rfl := Option.some.inj hj
              refine ⟨.pointer (some ⟨w.heap.size, 0, none⟩), by simp only [Act.put]; rw [Array.getElem?_setIfInBounds_self_of_lt (by rw [hs]; exact hsn)], ?_⟩
              have := VT.ofPtr (ρ := ρ.upd (true, p.s) ⟨w.heap.size, 0, (⟨p.z⟩ : Array Value).size, P.cellsOf p.e⟩) (ad := ⟨p.s, 0, some 0⟩) (pl := ⟨w.heap.size, 0, (⟨p.z⟩ : Array Value).size, P.cellsOf p.e⟩) (by simp [key, Rho.upd])
              simpa using this
            · have hj' : hideP pd σ.t j = some u := by
                rw [← hj]
                by_cases hex : ∃ p' ∈ l1 ++ l2, p'.s = j
                · rw [hideP_in hex, hideP_in]
                  obtain ⟨p', q1, q2⟩ := hex
                  exact ⟨p', hsub.subset q1, q2⟩
                · have hno : ∀ p' ∈ l1 ++ l2, p'.s ≠ j := fun p' hp' e => hex ⟨p', hp', e⟩
                  rw [hideP_out hno, hideP_out]
                  intro p' hp'
                  rw [hsplit] at hp'
                  simp only [List.mem_append, List.mem_cons] at hp'
                  rcases hp' with z | z | z
                  · exact hno p' (by simp [z])
                  · subst z; exact fun e => hjs e.symm
                  · exact hno p' (by simp [z])
              obtain ⟨u', q1, q2⟩ := F j u hj'
              refine ⟨u', by simp only [Act.put]; rw [Array.getElem?_setIfInBounds_ne (Ne.symm hjs)]; exact q1, ?_⟩
              cases q2 with
              | val _ _ q2 => exact .val _ _ (q2.mono fun b pl z => by rw [Rho.upd_ne _ _ (by simp)]; exact z)
              | loc s2 off x pl z =>
                have : s2 ≠ p.s := fun e => by subst e; rw [hpn] at z; cases z
                exact .loc s2 off x pl (by rw [Rho.upd_ne _ _ (by simpa using this)]; exact z)
          · obtain ⟨q1, q2, q3⟩ := hp p' (hsub.subset hp')
            exact ⟨by rw [Rho.upd_ne _ _ (by simpa using (hdis p' hp').2)]; exact q1, q2, q3⟩
      · -- one of the list
        obtain ⟨qi, oq⟩ := q
        simp only at hqi; subst hqi
        obtain ⟨r1, r2, r3, r4⟩ := L.remOK (qi, oq) hqm
        simp only at r1 r2 r3 r4
        rw [hoi] at r1
        obtain rfl := Option.some.inj r1
        obtain ⟨pre, post, hsplit⟩ := List.append_of_mem hqm
        have hpair := L.pair
        rw [hsplit, List.pairwise_append] at hpair
        have hpre : ∀ p ∈ pre, aheadOK ops B p (qi, oi) ∧ B qi p.1 = false := fun p hp' => by
          refine ⟨hpair.2.2 p hp' (qi, oi) (by simp), hnl p.1 (.inr ⟨p, by rw [hsplit]; simp [hp'], rfl⟩) ?_⟩
          have q1 := (L.remOK p (by rw [hsplit]; simp [hp'])).1
          rcases Nat.lt_or_ge p.1 ops.size with z | z; exact z; rw [Array.getElem?_eq_none z] at q1; cases q1
        rw [hsplit] at h
        replace h := vcH_front r2 pre hl σ hpre h
        have hsub : (pre ++ post).Sublist rem := by rw [hsplit]; exact List.Sublist.append (List.Sublist.refl _) (List.sublist_cons_self _ _)
        have hne : ∀ q' ∈ pre ++ post, q'.1 ≠ qi := by
          intro q' hq'
          rcases List.mem_append.1 hq' with z | z
          · exact (hpair.2.2 q' z (qi, oi) (by simp)).1
          · exact fun e => ((List.pairwise_cons.1 hpair.2.1).1 q' z).1 e.symm
        have L' : Left P loc ops B n (listed.setIfInBounds qi true) pd (pre ++ post) := L.next hi1 hBi (List.Sublist.refl _) hsub
          (fun j hj hjl => by
            rcases hjl with q | ⟨q', q1, q2⟩
            · exact .inl q
            · rw [hsplit] at q1
              simp only [List.mem_append, List.mem_cons] at q1
              rcases q1 with z | z | z
              · exact .inr ⟨q', by simp [z], q2⟩
              · subst z; exact absurd q2.symm hj
              · exact .inr ⟨q', by simp [z], q2⟩)
          (fun hj => by
            rcases hj with ⟨p, q1, q2⟩ | ⟨q', q1, q2⟩
            · exact L.apartI p q1 (qi, oi) hqm q2
            · exact hne q' q1 q2)
        have hlen : fuel = pd.length + (pre ++ post).length := by rw [hsplit] at hf; simp at hf ⊢; omega
        -- what is pending is not looked at
        have hpl : ∀ p ∈ pd, p.s ∉ oi.looksAt ops ∧ oi.dst ≠ some p.s := fun p hpm => r4 p hpm (hnl p.i (.inl ⟨p, hpm, rfl⟩) (by
          obtain ⟨⟨o, q1, _⟩, _⟩ := (L.pend p hpm).1
          rcases Nat.lt_or_ge p.i ops.size with z | z; exact z; rw [Array.getElem?_eq_none z] at q1; cases q1))
        have hopnd : ∀ M, ∀ x ∈ oi.op.operands, opnd ⟨hideP pd σ.t, M⟩ x = opnd ⟨σ.t, M⟩ x := fun M x hx => by
          cases x with
          | tmp t =>
            have : ∀ p ∈ pd, p.s ≠ t := fun p hpm e => (hpl p hpm).1 (by
              subst e
              exact List.mem_append_left _ (List.mem_filterMap.2 ⟨.tmp p.s, by simpa using hx, rfl⟩))
            simp only [opnd, Fr.get]
            exact hideP_out this
          | _ => rfl
        have hwant : wantedA ops (hideP pd σ.t) oi = wantedA ops σ.t oi := by
          unfold wantedA
          cases hg : oi.guard with
          | none => rfl
          | some gw =>
            obtain ⟨g, want⟩ := gw
            simp only
            cases ht : (ops[g]?).bind (·.dst) with
            | none => rfl
            | some t =>
              have : ∀ p ∈ pd, p.s ≠ t := fun p hpm e => (hpl p hpm).1 (by subst e; simp [Oper.looksAt, hg, ht])
              simp only [Fr.get]
              rw [hideP_out this]
        have hdp : ∀ i, oi.dst = some i → ∀ p ∈ pd, p.s ≠ i := fun i hdi p hpm e => (hpl p hpm).2 (by rw [hdi, e])
        obtain ⟨T, M⟩ := σ
        simp only at I F hp h hopnd hwant
        have skip : ∀ (hl' : HL), wantedA ops T oi = some false → vcH P loc ops B Q hl' (pre ++ post) (St.putD ⟨T, M⟩ oi.dst undef) → wpOp P ops Z qi (wpAny P .any ops Z fuel (listed.setIfInBounds qi true)) a w := by
          intro hl' hw h'
          simp only [wpOp, hoi]
          rw [if_neg (by rw [wantedA_ok (σ := ⟨hideP pd T, M⟩) F (hwant.trans hw)]; simp)]
          exact ih _ pd (pre ++ post) hl' _ _ _ hlen L' h' (conD_put I F hs hdf r3 hdp (.of_flat2 rfl) hp)
        have act : ∀ (hl' : HL) (v : Value) (M' : Mem), wantedA ops T oi = some true → stepOp P loc ⟨T, M⟩ oi = some (v, ⟨T, M'⟩) → vcH P loc ops B Q hl' (pre ++ post) (St.putD ⟨T, M'⟩ oi.dst v) →
            wpOp P ops Z qi (wpAny P .any ops Z fuel (listed.setIfInBounds qi true)) a w := by
          intro hl' v M' hw hst h'
          have hst' : stepOp P loc ⟨hideP pd T, M⟩ oi = some (v, ⟨hideP pd T, M'⟩) := by
            rw [stepW_congr (T := T) r2 (hopnd M), hst]; rfl
          simp only [wpOp, hoi]
          rw [if_pos (wantedA_ok (σ := ⟨hideP pd T, M⟩) F (hwant.trans hw))]
          refine .inl ?_
          obtain ⟨nx, v', w', ρ', c1, c2, c3, c4, c5, c6⟩ := stepOp_ok hst' ρ0 h0 w0 ρ a w I F
          unfold Oper.wp
          rw [c1]
          have hp' : ∀ p ∈ pd, ρ' (true, p.s) = none ∧ M'.x p.s = some (p.e, p.z) ∧ T p.s = some (.pointer (some ⟨p.s, 0, some 0⟩)) := fun p hpm => by
            obtain ⟨q1, q2, q3⟩ := hp p hpm
            obtain ⟨z1, z2⟩ := c6 p.s (fun d hd => fun e => hdp d hd p hpm e.symm)
            exact ⟨by rw [z1]; exact q1, by rw [z2 q1]; exact q2, q3⟩
          cases nx <;> simp only [outV, Option.some.injEq] at c2 <;> first
            | (subst c2; exact ih _ pd (pre ++ post) hl' _ _ _ hlen L' h' (conD_put c3 c4 hs hdf r3 hdp c5 hp'))
            | (exact absurd c2 (by simp))
        have tsame : ∀ {v : Value} {σ' : St}, stepOp P loc ⟨T, M⟩ oi = some (v, σ') → σ'.t = T := fun {v σ'} hst => by
          have := stepW_congr (P := P) (loc := loc) (T := T) (T' := T) (m := M) r2 (fun x hx => rfl)
          rw [hst] at this
          simp only [Option.map_some, Option.some.injEq, Prod.mk.injEq, true_and] at this
          rw [this]
        by_cases hn : clsN oi.op = true
        · obtain ⟨v, hl', h1, h2⟩ := (vcH_N hn).1 h
          unfold effN at h1
          simp only at h1
          split at h1
          · simp at h1
          · rename_i hw
            simp only [Option.some.injEq, Prod.mk.injEq] at h1
            obtain ⟨rfl, rfl⟩ := h1
            exact skip _ hw h2
          · rename_i hw
            split at h1
            rotate_left
            · simp at h1
            rename_i u hu
            simp only [Option.some.injEq, Prod.mk.injEq] at h1
            obtain ⟨rfl, rfl⟩ := h1
            unfold valN at hu
            cases hst : stepOp P loc ⟨T, M⟩ oi with
            | none => rw [hst] at hu; simp at hu
            | some pr =>
              obtain ⟨u2, σ2⟩ := pr
              rw [hst] at hu
              simp only [Option.map_some, Option.some.injEq] at hu
              subst hu
              have e := stepN_same hn hst
              subst e
              exact act _ _ M hw hst h2
        · rw [vcH, if_neg hn] at h
          simp only at h
          split at h
          · exact h.elim
          · rename_i hw; exact skip _ hw h
          · rename_i hw
            split at h
            · rename_i f args hc
              have hc' : callOf ⟨hideP pd T, M⟩ oi = some (f, args) := by rw [callOf_congr (hopnd M)]; exact hc
              simp only [wpOp, hoi]
              rw [if_pos (wantedA_ok (σ := ⟨hideP pd T, M⟩) F (hwant.trans hw))]
              refine .inl (wp_call_core (σ := ⟨hideP pd T, M⟩) hc' h I F fun v h' ρ' v' w' hpost hnice J j1 j2 hv => ?_)
              obtain ⟨_, h2⟩ := hpost hnice
              exact ih _ pd (pre ++ post) hl _ _ _ hlen L' h2 (conD_put J (F.mono j1 j2) hs hdf r3 hdp (.val _ _ hv) fun p hpm => by
                obtain ⟨q1, q2, q3⟩ := hp p hpm
                exact ⟨by rw [j2]; exact q1, q2, q3⟩)
            · split at h
              rotate_left
              · exact h.elim
              rename_i v σ' hst
              obtain ⟨T', M'⟩ := σ'
              have ht := tsame hst
              simp only at ht
              subst ht
              exact act _ v M' hw hst h.2
end
end Go.Am
