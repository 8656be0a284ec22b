/- The abstract machine, part L: a drawn region, sound. -/
import Derived.Test.YtmmbndbpjanfhaaDoorAmK
set_option linter.unusedVariables false
set_option linter.unusedSimpArgs false
set_option linter.unusedSectionVars false
namespace Go.Am
open Go

section
variable {P : Program} {ρ0 ρ ρ' : Rho} {h0 : Heap} {w0 w : World} {m : Mem}

/-- what may be told behind another one as well -/
def moves (ops : Array Oper) (p q : Nat × Oper) : Prop :=
  clsN p.2.op = true ∧ (∀ d, p.2.dst = some d → d ∉ q.2.looksAt ops) ∧ (∀ d, p.2.dst = some d → q.2.dst ≠ some d) ∧ (∀ d, q.2.dst = some d → d ∉ p.2.looksAt ops)
/-- what holds of an operation that stands ahead of another one in the list -/
def aheadOK (ops : Array Oper) (B : Nat → Nat → Bool) (Wl : List Nat) (p q : Nat × Oper) : Prop :=
  p.1 ≠ q.1 ∧ (B q.1 p.1 = false → (clsN p.2.op = false ∧ clsN q.2.op = false) ∨ moves ops p q ∨ ∃ r, r ≠ q.1 ∧ B q.1 r = true ∧ [p.1, r].Sublist Wl)
theorem suf_in {A S : List Nat} {p r : Nat} (hn : (A ++ S).Nodup) (hp : p ∈ S) (h : [p, r].Sublist (A ++ S)) : r ∈ S := by
  obtain ⟨l1, l2, e, h1, h2⟩ := List.sublist_append_iff.1 h
  cases l1 with
  | nil => rw [List.nil_append] at e; exact h2.subset (by rw [← e]; simp)
  | cons a t =>
    rw [List.cons_append, List.cons.injEq] at e
    have : a ∈ A := h1.subset (by simp)
    exact absurd e.1.symm ((List.nodup_append.1 hn).2.2 a this p hp)

theorem vcH_N {loc : List Nat} {ops : Array Oper} {B : Nat → Nat → Bool} {Q : St → Prop} {hl : HL} {i : Nat} {o : Oper} {r : List (Nat × Oper)} {σ : St} (hn : clsN o.op = true) :
    vcH P loc ops B Q hl ((i, o) :: r) σ ↔ ∃ v hl', effN P loc ops hl i o σ = some (v, hl') ∧ vcH P loc ops B Q hl' r (σ.putD o.dst v) := by
  rw [vcH, if_pos hn]
  constructor
  · intro h
    split at h
    · rename_i v k hk; exact ⟨v, k, hk, h⟩
    · exact h.elim
  · rintro ⟨v, k, h1, h2⟩
    rw [h1]; exact h2
theorem vcH_front {loc : List Nat} {ops : Array Oper} {B : Nat → Nat → Bool} {Q : St → Prop} {q : Nat × Oper} {post : List (Nat × Oper)} (hnl : notLoc loc q.2 = true) : ∀ (pre : List (Nat × Oper)) (hl : HL) (σ : St),
    (∀ p ∈ pre, moves ops p q ∧ B q.1 p.1 = false) → vcH P loc ops B Q hl (pre ++ q :: post) σ → vcH P loc ops B Q hl (q :: (pre ++ post)) σ := by
  intro pre
  induction pre with
  | nil => intro hl σ _ h; exact h
  | cons p r ih =>
    intro hl σ hp h
    obtain ⟨j, oj⟩ := p
    obtain ⟨i, oi⟩ := q
    obtain ⟨⟨hj, a1, a2, a3⟩, hB⟩ := hp (j, oj) (by simp)
    refine vcH_swap hj hB a1 a2 a3 hnl ?_
    simp only [List.cons_append] at h
    rw [vcH_N hj] at h ⊢
    obtain ⟨v, k, h1, h2⟩ := h
    exact ⟨v, k, h1, ih _ _ (fun p hp' => hp p (List.mem_cons_of_mem _ hp')) h2⟩

/-- a call, with all that is known behind it -/
theorem wp_call_core {o : Oper} {f : FuncId} {args : List Value} {σ : St} {a : Act} {post : Value → Heap → Prop} {K : Act → World → Prop} {Z : Exit → Act → World → Prop} (hc : callOf σ o = some (f, args))
    (H : ACalls P f args σ.m.h post) (I : Inv P ρ0 h0 w0 ρ σ.m w) (F : FRel ρ σ.t a.tmps)
    (hK : ∀ v h' ρ' v' w', post v h' → Nice σ.m.h v h' → Inv P ρ0 h0 w0 ρ' ⟨σ.m.x, h'⟩ w' → (∀ b pl, ρ (false, b) = some pl → ρ' (false, b) = some pl) → (∀ s, ρ' (true, s) = ρ (true, s)) → VR ρ' v v' → K (a.put o.dst v') w') : o.wp P a w K Z := by
  obtain ⟨args', hV, hrun⟩ := callOf_ok hc H.1 I F
  unfold Oper.wp
  rw [hrun]
  simp only [Oper.upon]
  have hcall := H.2 (heapOnly ρ) w args' (fun s => heapOnly_t ρ s) I.rel.heapOnly ⟨hV.1, fun i v hi => let ⟨v', q1, q2⟩ := hV.2 i v hi; ⟨v', q1, q2.heapOnly⟩⟩
  refine hcall.mono ?_
  rintro e w' ⟨v, v', h', ρ', rfl, hpost, hbox, hR, hT, hv⟩
  simp only
  obtain ⟨J, j1, j2⟩ := I.call hR hT
  exact hK v h' _ v' w' hpost ⟨hT.hg, hv.isNoLoc, hT.hn⟩ J j1 j2 (hv.mono fun b pl q => by simp only [Rho.join, Bool.false_eq_true, if_false]; exact q)

/-- boxes that are to be made yet: the operation's number, the slot, the type, the zero value's cells -/
structure Pend where
  i : Nat
  s : Nat
  e : TypeId
  z : List Value
def hideP (pd : List Pend) (T : Fr) : Fr := fun j => if pd.any (fun p => p.s == j) then none else T j
theorem hideP_in {pd : List Pend} {T : Fr} {j : Nat} (h : ∃ p ∈ pd, p.s = j) : hideP pd T j = none := by
  unfold hideP
  rw [if_pos]
  obtain ⟨p, q1, q2⟩ := h
  exact List.any_eq_true.2 ⟨p, q1, by simp [q2]⟩
theorem hideP_out {pd : List Pend} {T : Fr} {j : Nat} (h : ∀ p ∈ pd, p.s ≠ j) : hideP pd T j = T j := by
  unfold hideP
  rw [if_neg]
  intro q
  obtain ⟨p, q1, q2⟩ := List.any_eq_true.1 q
  exact h p q1 (by simpa using q2)

structure PendOK (P : Program) (loc : List Nat) (ops : Array Oper) (p : Pend) : Prop where
  op : ∃ o, ops[p.i]? = some o ∧ o.op = .alloc p.e ∧ o.dst = some p.s ∧ o.guard = none
  zero : zeroT P p.e = some p.z

def ConD (P : Program) (ρ0 : Rho) (h0 : Heap) (w0 : World) (n : Nat) (pd : List Pend) (σ : St) (a : Act) (w : World) : Prop :=
  ∃ ρ, Inv P ρ0 h0 w0 ρ σ.m w ∧ FRel ρ (hideP pd σ.t) a.tmps ∧ a.tmps.size = n ∧ a.defers = [] ∧
    ∀ p ∈ pd, ρ (true, p.s) = none ∧ σ.m.x p.s = some (p.e, p.z) ∧ σ.t p.s = some (.pointer (some ⟨p.s, 0, some 0⟩))

theorem hideP_put {pd : List Pend} {T : Fr} {m : Mem} {d : Option Nat} (h : ∀ i, d = some i → ∀ p ∈ pd, p.s ≠ i) (v : Value) : hideP pd (St.putD ⟨T, m⟩ d v).t = (St.putD ⟨hideP pd T, m⟩ d v).t := by
  cases d with
  | none => rfl
  | some i =>
    funext j
    simp only [St.putD]
    by_cases hj : ∃ p ∈ pd, p.s = j
    · have hne : ¬ i = j := fun q => by obtain ⟨p, q1, q2⟩ := hj; exact h i rfl p q1 (q2.trans q.symm)
      rw [hideP_in hj]
      simp only [Fr.put, hne, if_false]
      rw [hideP_in hj]
    · have hj' : ∀ p ∈ pd, p.s ≠ j := fun p hp q => hj ⟨p, hp, q⟩
      rw [hideP_out hj']
      simp only [Fr.put]
      split
      · rfl
      · rw [hideP_out hj']

/-- one more operation of the list, behind which the boxes that are pending are pending still -/
theorem conD_put {n : Nat} {pd : List Pend} {T : Fr} {M : Mem} {a : Act} {d : Option Nat} {v v' : Value} (I : Inv P ρ0 h0 w0 ρ M w) (F : FRel ρ (hideP pd T) a.tmps) (hs : a.tmps.size = n) (hdf : a.defers = [])
    (hd : ∀ i, d = some i → i < n) (hdp : ∀ i, d = some i → ∀ p ∈ pd, p.s ≠ i) (hv : VT ρ v v')
    (hp : ∀ p ∈ pd, ρ (true, p.s) = none ∧ M.x p.s = some (p.e, p.z) ∧ T p.s = some (.pointer (some ⟨p.s, 0, some 0⟩))) :
    ConD P ρ0 h0 w0 n pd (St.putD ⟨T, M⟩ d v) (a.put d v') w := by
  refine ⟨ρ, by rw [putD_m]; exact I, ?_, by cases d <;> simp [Act.put, hs], by cases d <;> exact hdf, fun p hpp => ?_⟩
  · rw [hideP_put hdp]
    cases d with
    | none => exact F
    | some i => exact F.put (by rw [hs]; exact hd i rfl) hv
  · obtain ⟨q1, q2, q3⟩ := hp p hpp
    refine ⟨q1, by rw [putD_m]; exact q2, ?_⟩
    cases d with
    | none => exact q3
    | some i =>
      have : ¬ i = p.s := fun e => hdp i rfl p hpp e.symm
      simp only [St.putD, Fr.put, this, if_false]
      exact q3

/-- the list's operations, and the boxes, are those that are left of the order that is drawn; those that change memory (W) stand in its order -/
structure Left (P : Program) (loc : List Nat) (ops : Array Oper) (B : Nat → Nat → Bool) (W : Nat → Bool) (Wl : List Nat) (n : Nat) (L : List Nat) (pd : List Pend) (rem : List (Nat × Oper)) : Prop where
  left : ∀ i, i ∈ L ↔ (∃ p ∈ pd, p.i = i) ∨ ∃ q ∈ rem, q.1 = i
  nodup : L.Nodup
  cons : L.Pairwise fun x y => B x y = false
  ord : (rem.map (·.1)).filter W = L.filter W
  wr : ∀ q ∈ rem, W q.1 = !clsN q.2.op
  wp : ∀ p ∈ pd, W p.i = false
  suf : (L.filter W).IsSuffix Wl
  wnd : Wl.Nodup
  wW : ∀ x ∈ Wl, W x = true
  pair : rem.Pairwise (aheadOK ops B Wl)
  remOK : ∀ q ∈ rem, ops[q.1]? = some q.2 ∧ notLoc loc q.2 = true ∧ (∀ i, q.2.dst = some i → i < n) ∧
    ∀ p ∈ pd, B q.1 p.i = false → p.s ∉ q.2.looksAt ops ∧ q.2.dst ≠ some p.s
  pend : ∀ p ∈ pd, PendOK P loc ops p ∧ p.s < n
  pendpair : pd.Pairwise fun p q => p.i ≠ q.i ∧ p.s ≠ q.s
  apartI : ∀ p ∈ pd, ∀ q ∈ rem, p.i ≠ q.1

/-- what is left when one of them has been done -/
theorem Left.next {loc : List Nat} {ops : Array Oper} {B : Nat → Nat → Bool} {W : Nat → Bool} {Wl : List Nat} {n : Nat} {i : Nat} {l : List Nat} {pd pd' : List Pend} {rem rem' : List (Nat × Oper)} (L : Left P loc ops B W Wl n (i :: l) pd rem)
    (hpd : pd'.Sublist pd) (hrem : rem'.Sublist rem)
    (hl : ∀ j, j ≠ i → ((∃ p ∈ pd, p.i = j) ∨ ∃ q ∈ rem, q.1 = j) → ((∃ p ∈ pd', p.i = j) ∨ ∃ q ∈ rem', q.1 = j)) (hi2 : ¬ ((∃ p ∈ pd', p.i = i) ∨ ∃ q ∈ rem', q.1 = i))
    (ho : (rem'.map (·.1)).filter W = l.filter W) :
    Left P loc ops B W Wl n l pd' rem' := by
  have hnd := List.nodup_cons.1 L.nodup
  refine ⟨fun j => ⟨fun hj => hl j (fun e => hnd.1 (e ▸ hj)) ((L.left j).1 (List.mem_cons_of_mem _ hj)), fun hj => ?_⟩, hnd.2, (List.pairwise_cons.1 L.cons).2, ho, fun q hq => L.wr q (hrem.subset hq), fun p hp => L.wp p (hpd.subset hp), ?_, L.wnd, L.wW, L.pair.sublist hrem, fun q hq => ?_,
    fun p hp => L.pend p (hpd.subset hp), L.pendpair.sublist hpd, fun p hp q hq => L.apartI p (hpd.subset hp) q (hrem.subset hq)⟩
  · have hji : j ≠ i := fun e => hi2 (e ▸ hj)
    have : j ∈ i :: l := (L.left j).2 (by
      rcases hj with ⟨p, q1, q2⟩ | ⟨q, q1, q2⟩
      · exact .inl ⟨p, hpd.subset q1, q2⟩
      · exact .inr ⟨q, hrem.subset q1, q2⟩)
    rcases List.mem_cons.1 this with e | e
    · exact absurd e hji
    · exact e
  · have := L.suf
    rw [List.filter_cons] at this
    split at this
    · exact (List.suffix_cons _ _).trans this
    · exact this
  · obtain ⟨q1, q2, q3, q4⟩ := L.remOK q (hrem.subset hq)
    exact ⟨q1, q2, q3, fun p hp => q4 p (hpd.subset hp)⟩

theorem draw_list {loc : List Nat} {ops : Array Oper} {B : Nat → Nat → Bool} {W : Nat → Bool} {Wl : List Nat} {Q : St → Prop} {Z : Exit → Act → World → Prop} {n : Nat} (hZ : ∀ σ' a' w', Q σ' → Con P ρ0 h0 w0 n σ' a' w' → Z .normal a' w') :
    ∀ (l : List Nat) (pd : List Pend) (rem : List (Nat × Oper)) (hl : HL) (σ : St) (a : Act) (w : World), Left P loc ops B W Wl n l pd rem →
      vcH P loc ops B Q hl rem σ → ConD P ρ0 h0 w0 n pd σ a w → wpOps P ops Z l a w := by
  intro l
  induction l with
  | nil =>
    intro pd rem hl σ a w L h C
    have hpd : pd = [] := List.eq_nil_iff_forall_not_mem.2 fun p hp => by have := (L.left p.i).2 (.inl ⟨p, hp, rfl⟩); simp at this
    have hrem : rem = [] := List.eq_nil_iff_forall_not_mem.2 fun q hq => by have := (L.left q.1).2 (.inr ⟨q, hq, rfl⟩); simp at this
    subst hpd; subst hrem
    obtain ⟨ρ, I, F, hs, hd, _⟩ := C
    exact hZ σ a w h ⟨ρ, I, F, hs, hd⟩
  | cons i l ih =>
    intro pd rem hl σ a w L h C
    rw [wpOps_cons]
    have hnd := List.nodup_cons.1 L.nodup
    have hnl : ∀ k, ((∃ p ∈ pd, p.i = k) ∨ ∃ q ∈ rem, q.1 = k) → k ≠ i → B i k = false := fun k hk hki => by
      rcases List.mem_cons.1 ((L.left k).2 hk) with e | e
      · exact absurd e hki
      · exact (List.pairwise_cons.1 L.cons).1 k e
    obtain ⟨ρ, I, F, hs, hdf, hp⟩ := C
    rcases (L.left i).1 (by simp) with ⟨p, hpm, hpi⟩ | ⟨q, hqm, hqi⟩
    · -- a box is made
      subst hpi
      obtain ⟨⟨⟨oi, hoi, c2, c3, c4⟩, hzero⟩, hsn⟩ := L.pend p hpm
      obtain ⟨zv, hzc, hzf, hzr⟩ := run_zeroValue hzero
      obtain ⟨l1, l2, hsplit⟩ := List.append_of_mem hpm
      have hdis : ∀ p' ∈ l1 ++ l2, p'.i ≠ p.i ∧ p'.s ≠ p.s := by
        intro p' hp'
        have hpw := L.pendpair
        rw [hsplit, List.pairwise_append] at hpw
        rcases List.mem_append.1 hp' with q | q
        · exact hpw.2.2 p' q p (by simp)
        · have := (List.pairwise_cons.1 hpw.2.1).1 p' q
          exact ⟨fun e => this.1 e.symm, fun e => this.2 e.symm⟩
      have hsub : (l1 ++ l2).Sublist pd := by rw [hsplit]; exact List.Sublist.append (List.Sublist.refl _) (List.sublist_cons_self _ _)
      obtain ⟨hpn, hpx, hpt⟩ := hp p hpm
      have hfit : Fits P ρ (.row true p.e p.z) (.cells ⟨p.z⟩ p.e (0, 0)) ⟨w.heap.size, 0, (⟨p.z⟩ : Array Value).size, P.cellsOf p.e⟩ := .row p.e p.e p.z ⟨p.z⟩ _ (by simp) (flat_self hzf)
      have J := I.newB p.s hfit rfl
      have hsame : (⟨σ.m.x.set p.s (p.e, p.z), σ.m.h⟩ : Mem) = σ.m := by
        obtain ⟨T, x, hh⟩ := σ
        simp only at hpx ⊢
        congr 1
        funext j
        simp only [Boxes.set]
        split
        · rename_i e; subst e; exact hpx.symm
        · rfl
      rw [hsame] at J
      simp only [wpOp, hoi]
      rw [if_pos (by simp [Region.wanted, c4])]
      refine .inl ?_
      unfold Oper.wp
      have hrun : (execOp a.eval oi).run P w = .ok (.value (.pointer (some ⟨w.heap.size, 0, none⟩))) (w.alloc (.cells ⟨p.z⟩ p.e)) := by
        simp [execOp, c2, Instr.alloc, hzr, newVar, newRow, hzc]
      rw [hrun]
      simp only [Oper.upon, c3]
      refine ih (l1 ++ l2) rem hl σ _ _
        (L.next hsub (List.Sublist.refl _) (fun j hj hjl => ?_) (fun hj => ?_) (by rw [L.ord, List.filter_cons, if_neg (by rw [L.wp p hpm]; simp)])) h ?_
      · rcases hjl with ⟨p', q1, q2⟩ | q
        · rw [hsplit] at q1
          simp only [List.mem_append, List.mem_cons] at q1
          rcases q1 with z | z | z
          · exact .inl ⟨p', by simp [z], q2⟩
          · subst z; exact absurd q2.symm hj
          · exact .inl ⟨p', by simp [z], q2⟩
        · exact .inr q
      · rcases hj with ⟨p', q1, q2⟩ | ⟨q, q1, q2⟩
        · exact (hdis p' q1).1 q2
        · exact L.apartI p hpm q q1 q2.symm
      · refine ⟨_, J, ?_, by simp [Act.put, hs], hdf, fun p' hp' => ?_⟩
        · intro j u hj
          simp only [Fr.get] at hj
          by_cases hjs : j = p.s
          · subst hjs
            rw [hideP_out (fun p' hp' => (hdis p' hp').2)] at hj
            rw [hpt] at hj
            obtain rfl := Option.some.inj hj
            refine ⟨.pointer (some ⟨w.heap.size, 0, none⟩), by simp only [Act.put]; rw [Array.getElem?_setIfInBounds_self_of_lt (by rw [hs]; exact hsn)], ?_⟩
            have := VT.ofPtr (ρ := ρ.upd (true, p.s) ⟨w.heap.size, 0, (⟨p.z⟩ : Array Value).size, P.cellsOf p.e⟩) (ad := ⟨p.s, 0, some 0⟩) (pl := ⟨w.heap.size, 0, (⟨p.z⟩ : Array Value).size, P.cellsOf p.e⟩) (by simp [key, Rho.upd])
            simpa using this
          · have hj' : hideP pd σ.t j = some u := by
              rw [← hj]
              by_cases hex : ∃ p' ∈ l1 ++ l2, p'.s = j
              · rw [hideP_in hex, hideP_in]
                obtain ⟨p', q1, q2⟩ := hex
                exact ⟨p', hsub.subset q1, q2⟩
              · have hno : ∀ p' ∈ l1 ++ l2, p'.s ≠ j := fun p' hp' e => hex ⟨p', hp', e⟩
                rw [hideP_out hno, hideP_out]
                intro p' hp'
                rw [hsplit] at hp'
                simp only [List.mem_append, List.mem_cons] at hp'
                rcases hp' with z | z | z
                · exact hno p' (by simp [z])
                · subst z; exact fun e => hjs e.symm
                · exact hno p' (by simp [z])
            obtain ⟨u', q1, q2⟩ := F j u hj'
            refine ⟨u', by simp only [Act.put]; rw [Array.getElem?_setIfInBounds_ne (Ne.symm hjs)]; exact q1, ?_⟩
            cases q2 with
            | val _ _ q2 => exact .val _ _ (q2.mono fun b pl z => by rw [Rho.upd_ne _ _ (by simp)]; exact z)
            | loc s2 off x pl z =>
              have : s2 ≠ p.s := fun e => by subst e; rw [hpn] at z; cases z
              exact .loc s2 off x pl (by rw [Rho.upd_ne _ _ (by simpa using this)]; exact z)
        · obtain ⟨q1, q2, q3⟩ := hp p' (hsub.subset hp')
          exact ⟨by rw [Rho.upd_ne _ _ (by simpa using (hdis p' hp').2)]; exact q1, q2, q3⟩
    · -- one of the list
      obtain ⟨qi, oi⟩ := q
      simp only at hqi; subst hqi
      obtain ⟨r1, r2, r3, r4⟩ := L.remOK (qi, oi) hqm
      simp only at r1 r2 r3 r4
      have hoi := r1
      obtain ⟨pre, post, hsplit⟩ := List.append_of_mem hqm
      have hpair := L.pair
      rw [hsplit, List.pairwise_append] at hpair
      have hord := L.ord
      rw [hsplit, List.map_append, List.map_cons, List.filter_append, List.filter_cons] at hord
      have hwq := L.wr (qi, oi) hqm
      simp only at hwq hord
      have hpreN : W qi = true → ∀ p ∈ pre, clsN p.2.op = true := fun hw p hp' => by
        rw [List.filter_cons, if_pos hw, if_pos hw] at hord
        have hpw := L.wr p (by rw [hsplit]; simp [hp'])
        cases hn : clsN p.2.op with
        | true => rfl
        | false =>
          exfalso
          rw [hn] at hpw
          cases hf : (pre.map (·.1)).filter W with
          | nil =>
            have : p.1 ∈ (pre.map (·.1)).filter W := List.mem_filter.2 ⟨List.mem_map.2 ⟨p, hp', rfl⟩, hpw⟩
            rw [hf] at this; simp at this
          | cons y ys =>
            rw [hf, List.cons_append, List.cons.injEq] at hord
            have : y ∈ (pre.map (·.1)).filter W := by rw [hf]; simp
            obtain ⟨p2, q1, q2⟩ := List.mem_map.1 (List.mem_filter.1 this).1
            have := (hpair.2.2 p2 q1 (qi, oi) (by simp)).1
            exact this (by rw [q2]; exact hord.1)
      have hpre : ∀ p ∈ pre, moves ops p (qi, oi) ∧ B qi p.1 = false := fun p hp' => by
        have ha := hpair.2.2 p hp' (qi, oi) (by simp)
        have hB := hnl p.1 (.inr ⟨p, by rw [hsplit]; simp [hp'], rfl⟩) ha.1
        refine ⟨?_, hB⟩
        rcases ha.2 hB with ⟨z1, z2⟩ | z | ⟨r, z1, z2, z3⟩
        · simp only at z2
          have := hpreN (by rw [hwq, z2]; rfl) p hp'
          rw [z1] at this; cases this
        · exact z
        · exfalso
          have hpL : p.1 ∈ (qi :: l).filter W := List.mem_filter.2 ⟨(L.left p.1).2 (.inr ⟨p, by rw [hsplit]; simp [hp'], rfl⟩), L.wW _ (z3.subset (by simp))⟩
          obtain ⟨A, hA⟩ := L.suf
          have hr := suf_in (by rw [hA]; exact L.wnd) hpL (by rw [hA]; exact z3)
          rcases List.mem_cons.1 (List.mem_filter.1 hr).1 with e | e
          · exact z1 e
          · have := (List.pairwise_cons.1 L.cons).1 r e
            simp only at z2
            rw [z2] at this; cases this
      have hord' : ((pre ++ post).map (·.1)).filter W = l.filter W := by
        rw [List.map_append, List.filter_append]
        by_cases hw : W qi = true
        · have hnil : (pre.map (·.1)).filter W = [] := List.eq_nil_iff_forall_not_mem.2 fun y hy => by
            obtain ⟨p2, q1, q2⟩ := List.mem_map.1 (List.mem_filter.1 hy).1
            have h1 := L.wr p2 (by rw [hsplit]; simp [q1])
            rw [hpreN hw p2 q1, q2, (List.mem_filter.1 hy).2] at h1
            cases h1
          rw [List.filter_cons, if_pos hw, if_pos hw, hnil, List.nil_append, List.cons.injEq] at hord
          rw [hnil, List.nil_append]; exact hord.2
        · rw [List.filter_cons, if_neg hw, if_neg hw] at hord; exact hord
      rw [hsplit] at h
      replace h := vcH_front r2 pre hl σ hpre h
      have hsub : (pre ++ post).Sublist rem := by rw [hsplit]; exact List.Sublist.append (List.Sublist.refl _) (List.sublist_cons_self _ _)
      have hne : ∀ q' ∈ pre ++ post, q'.1 ≠ qi := by
        intro q' hq'
        rcases List.mem_append.1 hq' with z | z
        · exact (hpair.2.2 q' z (qi, oi) (by simp)).1
        · exact fun e => ((List.pairwise_cons.1 hpair.2.1).1 q' z).1 e.symm
      have L' : Left P loc ops B W Wl n l pd (pre ++ post) := L.next (List.Sublist.refl _) hsub
        (fun j hj hjl => by
          rcases hjl with q | ⟨q', q1, q2⟩
          · exact .inl q
          · rw [hsplit] at q1
            simp only [List.mem_append, List.mem_cons] at q1
            rcases q1 with z | z | z
            · exact .inr ⟨q', by simp [z], q2⟩
            · subst z; exact absurd q2.symm hj
            · exact .inr ⟨q', by simp [z], q2⟩)
        (fun hj => by
          rcases hj with ⟨p, q1, q2⟩ | ⟨q', q1, q2⟩
          · exact L.apartI p q1 (qi, oi) hqm q2
          · exact hne q' q1 q2)
        hord'
      -- what is pending is not looked at
      have hpl : ∀ p ∈ pd, p.s ∉ oi.looksAt ops ∧ oi.dst ≠ some p.s := fun p hpm => r4 p hpm (hnl p.i (.inl ⟨p, hpm, rfl⟩) (L.apartI p hpm (qi, oi) hqm))
      have hopnd : ∀ M, ∀ x ∈ oi.op.operands, opnd ⟨hideP pd σ.t, M⟩ x = opnd ⟨σ.t, M⟩ x := fun M x hx => by
        cases x with
        | tmp t =>
          have : ∀ p ∈ pd, p.s ≠ t := fun p hpm e => (hpl p hpm).1 (by
            subst e
            exact List.mem_append_left _ (List.mem_filterMap.2 ⟨.tmp p.s, by simpa using hx, rfl⟩))
          simp only [opnd, Fr.get]
          exact hideP_out this
        | _ => rfl
      have hwant : wantedA ops (hideP pd σ.t) oi = wantedA ops σ.t oi := by
        unfold wantedA
        cases hg : oi.guard with
        | none => rfl
        | some gw =>
          obtain ⟨g, want⟩ := gw
          simp only
          cases ht : (ops[g]?).bind (·.dst) with
          | none => rfl
          | some t =>
            have : ∀ p ∈ pd, p.s ≠ t := fun p hpm e => (hpl p hpm).1 (by subst e; simp [Oper.looksAt, hg, ht])
            simp only [Fr.get]
            rw [hideP_out this]
      have hdp : ∀ i, oi.dst = some i → ∀ p ∈ pd, p.s ≠ i := fun i hdi p hpm e => (hpl p hpm).2 (by rw [hdi, e])
      obtain ⟨T, M⟩ := σ
      simp only at I F hp h hopnd hwant
      have skip : ∀ (hl' : HL), wantedA ops T oi = some false → vcH P loc ops B Q hl' (pre ++ post) (St.putD ⟨T, M⟩ oi.dst undef) → wpOp P ops Z qi (wpOps P ops Z l) a w := by
        intro hl' hw h'
        simp only [wpOp, hoi]
        rw [if_neg (by rw [wantedA_ok (σ := ⟨hideP pd T, M⟩) F (hwant.trans hw)]; simp)]
        exact ih pd (pre ++ post) hl' _ _ _ L' h' (conD_put I F hs hdf r3 hdp (.of_flat2 rfl) hp)
      have act : ∀ (hl' : HL) (v : Value) (M' : Mem), wantedA ops T oi = some true → stepOp P loc ⟨T, M⟩ oi = some (v, ⟨T, M'⟩) → vcH P loc ops B Q hl' (pre ++ post) (St.putD ⟨T, M'⟩ oi.dst v) →
          wpOp P ops Z qi (wpOps P ops Z l) a w := by
        intro hl' v M' hw hst h'
        have hst' : stepOp P loc ⟨hideP pd T, M⟩ oi = some (v, ⟨hideP pd T, M'⟩) := by
          rw [stepW_congr (T := T) r2 (hopnd M), hst]; rfl
        simp only [wpOp, hoi]
        rw [if_pos (wantedA_ok (σ := ⟨hideP pd T, M⟩) F (hwant.trans hw))]
        refine .inl ?_
        obtain ⟨nx, v', w', ρ', c1, c2, c3, c4, c5, c6⟩ := stepOp_ok hst' ρ0 h0 w0 ρ a w I F
        unfold Oper.wp
        rw [c1]
        have hp' : ∀ p ∈ pd, ρ' (true, p.s) = none ∧ M'.x p.s = some (p.e, p.z) ∧ T p.s = some (.pointer (some ⟨p.s, 0, some 0⟩)) := fun p hpm => by
          obtain ⟨q1, q2, q3⟩ := hp p hpm
          obtain ⟨z1, z2⟩ := c6 p.s (fun d hd => fun e => hdp d hd p hpm e.symm)
          exact ⟨by rw [z1]; exact q1, by rw [z2 q1]; exact q2, q3⟩
        cases nx <;> simp only [outV, Option.some.injEq] at c2 <;> first
          | (subst c2; exact ih pd (pre ++ post) hl' _ _ _ L' h' (conD_put c3 c4 hs hdf r3 hdp c5 hp'))
          | (exact absurd c2 (by simp))
      have tsame : ∀ {v : Value} {σ' : St}, stepOp P loc ⟨T, M⟩ oi = some (v, σ') → σ'.t = T := fun {v σ'} hst => by
        have := stepW_congr (P := P) (loc := loc) (T := T) (T' := T) (m := M) r2 (fun x hx => rfl)
        rw [hst] at this
        simp only [Option.map_some, Option.some.injEq, Prod.mk.injEq, true_and] at this
        rw [this]
      by_cases hn : clsN oi.op = true
      · obtain ⟨v, hl', h1, h2⟩ := (vcH_N hn).1 h
        unfold effN at h1
        simp only at h1
        split at h1
        · simp at h1
        · rename_i hw
          simp only [Option.some.injEq, Prod.mk.injEq] at h1
          obtain ⟨rfl, rfl⟩ := h1
          exact skip _ hw h2
        · rename_i hw
          split at h1
          rotate_left
          · simp at h1
          rename_i u hu
          simp only [Option.some.injEq, Prod.mk.injEq] at h1
          obtain ⟨rfl, rfl⟩ := h1
          unfold valN at hu
          cases hst : stepOp P loc ⟨T, M⟩ oi with
          | none => rw [hst] at hu; simp at hu
          | some pr =>
            obtain ⟨u2, σ2⟩ := pr
            rw [hst] at hu
            simp only [Option.map_some, Option.some.injEq] at hu
            subst hu
            have e := stepN_same hn hst
            subst e
            exact act _ _ M hw hst h2
      · rw [vcH, if_neg hn] at h
        simp only at h
        split at h
        · exact h.elim
        · rename_i hw; exact skip _ hw h
        · rename_i hw
          split at h
          · rename_i f args hc
            have hc' : callOf ⟨hideP pd T, M⟩ oi = some (f, args) := by rw [callOf_congr (hopnd M)]; exact hc
            simp only [wpOp, hoi]
            rw [if_pos (wantedA_ok (σ := ⟨hideP pd T, M⟩) F (hwant.trans hw))]
            refine .inl (wp_call_core (σ := ⟨hideP pd T, M⟩) hc' h I F fun v h' ρ' v' w' hpost hnice J j1 j2 hv => ?_)
            obtain ⟨_, h2⟩ := hpost hnice
            exact ih pd (pre ++ post) hl _ _ _ L' h2 (conD_put J (F.mono j1 j2) hs hdf r3 hdp (.val _ _ hv) fun p hpm => by
              obtain ⟨q1, q2, q3⟩ := hp p hpm
              exact ⟨by rw [j2]; exact q1, q2, q3⟩)
          · split at h
            rotate_left
            · exact h.elim
            rename_i v σ' hst
            obtain ⟨T', M'⟩ := σ'
            have ht := tsame hst
            simp only at ht
            subst ht
            exact act _ v M' hw hst h.2
end
end Go.Am
