/- The abstract machine, part M: code. -/
import Derived.Test.YthglohpeijfcfaaAmL
set_option linter.unusedVariables false
set_option linter.unusedSimpArgs false
set_option linter.unusedSectionVars false
namespace Go.Am
open Go

section
variable {P : Program} {ρ0 ρ ρ' : Rho} {h0 : Heap} {w0 w : World} {m : Mem}

/-! ### what is said of a function's code beside it -/
/-- of a region that draws: its boxes, the order in which it is told, who stands behind whom -/
structure DrawInfo where
  bx : List Nat
  perm : List Nat
  M : List (List Nat)
structure Cfg where
  loc : List Nat
  keep : Nat → List Nat
  draw : Nat → DrawInfo

def DrawInfo.B (d : DrawInfo) (i j : Nat) : Bool := (d.M.getD i []).contains j
def mkPend (P : Program) (ops : Array Oper) (i : Nat) : Pend :=
  match ops[i]? with
  | some ⟨some s, .alloc e, _, _, _, _⟩ => ⟨i, s, e, (zeroT P e).getD []⟩
  | _ => ⟨i, 0, 0, []⟩
def pendL (P : Program) (ops : Array Oper) (d : DrawInfo) : List Pend := d.bx.map (mkPend P ops)
def remL (ops : Array Oper) (d : DrawInfo) : List (Nat × Oper) := d.perm.map fun i => (i, ops.getD i default)

def aheadB (ops : Array Oper) (B : Nat → Nat → Bool) (p q : Nat × Oper) : Bool :=
  p.1 != q.1 && (B q.1 p.1 || (clsN p.2.op &&
    (match p.2.dst with | some d => !(q.2.looksAt ops).contains d && q.2.dst != some d | none => true) &&
    (match q.2.dst with | some d => !(p.2.looksAt ops).contains d | none => true)))
theorem aheadB_ok {ops : Array Oper} {B : Nat → Nat → Bool} {p q : Nat × Oper} (h : aheadB ops B p q = true) : aheadOK ops B p q := by
  unfold aheadB at h
  rw [Bool.and_eq_true, bne_iff_ne] at h
  refine ⟨h.1, fun hB => ?_⟩
  have h2 := h.2
  rw [hB, Bool.false_or, Bool.and_eq_true, Bool.and_eq_true] at h2
  obtain ⟨⟨a1, a2⟩, a3⟩ := h2
  refine ⟨a1, fun d hd => ?_, fun d hd => ?_, fun d hd => ?_⟩
  · rw [hd] at a2; simp only [Bool.and_eq_true, Bool.not_eq_true'] at a2
    intro hm; have := a2.1; rw [List.contains_eq_mem, decide_eq_false_iff_not] at this; exact this hm
  · rw [hd] at a2; simp only [Bool.and_eq_true, bne_iff_ne] at a2; exact a2.2
  · rw [hd] at a3; simp only [Bool.not_eq_true'] at a3
    intro hm; rw [List.contains_eq_mem, decide_eq_false_iff_not] at a3; exact a3 hm
def pairB {α : Type} (f : α → α → Bool) : List α → Bool
  | [] => true
  | x :: r => r.all (f x) && pairB f r
theorem pairB_ok {α : Type} {f : α → α → Bool} {R : α → α → Prop} (hf : ∀ x y, f x y = true → R x y) : ∀ l : List α, pairB f l = true → l.Pairwise R := by
  intro l
  induction l with
  | nil => intro _; exact .nil
  | cons x r ih =>
    intro h
    rw [pairB, Bool.and_eq_true] at h
    exact .cons (fun y hy => hf x y (List.all_eq_true.1 h.1 y hy)) (ih h.2)

def pendB (P : Program) (loc : List Nat) (ops : Array Oper) (n : Nat) (p : Pend) : Bool :=
  match ops[p.i]? with
  | some o => (match o.op with | .alloc e => e == p.e | _ => false) && o.dst == some p.s && o.guard.isNone && loc.contains p.s && decide (p.s < n) && (zeroT P p.e).isSome
  | none => false
def drawOK (P : Program) (loc : List Nat) (n : Nat) (ops : Array Oper) (d : DrawInfo) : Bool :=
  let pd := pendL P ops d
  let rem := remL ops d
  let N := ops.size
  decide (pd.length + rem.length = N) &&
  (List.range N).all (fun i => d.bx.contains i || d.perm.contains i) && d.bx.all (fun i => decide (i < N)) && d.perm.all (fun i => decide (i < N)) &&
  (List.range N).all (fun i => match ops[i]? with
    | some o => (d.M.getD i []).all (fun j => decide (j < N) && o.after.toList.any fun e => Region.binds .any e && decide (e.on < N) && (e.on == j || d.B e.on j)) &&
        o.after.toList.all (fun e => !Region.binds .any e || decide (e.on < i))
    | none => false) &&
  pairB (aheadB ops d.B) rem &&
  rem.all (fun q => notLoc loc q.2 && (match q.2.dst with | some i => decide (i < n) | none => true) &&
    pd.all (fun p => d.B q.1 p.i || (!(q.2.looksAt ops).contains p.s && q.2.dst != some p.s))) &&
  pd.all (pendB P loc ops n) && pairB (fun p q => p.i != q.i && p.s != q.s) pd && pd.all (fun p => rem.all fun q => p.i != q.1)

theorem mkPend_i (P : Program) (ops : Array Oper) (i : Nat) : (mkPend P ops i).i = i := by unfold mkPend; split <;> rfl
theorem mkPend_z {P : Program} {loc : List Nat} {ops : Array Oper} {n i : Nat} (h : pendB P loc ops n (mkPend P ops i) = true) : PendOK P loc ops (mkPend P ops i) ∧ (mkPend P ops i).s < n := by
  unfold pendB at h
  rw [mkPend_i] at h
  split at h
  rotate_left
  · simp at h
  rename_i o ho
  simp only [Bool.and_eq_true, beq_iff_eq, Option.isNone_iff_eq_none, decide_eq_true_eq] at h
  obtain ⟨⟨⟨⟨⟨h1, h2⟩, h3⟩, h4⟩, h5⟩, h6⟩ := h
  split at h1
  rotate_left
  · simp at h1
  rename_i e he
  rw [beq_iff_eq] at h1
  refine ⟨⟨⟨o, by rw [mkPend_i]; exact ho, by rw [he, h1], h2, h3⟩, ?_⟩, h5⟩
  obtain ⟨dst, op, type, pos, after, guard⟩ := o
  simp only at he h2
  subst he
  cases dst with
  | none => simp at h2
  | some s =>
    have : mkPend P ops i = ⟨i, s, e, (zeroT P e).getD []⟩ := by simp only [mkPend, ho]
    rw [this] at h6 ⊢
    simp only at h6 ⊢
    cases hz : zeroT P e with
    | none => rw [hz] at h6; simp at h6
    | some z => rfl

theorem drawOK_left {loc : List Nat} {n : Nat} {ops : Array Oper} {d : DrawInfo} (h : drawOK P loc n ops d = true) :
    ops.size = (pendL P ops d).length + (remL ops d).length ∧ Left P loc ops d.B n (Array.replicate ops.size false) (pendL P ops d) (remL ops d) := by
  unfold drawOK at h
  simp only [Bool.and_eq_true] at h
  obtain ⟨⟨⟨⟨⟨⟨⟨⟨⟨c1, c2⟩, c3⟩, c4⟩, c5⟩, c6⟩, c7⟩, c8⟩, c9⟩, c10⟩ := h
  have hget : ∀ i, i < ops.size → (Array.replicate ops.size false).getD i true = false := fun i hi => by
    simp [Array.getD_eq_getD_getElem?, hi]
  refine ⟨(of_decide_eq_true c1).symm, by simp, fun i hi => ⟨fun _ => ?_, fun _ => hget i hi⟩, fun i j hij _ _ hi => (by rw [hget i hi] at hij; cases hij), fun i j hB hi => ?_, fun i o ho e he hb => ?_,
    pairB_ok (fun x y => aheadB_ok) _ c6, fun q hq => ?_, fun p hp => ?_, pairB_ok (fun x y hxy => ?_) _ c9, fun p hp q hq => ?_⟩
  · have := List.all_eq_true.1 c2 i (List.mem_range.2 hi)
    rw [Bool.or_eq_true] at this
    rcases this with q | q
    · exact .inl ⟨mkPend P ops i, List.mem_map.2 ⟨i, by simpa using q, rfl⟩, mkPend_i P ops i⟩
    · exact .inr ⟨(i, ops.getD i default), List.mem_map.2 ⟨i, by simpa using q, rfl⟩, rfl⟩
  · have := List.all_eq_true.1 c5 i (List.mem_range.2 hi)
    rw [Array.getElem?_eq_getElem hi] at this
    simp only [Bool.and_eq_true] at this
    have hj := List.all_eq_true.1 this.1 j (by simpa [DrawInfo.B] using hB)
    rw [Bool.and_eq_true] at hj
    obtain ⟨e, he, hb⟩ := List.any_eq_true.1 hj.2
    simp only [Bool.and_eq_true, Bool.or_eq_true, beq_iff_eq, decide_eq_true_eq] at hb
    exact ⟨of_decide_eq_true hj.1, ops[i], by simp [hi], e, by simpa using he, hb.1.1, hb.1.2, hb.2⟩
  · have hi : i < ops.size := by rcases Nat.lt_or_ge i ops.size with z | z; exact z; rw [Array.getElem?_eq_none z] at ho; cases ho
    have := List.all_eq_true.1 c5 i (List.mem_range.2 hi)
    rw [ho] at this
    simp only [Bool.and_eq_true] at this
    have h2 := List.all_eq_true.1 this.2 e (by simpa using he)
    rw [hb] at h2
    simpa using h2
  · have h1 := List.all_eq_true.1 c7 q hq
    simp only [Bool.and_eq_true] at h1
    obtain ⟨⟨h1, h2⟩, h3⟩ := h1
    obtain ⟨i, hi, rfl⟩ := List.mem_map.1 hq
    have hlt := of_decide_eq_true (List.all_eq_true.1 c4 i hi)
    refine ⟨by simp [Array.getD_eq_getD_getElem?, hlt], h1, fun k hk => ?_, fun p hp hB => ?_⟩
    · simp only at hk h2; rw [hk] at h2; exact of_decide_eq_true h2
    · have := List.all_eq_true.1 h3 p hp
      simp only at this hB
      rw [hB, Bool.false_or, Bool.and_eq_true, bne_iff_ne] at this
      refine ⟨fun hm => ?_, this.2⟩
      have := this.1
      rw [Bool.not_eq_true', List.contains_eq_mem, decide_eq_false_iff_not] at this
      exact this hm
  · have h1 := List.all_eq_true.1 c8 p hp
    obtain ⟨i, hi, rfl⟩ := List.mem_map.1 hp
    exact mkPend_z h1
  · rw [Bool.and_eq_true, bne_iff_ne, bne_iff_ne] at hxy; exact hxy
  · have := List.all_eq_true.1 (List.all_eq_true.1 c10 p hp) q hq
    simpa using this

/-! ### the state in which a drawn region is told: its boxes are made -/
def enterT (pd : List Pend) (T : Fr) : Fr := fun j =>
  match pd.find? (fun p => p.s == j) with
  | some p => some (.pointer (some ⟨p.s, 0, some 0⟩))
  | none => match T j with
    | some v => match locOf v with
      | some s => if pd.any (fun p => p.s == s) then none else some v
      | none => some v
    | none => none
def enterX (pd : List Pend) (x : Boxes) : Boxes := fun j =>
  match pd.find? (fun p => p.s == j) with
  | some p => some (p.e, p.z)
  | none => x j
def enterD (pd : List Pend) (σ : St) : St := match pd with
  | [] => σ
  | p :: r => ⟨enterT (p :: r) σ.t, ⟨enterX (p :: r) σ.m.x, σ.m.h⟩⟩

theorem find_none {pd : List Pend} {j : Nat} (h : ∀ p ∈ pd, p.s ≠ j) : pd.find? (fun p => p.s == j) = none := by
  rw [List.find?_eq_none]; intro p hp; simpa using h p hp
theorem find_some {pd : List Pend} (hpw : pd.Pairwise fun p q => p.i ≠ q.i ∧ p.s ≠ q.s) {p : Pend} (hp : p ∈ pd) : pd.find? (fun q => q.s == p.s) = some p := by
  induction pd with
  | nil => simp at hp
  | cons q r ih =>
    rw [List.find?_cons]
    rcases List.mem_cons.1 hp with e | e
    · subst e; simp
    · have hne := ((List.pairwise_cons.1 hpw).1 p e).2
      have : (q.s == p.s) = false := by simpa using hne
      rw [this]
      exact ih (List.pairwise_cons.1 hpw).2 e

/-- boxes may be forgotten, or change where nothing stands for them -/
theorem Inv.forget (I : Inv P ρ0 h0 w0 ρ m w) {ρ1 : Rho} {x1 : Boxes} (hf : ∀ b, ρ1 (false, b) = ρ (false, b)) (hb : ∀ s pl, ρ1 (true, s) = some pl → ρ (true, s) = some pl ∧ (x1 s = m.x s ∨ x1 s = none)) :
    Inv P ρ0 h0 w0 ρ1 ⟨x1, m.h⟩ w := by
  have hback : ∀ {k pl}, ρ1 k = some pl → ρ k = some pl := fun {k pl} h => by
    obtain ⟨t, b⟩ := k
    cases t
    · rw [← hf]; exact h
    · exact (hb b pl h).1
  have hmono : ∀ {v u}, VR ρ v u → VR ρ1 v u := fun {v u} h => h.mono fun b pl q => by rw [hf]; exact q
  have hrow : ∀ {k pl r}, ρ1 k = some pl → (Mem.mk x1 m.h).row? k = some r → m.row? k = some r := fun {k pl r} h q => by
    obtain ⟨t, b⟩ := k
    cases t
    · exact q
    · simp only [Mem.row?, Boxes.look] at q ⊢
      rcases (hb b pl h).2 with z | z
      · rw [z] at q; exact q
      · rw [z] at q; simp at q
  have hlive : ∀ {k pl}, ρ1 k = some pl → (Mem.mk x1 m.h).live k → m.live k := fun {k pl} h q => by
    obtain ⟨t, b⟩ := k
    cases t
    · exact q
    · simp only [Mem.live, Boxes.look] at q ⊢
      rcases (hb b pl h).2 with z | z
      · rw [z] at q; exact q
      · rw [z] at q; simp at q
  have hwr : ∀ {k pl}, ρ1 k = some pl → (Mem.mk x1 m.h).wr k → m.wr k := fun {k pl} h q => by
    obtain ⟨t, b⟩ := k
    cases t
    · exact q
    · simp only [Mem.wr, Boxes.look] at q ⊢
      rcases (hb b pl h).2 with z | z
      · rw [z] at q; exact q
      · rw [z] at q; simp at q
  refine ⟨⟨fun k pl h => I.rel.bound k pl (hback h), fun b pl h => I.rel.dom b pl (hback h), fun k pl wr e cs h hr => ?_, fun b pl o h ho => I.rel.obj b pl o (hback h) ho,
    fun k k' pl pl' hne h h' hw hl => I.rel.sep k k' pl pl' hne (hback h) (hback h') (hwr h hw) (hlive h' hl), fun i hi => let ⟨pl, q1, q2⟩ := I.rel.glob i hi; ⟨pl, by rw [hf]; exact q1, q2⟩⟩,
    ⟨I.tr.os, I.tr.tape, I.tr.output, I.tr.drawn, I.tr.size, fun b pl h => by rw [hf]; exact I.tr.ext b pl h, I.tr.hn, I.tr.hg, fun b pl h h' => I.tr.new b pl (hback h) h', I.tr.dead, I.tr.wrd, I.tr.frame⟩,
    fun s pl h => I.box s pl (hback h), I.dom0⟩
  obtain ⟨C, e', fz, c1, c2, c3, c4, c5, c6⟩ := I.rel.row _ _ _ _ _ (hback h) (hrow h hr)
  exact ⟨C, e', fz, c1, c2, c3, c4, c5, fun i v hi => let ⟨v', q1, q2⟩ := c6 i v hi; ⟨v', q1, hmono q2⟩⟩

theorem enterD_ok {n : Nat} {pd : List Pend} (hpw : pd.Pairwise fun p q => p.i ≠ q.i ∧ p.s ≠ q.s) {σ : St} {a : Act} (C : Con P ρ0 h0 w0 n σ a w) : ConD P ρ0 h0 w0 n pd (enterD pd σ) a w := by
  obtain ⟨ρ, I, F, hs, hd⟩ := C
  cases hpd : pd with
  | nil => exact ⟨ρ, I, fun i v hi => F i v (by have h2 : hideP [] σ.t i = some v := hi; simp only [hideP, List.any_nil, Bool.false_eq_true, if_false] at h2; exact h2), hs, hd, by simp⟩
  | cons p0 r0 =>
    rw [← hpd]
    have he : enterD pd σ = ⟨enterT pd σ.t, ⟨enterX pd σ.m.x, σ.m.h⟩⟩ := by rw [hpd]; rfl
    rw [he]
    refine ⟨fun k => if k.1 = true ∧ (pd.any fun p => p.s == k.2) = true then none else ρ k, ?_, ?_, hs, hd, fun p hp => ⟨?_, ?_, ?_⟩⟩
    · refine I.forget (fun b => by simp) fun s pl h => ?_
      simp only [true_and] at h
      split at h
      · simp at h
      · rename_i hno
        refine ⟨h, .inl ?_⟩
        have : ∀ p ∈ pd, p.s ≠ s := fun p hp e => hno (List.any_eq_true.2 ⟨p, hp, by simp [e]⟩)
        simp only [enterX, find_none this]
    · intro j v hj
      simp only [Fr.get] at hj
      by_cases hex : ∃ p ∈ pd, p.s = j
      · rw [hideP_in hex] at hj; simp at hj
      · have hno : ∀ p ∈ pd, p.s ≠ j := fun p hp e => hex ⟨p, hp, e⟩
        rw [hideP_out hno] at hj
        simp only [enterT, find_none hno] at hj
        cases hT : σ.t j with
        | none => rw [hT] at hj; simp at hj
        | some u =>
          rw [hT] at hj
          simp only at hj
          obtain ⟨u', q1, q2⟩ := F j u hT
          have : u = v ∧ ∀ s, locOf u = some s → (pd.any fun p => p.s == s) = false := by
            split at hj
            · rename_i s hs'
              split at hj
              · simp at hj
              · rename_i hnn; exact ⟨Option.some.inj hj, fun s2 hs2 => by rw [hs'] at hs2; obtain rfl := Option.some.inj hs2; simpa using hnn⟩
            · rename_i hnone; exact ⟨Option.some.inj hj, fun s hs' => by rw [hnone] at hs'; cases hs'⟩
          obtain ⟨rfl, hloc⟩ := this
          refine ⟨u', q1, ?_⟩
          cases q2 with
          | val _ _ q => exact .val _ _ (q.mono fun b pl z => by simpa using z)
          | loc s off x pl z =>
            have := hloc s rfl
            exact .loc s off x pl (by simp only [this]; simpa using z)
    · have : (pd.any fun q => q.s == p.s) = true := List.any_eq_true.2 ⟨p, hp, by simp⟩
      simp [this]
    · simp only [enterX, find_some hpw hp]
    · simp only [enterT, find_some hpw hp]
end
end Go.Am
