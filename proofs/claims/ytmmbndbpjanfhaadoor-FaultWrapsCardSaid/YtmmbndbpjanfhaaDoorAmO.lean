/- The abstract machine, part O: what is used when a body is walked. -/
import Derived.Test.YtmmbndbpjanfhaaDoorAmN
set_option linter.unusedVariables false
set_option linter.unusedSimpArgs false
set_option linter.unusedSectionVars false
namespace Go.Am
open Go

section
variable {P : Program} {loc : List Nat} {ops : Array Oper} {cfg : Cfg}

theorem vcOps_to {Q Q' : St → Prop} (hq : ∀ σ, Q σ → Q' σ) : ∀ (l : List Oper) (σ : St), vcOps P loc ops Q l σ → vcOps P loc ops Q' l σ := by
  intro l
  induction l with
  | nil => intro σ h; exact hq _ h
  | cons o r ih =>
    intro σ h
    simp only [vcOps] at h ⊢
    split at h
    · exact h.elim
    · exact ih _ h
    · split at h
      · exact h.mono fun v h' q n => ih _ (q n)
      · split at h
        · exact ih _ h
        · exact h.elim
theorem vcH_to {Q Q' : St → Prop} {B : Nat → Nat → Bool} (hq : ∀ σ, Q σ → Q' σ) : ∀ (l : List (Nat × Oper)) (hl : HL) (σ : St), vcH P loc ops B Q hl l σ → vcH P loc ops B Q' hl l σ := by
  intro l
  induction l with
  | nil => intro hl σ h; exact hq _ h
  | cons p r ih =>
    intro hl σ h
    obtain ⟨i, o⟩ := p
    simp only [vcH] at h ⊢
    split at h
    · rename_i hn
      rw [if_pos hn]
      split at h
      · exact ih _ _ h
      · exact h.elim
    · rename_i hn
      rw [if_neg hn]
      split at h
      · exact h.elim
      · exact ih _ _ h
      · split at h
        · exact h.mono fun v h' q n => ⟨(q n).1, ih _ _ (q n).2⟩
        · split at h
          · exact ⟨h.1, ih _ _ h.2⟩
          · exact h.elim
theorem altH_to {Q Q' : St → Prop} {B : Nat → Nat → Bool} (hq : ∀ σ, Q σ → Q' σ) : ∀ (l : List (List Nat)) (σ : St), altH P loc ops B Q l σ → altH P loc ops B Q' l σ := by
  intro l
  induction l with
  | nil => intro σ h; exact h
  | cons x r ih => intro σ h; exact ⟨vcH_to hq _ _ _ h.1, ih σ h.2⟩
theorem vcIter_to {vb : (Ex → St → Prop) → St → Prop} (hvb : ∀ {Q Q' : Ex → St → Prop}, (∀ e σ, Q e σ → Q' e σ) → ∀ σ, vb Q σ → vb Q' σ) {Q Q' : Ex → St → Prop} (hq : ∀ e σ, Q e σ → Q' e σ) :
    ∀ n σ, vcIter vb Q n σ → vcIter vb Q' n σ := by
  intro n
  induction n with
  | zero => intro σ h; exact h
  | succ n ih =>
    intro σ h
    refine hvb (fun e σ' h' => ?_) σ h
    cases e with
    | normal => exact ih _ h'
    | exit i => exact hq _ _ h'
    | ret => exact hq _ _ h'
theorem vc_to : ∀ (c : Code) {Q Q' : Ex → St → Prop}, (∀ e σ, Q e σ → Q' e σ) → ∀ σ, vc P cfg c Q σ → vc P cfg c Q' σ := by
  intro c
  induction c with
  | skip => intro Q Q' hq σ h; exact hq _ _ h
  | region id ops draw =>
    intro Q Q' hq σ h
    cases draw with
    | false => exact vcOps_to (fun σ => hq _ _) _ _ h
    | true => exact altH_to (fun σ => hq _ _) _ _ h
  | seq a b iha ihb =>
    intro Q Q' hq σ h
    refine iha (fun e σ' h' => ?_) σ h
    cases e with
    | normal => exact ihb hq _ h'
    | exit i => exact hq _ _ h'
    | ret => exact hq _ _ h'
  | cond c a b iha ihb =>
    intro Q Q' hq σ h
    simp only [vc] at h ⊢
    split at h
    · rename_i t ht
      cases t with
      | true => rw [if_pos rfl] at h ⊢; exact iha hq _ h
      | false => rw [if_neg (by simp)] at h ⊢; exact ihb hq _ h
    · exact h.elim
  | block i b ih =>
    intro Q Q' hq σ h
    refine ih (fun e σ' h' => ?_) σ h
    cases e with
    | normal => exact hq _ _ h'
    | ret => exact hq _ _ h'
    | exit j =>
      simp only [blockQ] at h' ⊢
      by_cases e : j = i
      · rw [if_pos e] at h' ⊢; exact hq _ _ h'
      · rw [if_neg e] at h' ⊢; exact hq _ _ h'
  | loop b ih =>
    intro Q Q' hq σ h
    obtain ⟨n, h⟩ := h
    exact ⟨n, vcIter_to (fun hq σ h => ih hq σ h) hq n σ h⟩
  | exit i => intro Q Q' hq σ h; exact hq _ _ h
  | ret => intro Q Q' hq σ h; exact hq _ _ h
  | _ => intro Q Q' hq σ h; exact h.elim

/-- the rule of loops: an invariant with a measure -/
theorem vc_loop {b : Code} {Q : Ex → St → Prop} {σ : St} (J : Nat → St → Prop) (n : Nat) (h0 : J n σ)
    (step : ∀ k σ, J k σ → vc P cfg b (thenQ (fun σ' => ∃ j, j < k ∧ J j σ') Q) σ) : vc P cfg (.loop b) Q σ := by
  refine ⟨n + 1, ?_⟩
  have key : ∀ m n σ, n < m → J n σ → vcIter (vc P cfg b) Q m σ := by
    intro m
    induction m with
    | zero => intro n σ h; omega
    | succ m ih =>
      intro n σ hn hJ
      refine vc_to b (fun e σ' h' => ?_) σ (step n σ hJ)
      cases e with
      | normal => obtain ⟨j, hj, h'⟩ := h'; exact ih j σ' (by omega) h'
      | exit i => exact h'
      | ret => exact h'
  exact key (n + 1) n σ (by omega) h0

/-! ### frames -/
theorem get_put (T : Fr) (i j : Nat) (v : Value) : (T.put i v).get j = if i = j then some v else T.get j := rfl
theorem get_cons (i j : Nat) (v : Option Value) (l : List (Nat × Option Value)) : (Fr.ofList ((i, v) :: l)).get j = if i = j then v else (Fr.ofList l).get j := rfl
theorem get_nil (j : Nat) : (Fr.ofList []).get j = none := rfl
theorem prune_eq (T : Fr) (l : List Nat) : T.prune l = Fr.ofList (l.map fun i => (i, T.get i)) := rfl
theorem look_set (x : Boxes) (i j : Nat) (v : TypeId × List Value) : (x.set i v).look j = if i = j then some v else x.look j := rfl
theorem look_cons (i j : Nat) (v : Option (TypeId × List Value)) (l : List (Nat × Option (TypeId × List Value))) : (Boxes.ofList ((i, v) :: l)).look j = if i = j then v else (Boxes.ofList l).look j := rfl
theorem look_nil (j : Nat) : (Boxes.ofList []).look j = none := rfl
theorem look_nil' (j : Nat) : Boxes.nil.look j = none := rfl
theorem bprune_eq (x : Boxes) (l : List Nat) : x.prune l = Boxes.ofList (l.map fun i => (i, x.look i)) := rfl
theorem f_new (h : Heap) (x : Blk) (b : Nat) : (h.new x).f b = if b = h.n then x else h.f b := rfl
theorem n_new (h : Heap) (x : Blk) : (h.new x).n = h.n + 1 := rfl
theorem g_new (h : Heap) (x : Blk) : (h.new x).g = h.g := rfl
theorem f_set (h : Heap) (a : Nat) (x : Blk) (b : Nat) : (h.set a x).f b = if b = a then x else h.f b := rfl
theorem n_set (h : Heap) (a : Nat) (x : Blk) : (h.set a x).n = h.n := rfl
theorem g_set (h : Heap) (a : Nat) (x : Blk) : (h.set a x).g = h.g := rfl
theorem get_enterT (p : Pend) (pd : List Pend) (T : Fr) (j : Nat) : (enterT (p :: pd) T).get j = match (p :: pd).find? (fun p => p.s == j) with
  | some p => some (.pointer (some ⟨p.s, 0, some 0⟩))
  | none => match T.get j with
    | some v => match locOf v with
      | some s => if (p :: pd).any (fun p => p.s == s) then none else some v
      | none => some v
    | none => none := rfl
theorem look_enterX (p : Pend) (pd : List Pend) (x : Boxes) (j : Nat) : (enterX (p :: pd) x).look j = match (p :: pd).find? (fun p => p.s == j) with
  | some p => some (p.e, p.z)
  | none => x.look j := rfl

/-! ### the heap, as a caller sees it -/
/-- nothing of the elder heap is changed -/
structure Ext (h h' : Heap) : Prop where
  g : h'.g = h.g
  n : h.n ≤ h'.n
  f : ∀ b, b < h.n → h'.f b = h.f b
theorem Ext.rfl' (h : Heap) : Ext h h := ⟨rfl, Nat.le_refl _, fun _ _ => rfl⟩
theorem Ext.trans {h h' h'' : Heap} (a : Ext h h') (b : Ext h' h'') : Ext h h'' :=
  ⟨b.g.trans a.g, Nat.le_trans a.n b.n, fun i hi => (b.f i (Nat.lt_of_lt_of_le hi a.n)).trans (a.f i hi)⟩
theorem Ext.new (h : Heap) (x : Blk) : Ext h (h.new x) := ⟨rfl, Nat.le_succ _, fun i hi => by rw [f_new, if_neg (by omega)]⟩
theorem Ext.newOf {h h' : Heap} (a : Ext h h') (x : Blk) : Ext h (h'.new x) := a.trans (Ext.new h' x)
theorem Ext.setOf {h h' : Heap} (a : Ext h h') {b : Nat} (hb : h.n ≤ b) (x : Blk) : Ext h (h'.set b x) :=
  ⟨a.g, a.n, fun i hi => by rw [f_set, if_neg (by omega)]; exact a.f i hi⟩

/-! ### texts -/
def B (l : List UInt8) : ByteArray := ⟨⟨l⟩⟩
theorem B_of (s : ByteArray) : s = B s.data.toList := rfl
theorem B_size (l : List UInt8) : (B l).size = l.length := rfl
theorem B_get (l : List UInt8) (i : Nat) : (B l)[i]? = l[i]? := by
  by_cases h : i < l.length
  · rw [List.getElem?_eq_getElem h, getElem?_pos (B l) i (by simpa [B_size] using h)]; rfl
  · rw [List.getElem?_eq_none (by omega), getElem?_neg (B l) i (by simpa [B_size] using h)]
theorem B_extract (l : List UInt8) (i j : Nat) : (B l).extract i j = B ((l.take j).drop i) := by
  apply ByteArray.ext
  apply Array.ext'
  simp [B, List.take_drop]
  by_cases h : i ≤ j
  · rw [show i + (j - i) = j by omega]
  · rw [List.drop_eq_nil_of_le (by simp; omega), List.drop_eq_nil_of_le (by simp; omega)]
theorem B_append (l k : List UInt8) : B l ++ B k = B (l ++ k) := by
  apply ByteArray.ext
  simp [B]
theorem B_inj (l k : List UInt8) : B l = B k ↔ l = k := ⟨fun h => by simpa [B] using h, fun h => by rw [h]⟩
end
end Go.Am
