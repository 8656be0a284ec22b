/- The abstract machine, part M: code. -/
import Derived.Test.YtmmbndbpjanfhaaDoorAmL
set_option linter.unusedVariables false
set_option linter.unusedSimpArgs false
set_option linter.unusedSectionVars false
namespace Go.Am
open Go

section
variable {P : Program} {ρ0 ρ ρ' : Rho} {h0 : Heap} {w0 w : World} {m : Mem}

/-! ### what is said of a function's code beside it -/
/-- of a region that draws: its boxes, the order in which it is told, who stands behind whom, further orders: one for each order of those that change memory -/
structure DrawInfo where
  bx : List Nat
  perm : List Nat
  M : List (List Nat)
  alts : List (List Nat)
def DrawInfo.perms (d : DrawInfo) : List (List Nat) := d.perm :: d.alts
structure Cfg where
  loc : List Nat
  keep : Nat → List Nat
  draw : Nat → DrawInfo

def DrawInfo.B (d : DrawInfo) (i j : Nat) : Bool := (d.M.getD i []).contains j
def mkPend (P : Program) (ops : Array Oper) (i : Nat) : Pend :=
  match ops[i]? with
  | some ⟨some s, .alloc e, _, _, _, _⟩ => ⟨i, s, e, (zeroT P e).getD []⟩
  | _ => ⟨i, 0, 0, []⟩
def pendL (P : Program) (ops : Array Oper) (d : DrawInfo) : List Pend := d.bx.map (mkPend P ops)
def remP (ops : Array Oper) (pm : List Nat) : List (Nat × Oper) := pm.map fun i => (i, ops.getD i default)

def movesB (ops : Array Oper) (p q : Nat × Oper) : Bool := clsN p.2.op &&
    (match p.2.dst with | some d => !(q.2.looksAt ops).contains d && q.2.dst != some d | none => true) &&
    (match q.2.dst with | some d => !(p.2.looksAt ops).contains d | none => true)
def aheadB (ops : Array Oper) (B : Nat → Nat → Bool) (Wl : List Nat) (p q : Nat × Oper) : Bool :=
  p.1 != q.1 && (B q.1 p.1 || (!clsN p.2.op && !clsN q.2.op) || movesB ops p q || Wl.any fun r => r != q.1 && B q.1 r && [p.1, r].isSublist Wl)
theorem aheadB_ok {ops : Array Oper} {B : Nat → Nat → Bool} {Wl : List Nat} {p q : Nat × Oper} (h : aheadB ops B Wl p q = true) : aheadOK ops B Wl p q := by
  unfold aheadB at h
  rw [Bool.and_eq_true, bne_iff_ne] at h
  refine ⟨h.1, fun hB => ?_⟩
  have h2 := h.2
  rw [hB, Bool.false_or, Bool.or_eq_true, Bool.or_eq_true] at h2
  rcases h2 with (h2 | h2) | h2
  · rw [Bool.and_eq_true, Bool.not_eq_true', Bool.not_eq_true'] at h2
    exact .inl h2
  rotate_left
  · obtain ⟨r, _, hr⟩ := List.any_eq_true.1 h2
    rw [Bool.and_eq_true, Bool.and_eq_true, bne_iff_ne] at hr
    exact .inr (.inr ⟨r, hr.1.1, hr.1.2, List.isSublist_iff_sublist.1 hr.2⟩)
  refine .inr (.inl ?_)
  unfold movesB at h2
  rw [Bool.and_eq_true, Bool.and_eq_true] at h2
  obtain ⟨⟨a1, a2⟩, a3⟩ := h2
  refine ⟨a1, fun d hd => ?_, fun d hd => ?_, fun d hd => ?_⟩
  · rw [hd] at a2; simp only [Bool.and_eq_true, Bool.not_eq_true'] at a2
    intro hm; have := a2.1; rw [List.contains_eq_mem, decide_eq_false_iff_not] at this; exact this hm
  · rw [hd] at a2; simp only [Bool.and_eq_true, bne_iff_ne] at a2; exact a2.2
  · rw [hd] at a3; simp only [Bool.not_eq_true'] at a3
    intro hm; rw [List.contains_eq_mem, decide_eq_false_iff_not] at a3; exact a3 hm
def pairB {α : Type} (f : α → α → Bool) : List α → Bool
  | [] => true
  | x :: r => r.all (f x) && pairB f r
theorem pairB_ok {α : Type} {f : α → α → Bool} {R : α → α → Prop} (hf : ∀ x y, f x y = true → R x y) : ∀ l : List α, pairB f l = true → l.Pairwise R := by
  intro l
  induction l with
  | nil => intro _; exact .nil
  | cons x r ih =>
    intro h
    rw [pairB, Bool.and_eq_true] at h
    exact .cons (fun y hy => hf x y (List.all_eq_true.1 h.1 y hy)) (ih h.2)

def pendB (P : Program) (loc : List Nat) (ops : Array Oper) (n : Nat) (p : Pend) : Bool :=
  match ops[p.i]? with
  | some o => (match o.op with | .alloc e => e == p.e | _ => false) && o.dst == some p.s && o.guard.isNone && loc.contains p.s && decide (p.s < n) && (zeroT P p.e).isSome
  | none => false
/-- those that change memory and are no boxes -/
def wB (ops : Array Oper) (d : DrawInfo) (i : Nat) : Bool := !d.bx.contains i && !clsN (ops.getD i default).op
/-- all orders of X that are let in -/
def exts (B : Nat → Nat → Bool) : Nat → List Nat → List (List Nat)
  | 0, _ => [[]]
  | n + 1, X => if X.isEmpty then [[]] else X.flatMap fun x => if (X.erase x).all (fun y => !B x y) then (exts B n (X.erase x)).map (x :: ·) else []
def edgesB (ops : Array Oper) (d : DrawInfo) : Bool :=
  (List.range ops.size).all (fun i => match ops[i]? with
    | some o => (d.M.getD i []).all (fun j => decide (j < ops.size) && o.after.toList.any fun e => Region.binds .any e && decide (e.on < ops.size) && (e.on == j || d.B e.on j)) &&
        o.after.toList.all (fun e => !Region.binds .any e || decide (e.on < i))
    | none => false)
def drawOK1 (P : Program) (loc : List Nat) (n : Nat) (ops : Array Oper) (d : DrawInfo) (pm : List Nat) : Bool :=
  let pd := pendL P ops d
  let rem := remP ops pm
  let N := ops.size
  (List.range N).all (fun i => d.bx.contains i || pm.contains i) && d.bx.all (fun i => decide (i < N)) && pm.all (fun i => decide (i < N)) &&
  pairB (aheadB ops d.B (pm.filter (wB ops d))) rem &&
  rem.all (fun q => notLoc loc q.2 && (match q.2.dst with | some i => decide (i < n) | none => true) &&
    pd.all (fun p => d.B q.1 p.i || (!(q.2.looksAt ops).contains p.s && q.2.dst != some p.s))) &&
  pd.all (pendB P loc ops n) && pairB (fun p q => p.i != q.i && p.s != q.s) pd && pd.all (fun p => rem.all fun q => p.i != q.1)
def drawOK (P : Program) (loc : List Nat) (n : Nat) (ops : Array Oper) (d : DrawInfo) : Bool :=
  edgesB ops d && d.perms.all (drawOK1 P loc n ops d) &&
  (exts d.B ops.size ((List.range ops.size).filter (wB ops d))).all (fun e => d.perms.any fun pm => pm.filter (wB ops d) == e)

/-! ### the orders that are drawn -/
theorem ready_spec {ops : Array Oper} {listed : Array Bool} {i : Nat} : i ∈ Region.ready .any ops listed ↔
    i < ops.size ∧ listed.getD i true = false ∧ ∃ o, ops[i]? = some o ∧ ∀ e ∈ o.after, Region.binds .any e = true → listed.getD e.on false = true := by
  unfold Region.ready
  rw [List.mem_filter, List.mem_range]
  constructor
  · rintro ⟨h1, h2⟩
    rw [Bool.and_eq_true] at h2
    obtain ⟨h2, h3⟩ := h2
    refine ⟨h1, by simpa using h2, ops[i], by simp [h1], ?_⟩
    simp only [Array.getElem?_eq_getElem h1, Option.map_some, Option.getD_some] at h3
    rw [Array.all_eq_true_iff_forall_mem] at h3
    intro e he hb
    have := h3 e he
    rw [hb] at this
    simpa using this
  · rintro ⟨h1, h2, o, h3, h4⟩
    refine ⟨h1, ?_⟩
    rw [Bool.and_eq_true]
    refine ⟨by rw [h2]; rfl, ?_⟩
    rw [h3]
    simp only [Option.map_some, Option.getD_some]
    rw [Array.all_eq_true_iff_forall_mem]
    intro e he
    cases hb : Region.binds .any e with
    | false => rfl
    | true => rw [h4 e he hb]; rfl
theorem getD_set (l : Array Bool) (i j : Nat) (h : i < l.size) : (l.setIfInBounds i true).getD j true = if i = j then true else l.getD j true := by
  simp only [Array.getD_eq_getD_getElem?]
  by_cases hij : i = j
  · subst hij; rw [Array.getElem?_setIfInBounds_self_of_lt h]; simp
  · rw [Array.getElem?_setIfInBounds_ne hij, if_neg hij]

structure EdgesOK (ops : Array Oper) (B : Nat → Nat → Bool) : Prop where
  edge : ∀ i j, B i j = true → i < ops.size → j < ops.size ∧ ∃ o, ops[i]? = some o ∧ ∃ e ∈ o.after, Region.binds .any e = true ∧ e.on < ops.size ∧ (e.on = j ∨ B e.on j = true)
  back : ∀ i o, ops[i]? = some o → ∀ e ∈ o.after, Region.binds .any e = true → e.on < i
theorem edgesB_ok {ops : Array Oper} {d : DrawInfo} (h : edgesB ops d = true) : EdgesOK ops d.B := by
  unfold edgesB at h
  refine ⟨fun i j hB hi => ?_, fun i o ho e he hb => ?_⟩
  · have := List.all_eq_true.1 h i (List.mem_range.2 hi)
    rw [Array.getElem?_eq_getElem hi] at this
    simp only [Bool.and_eq_true] at this
    have hj := List.all_eq_true.1 this.1 j (by simpa [DrawInfo.B] using hB)
    rw [Bool.and_eq_true] at hj
    obtain ⟨e, he, hb⟩ := List.any_eq_true.1 hj.2
    simp only [Bool.and_eq_true, Bool.or_eq_true, beq_iff_eq, decide_eq_true_eq] at hb
    exact ⟨of_decide_eq_true hj.1, ops[i], by simp [hi], e, by simpa using he, hb.1.1, hb.1.2, hb.2⟩
  · have hi : i < ops.size := by rcases Nat.lt_or_ge i ops.size with z | z; exact z; rw [Array.getElem?_eq_none z] at ho; cases ho
    have := List.all_eq_true.1 h i (List.mem_range.2 hi)
    rw [ho] at this
    simp only [Bool.and_eq_true] at this
    have h2 := List.all_eq_true.1 this.2 e (by simpa using he)
    rw [hb] at h2
    simpa using h2
theorem ready_some {ops : Array Oper} {B : Nat → Nat → Bool} {listed : Array Bool} (E : EdgesOK ops B) (hs : listed.size = ops.size) : ∀ k i, i ≤ k → i < ops.size → listed.getD i true = false → ∃ i, i ∈ Region.ready .any ops listed := by
  intro k
  induction k with
  | zero =>
    intro i hik hi hl
    have : i = 0 := by omega
    subst this
    refine ⟨0, ready_spec.2 ⟨hi, hl, ops[0], by simp [hi], fun e he hb => ?_⟩⟩
    exact absurd (E.back 0 _ (Array.getElem?_eq_getElem hi) e he hb) (Nat.not_lt_zero _)
  | succ k ihk =>
    intro i hik hi hl
    by_cases hall : ∀ e ∈ ops[i].after, Region.binds .any e = true → listed.getD e.on false = true
    · exact ⟨i, ready_spec.2 ⟨hi, hl, ops[i], by simp [hi], hall⟩⟩
    · have : ∃ e, e ∈ ops[i].after ∧ Region.binds .any e = true ∧ listed.getD e.on false ≠ true := by
        apply Classical.byContradiction
        intro hno
        exact hall fun e he hb => Classical.byContradiction fun hne => hno ⟨e, he, hb, hne⟩
      obtain ⟨e, he, hb, hne⟩ := this
      have hlt := E.back i _ (Array.getElem?_eq_getElem hi) e he hb
      have hes : e.on < listed.size := by rw [hs]; omega
      refine ihk e.on (by omega) (by omega) ?_
      simp only [Array.getD_eq_getD_getElem?, Array.getElem?_eq_getElem hes, Option.getD_some] at hne ⊢
      simpa using hne
theorem count_lt {α : Type} {p q : α → Bool} {x : α} (hpq : ∀ y, p y = true → q y = true) (hq : q x = true) (hp : p x = false) : ∀ l : List α, x ∈ l → l.countP p < l.countP q := by
  intro l
  have hle : ∀ l : List α, l.countP p ≤ l.countP q := by
    intro l
    induction l with
    | nil => simp
    | cons y r ih =>
      rw [List.countP_cons, List.countP_cons]
      cases h : p y with
      | true => rw [hpq y h]; simp; exact ih
      | false => simp; cases q y <;> simp <;> omega
  induction l with
  | nil => intro h; simp at h
  | cons y r ih =>
    intro h
    rw [List.countP_cons, List.countP_cons]
    by_cases e : x = y
    · subst e
      rw [hq, hp]; simp; have := hle r; omega
    · have := ih (by rcases List.mem_cons.1 h with z | z; exact absurd z e; exact z)
      cases h : p y with
      | true => rw [hpq y h]; simp; exact this
      | false => simp; cases q y <;> simp <;> omega
def unl (ops : Array Oper) (listed : Array Bool) : Nat := (List.range ops.size).countP fun i => !listed.getD i true
theorem lin_ok {ops : Array Oper} {B : Nat → Nat → Bool} (E : EdgesOK ops B) : ∀ (fuel t : Nat) (listed : Array Bool), listed.size = ops.size → unl ops listed ≤ fuel →
    (∀ i j, listed.getD i true = true → B i j = true → j < ops.size → i < ops.size → listed.getD j true = true) →
    (∀ i, i ∈ Region.linearise.go .any ops fuel t listed [] ↔ i < ops.size ∧ listed.getD i true = false) ∧ (Region.linearise.go .any ops fuel t listed []).Nodup ∧ (Region.linearise.go .any ops fuel t listed []).Pairwise (fun x y => B x y = false) := by
  intro fuel
  induction fuel with
  | zero =>
    intro t listed hs hu hc
    have hno : ∀ i, i < ops.size → listed.getD i true = true := fun i hi => by
      unfold unl at hu
      have := List.countP_eq_zero.1 (Nat.le_zero.1 hu) i (List.mem_range.2 hi)
      simpa using this
    refine ⟨fun i => ⟨fun h => by simp [Region.linearise.go] at h, fun h => ?_⟩, by simp [Region.linearise.go], by simp [Region.linearise.go]⟩
    rw [hno i h.1] at h; cases h.2
  | succ fuel ih =>
    intro t listed hs hu hc
    have hgo : Region.linearise.go .any ops (fuel + 1) t listed [] = match (Region.ready .any ops listed)[t % (Region.ready .any ops listed).length]? with
      | some i => Region.linearise.go .any ops fuel (t / (Region.ready .any ops listed).length) (listed.setIfInBounds i true) [i]
      | none => [] := by rfl
    rw [hgo]
    cases hi : (Region.ready .any ops listed)[t % (Region.ready .any ops listed).length]? with
    | none =>
      have hnil : Region.ready .any ops listed = [] := by
        cases hr : Region.ready .any ops listed with
        | nil => rfl
        | cons x xs =>
          rw [hr] at hi
          have hlt : t % (x :: xs).length < (x :: xs).length := Nat.mod_lt _ (by simp)
          simp at hi
          simp at hlt
          omega
      refine ⟨fun i => ⟨fun h => by simp at h, fun h => ?_⟩, by simp, by simp⟩
      obtain ⟨j, hj⟩ := ready_some E hs i i (Nat.le_refl _) h.1 h.2
      rw [hnil] at hj; simp at hj
    | some i =>
      simp only []
      rw [linearise_go_acc, List.reverse_singleton, List.singleton_append]
      obtain ⟨q1, q2, o, q3, q4⟩ := ready_spec.1 (List.mem_of_getElem? hi)
      have hil : i < listed.size := by rw [hs]; exact q1
      have hBi : ∀ j, B i j = true → listed.getD j true = true := fun j hB => by
        obtain ⟨hj, o', ho', e, he, hb, hon, hor⟩ := E.edge i j hB q1
        rw [q3] at ho'
        obtain rfl := Option.some.inj ho'
        have h1 := q4 e he hb
        have hlt : e.on < listed.size := by rw [hs]; exact hon
        have h1' : listed.getD e.on true = true := by
          simp only [Array.getD_eq_getD_getElem?, Array.getElem?_eq_getElem hlt, Option.getD_some] at h1 ⊢
          exact h1
        rcases hor with q | q
        · rw [← q]; exact h1'
        · exact hc e.on j h1' q hj hon
      obtain ⟨r1, r2, r3⟩ := ih (t / (Region.ready .any ops listed).length) (listed.setIfInBounds i true) (by simpa using hs) (by
          have : unl ops (listed.setIfInBounds i true) < unl ops listed := by
            unfold unl
            refine count_lt (x := i) (fun y hy => ?_) (by rw [q2]; rfl) (by rw [getD_set _ _ _ hil]; simp) _ (List.mem_range.2 q1)
            rw [getD_set _ _ _ hil] at hy
            split at hy
            · simp at hy
            · exact hy
          omega) (fun j k hj hB hk hj' => by
          rw [getD_set _ _ _ hil] at hj ⊢
          by_cases hik : i = k
          · rw [if_pos hik]
          · rw [if_neg hik]
            by_cases hij : i = j
            · subst hij; exact hBi k hB
            · rw [if_neg hij] at hj; exact hc j k hj hB hk hj')
      have hmem : ∀ j, j ∈ Region.linearise.go .any ops fuel (t / (Region.ready .any ops listed).length) (listed.setIfInBounds i true) [] → j ≠ i ∧ listed.getD j true = false := fun j hj => by
        have := ((r1 j).1 hj).2
        rw [getD_set _ _ _ hil] at this
        by_cases hij : i = j
        · rw [if_pos hij] at this; cases this
        · rw [if_neg hij] at this; exact ⟨Ne.symm hij, this⟩
      refine ⟨fun j => ?_, List.nodup_cons.2 ⟨fun h => (hmem i h).1 rfl, r2⟩, List.pairwise_cons.2 ⟨fun j hj => ?_, r3⟩⟩
      · rw [List.mem_cons, r1 j, getD_set _ _ _ hil]
        by_cases hij : i = j
        · subst hij; rw [if_pos rfl]; exact ⟨fun _ => ⟨q1, q2⟩, fun _ => .inl rfl⟩
        · rw [if_neg hij]
          exact ⟨fun h => by rcases h with h | h; exact absurd h.symm hij; exact h, fun h => .inr h⟩
      · cases hB : B i j with
        | false => rfl
        | true => have := hBi j hB; rw [(hmem j hj).2] at this; cases this
theorem exts_ok {B : Nat → Nat → Bool} : ∀ (l : List Nat) (n : Nat) (X : List Nat), l.Perm X → X.length ≤ n → l.Pairwise (fun x y => B x y = false) → l ∈ exts B n X := by
  intro l
  induction l with
  | nil =>
    intro n X hp hn _
    have : X = [] := hp.symm.eq_nil
    subst this
    cases n <;> simp [exts]
  | cons x r ih =>
    intro n X hp hn hw
    obtain ⟨h1, h2⟩ := List.cons_perm_iff_perm_erase.1 hp
    have hX : X.isEmpty = false := by cases X with | nil => simp at h1 | cons _ _ => rfl
    have hlen := hp.length_eq
    cases n with
    | zero => simp at hlen; omega
    | succ n =>
      rw [exts, hX]
      simp only [Bool.false_eq_true, if_false]
      obtain ⟨w1, w2⟩ := List.pairwise_cons.1 hw
      refine List.mem_flatMap.2 ⟨x, h1, ?_⟩
      rw [if_pos (List.all_eq_true.2 fun y hy => by rw [w1 y (h2.symm.subset hy)]; rfl)]
      refine List.mem_map.2 ⟨r, ih n _ h2 ?_ w2, rfl⟩
      have := h2.length_eq
      simp at hlen
      omega

theorem mkPend_i (P : Program) (ops : Array Oper) (i : Nat) : (mkPend P ops i).i = i := by unfold mkPend; split <;> rfl
theorem mkPend_z {P : Program} {loc : List Nat} {ops : Array Oper} {n i : Nat} (h : pendB P loc ops n (mkPend P ops i) = true) : PendOK P loc ops (mkPend P ops i) ∧ (mkPend P ops i).s < n := by
  unfold pendB at h
  rw [mkPend_i] at h
  split at h
  rotate_left
  · simp at h
  rename_i o ho
  simp only [Bool.and_eq_true, beq_iff_eq, Option.isNone_iff_eq_none, decide_eq_true_eq] at h
  obtain ⟨⟨⟨⟨⟨h1, h2⟩, h3⟩, h4⟩, h5⟩, h6⟩ := h
  split at h1
  rotate_left
  · simp at h1
  rename_i e he
  rw [beq_iff_eq] at h1
  refine ⟨⟨⟨o, by rw [mkPend_i]; exact ho, by rw [he, h1], h2, h3⟩, ?_⟩, h5⟩
  obtain ⟨dst, op, type, pos, after, guard⟩ := o
  simp only at he h2
  subst he
  cases dst with
  | none => simp at h2
  | some s =>
    have : mkPend P ops i = ⟨i, s, e, (zeroT P e).getD []⟩ := by simp only [mkPend, ho]
    rw [this] at h6 ⊢
    simp only at h6 ⊢
    cases hz : zeroT P e with
    | none => rw [hz] at h6; simp at h6
    | some z => rfl

theorem pendpair_ok {ops : Array Oper} {d : DrawInfo} (h : pairB (fun p q : Pend => p.i != q.i && p.s != q.s) (pendL P ops d) = true) : (pendL P ops d).Pairwise fun p q => p.i ≠ q.i ∧ p.s ≠ q.s :=
  pairB_ok (fun x y hxy => by rw [Bool.and_eq_true, bne_iff_ne, bne_iff_ne] at hxy; exact hxy) _ h
theorem drawOK_left {loc : List Nat} {n : Nat} {ops : Array Oper} {d : DrawInfo} (h : drawOK P loc n ops d = true) (t : Nat) :
    (pendL P ops d).Pairwise (fun p q => p.i ≠ q.i ∧ p.s ≠ q.s) ∧ ∃ pm ∈ d.perms, Left P loc ops d.B (wB ops d) (pm.filter (wB ops d)) n (Region.linearise.go .any ops ops.size t (Array.replicate ops.size false) []) (pendL P ops d) (remP ops pm) := by
  unfold drawOK at h
  simp only [Bool.and_eq_true] at h
  obtain ⟨⟨e1, e2⟩, e3⟩ := h
  have hget : ∀ i, i < ops.size → (Array.replicate ops.size false).getD i true = false := fun i hi => by
    simp [Array.getD_eq_getD_getElem?, hi]
  obtain ⟨l1, l2, l3⟩ := lin_ok (edgesB_ok e1) ops.size t (Array.replicate ops.size false) (by simp) (by
    unfold unl; have := List.countP_le_length (p := fun i => !(Array.replicate ops.size false).getD i true) (l := List.range ops.size); simpa using this)
    (fun i j hij _ _ hi => by rw [hget i hi] at hij; cases hij)
  generalize hL : Region.linearise.go .any ops ops.size t (Array.replicate ops.size false) [] = L at l1 l2 l3
  have hperm : (L.filter (wB ops d)).Perm ((List.range ops.size).filter (wB ops d)) := by
    refine (List.perm_ext_iff_of_nodup (l2.filter _) (List.nodup_range.filter _)).2 fun i => ?_
    rw [List.mem_filter, List.mem_filter, l1 i, List.mem_range]
    exact ⟨fun z => ⟨z.1.1, z.2⟩, fun z => ⟨⟨z.1, hget i z.1⟩, z.2⟩⟩
  have hin := exts_ok (B := d.B) _ ops.size _ hperm (by have := List.length_filter_le (wB ops d) (List.range ops.size); simpa using this) (l3.filter _)
  obtain ⟨pm, hpm, heq⟩ := List.any_eq_true.1 (List.all_eq_true.1 e3 _ hin)
  have heq' : pm.filter (wB ops d) = L.filter (wB ops d) := eq_of_beq heq
  have ok1 := List.all_eq_true.1 e2 pm hpm
  unfold drawOK1 at ok1
  simp only [Bool.and_eq_true] at ok1
  obtain ⟨⟨⟨⟨⟨⟨⟨c2, c3⟩, c4⟩, c6⟩, c7⟩, c8⟩, c9⟩, c10⟩ := ok1
  refine ⟨pendpair_ok c9, pm, hpm, fun i => ?_, l2, l3, ?_, fun q hq => ?_, fun p hp => ?_, (by rw [heq']; exact List.suffix_rfl), (by rw [heq']; exact l2.filter _), (fun x hx => (List.mem_filter.1 hx).2), pairB_ok (fun x y => aheadB_ok) _ c6, fun q hq => ?_, fun p hp => ?_, pendpair_ok c9, fun p hp q hq => ?_⟩
  · rw [l1 i]
    constructor
    · rintro ⟨hi, _⟩
      have := List.all_eq_true.1 c2 i (List.mem_range.2 hi)
      rw [Bool.or_eq_true] at this
      rcases this with q | q
      · exact .inl ⟨mkPend P ops i, List.mem_map.2 ⟨i, by simpa using q, rfl⟩, mkPend_i P ops i⟩
      · exact .inr ⟨(i, ops.getD i default), List.mem_map.2 ⟨i, by simpa using q, rfl⟩, rfl⟩
    · rintro (⟨p, q1, q2⟩ | ⟨q, q1, q2⟩)
      · obtain ⟨j, hj, rfl⟩ := List.mem_map.1 q1
        rw [mkPend_i] at q2; subst q2
        have := of_decide_eq_true (List.all_eq_true.1 c3 j hj)
        exact ⟨this, hget _ this⟩
      · obtain ⟨j, hj, rfl⟩ := List.mem_map.1 q1
        simp only at q2; subst q2
        have := of_decide_eq_true (List.all_eq_true.1 c4 j hj)
        exact ⟨this, hget _ this⟩
  · rw [← heq', remP, List.map_map]
    congr 1
    exact (List.map_congr_left (fun a _ => rfl)).trans (List.map_id _)
  · obtain ⟨i, hi, rfl⟩ := List.mem_map.1 hq
    simp only [wB]
    have : d.bx.contains i = false := by
      cases hb : d.bx.contains i with
      | false => rfl
      | true =>
        have h1 : mkPend P ops i ∈ pendL P ops d := List.mem_map.2 ⟨i, by simpa using hb, rfl⟩
        have := List.all_eq_true.1 (List.all_eq_true.1 c10 _ h1) (i, ops.getD i default) hq
        rw [mkPend_i] at this
        simp at this
    rw [this]; rfl
  · obtain ⟨i, hi, rfl⟩ := List.mem_map.1 hp
    rw [mkPend_i]
    have : d.bx.contains i = true := by simpa using hi
    simp only [wB, this, Bool.not_true, Bool.false_and]
  · have h1 := List.all_eq_true.1 c7 q hq
    simp only [Bool.and_eq_true] at h1
    obtain ⟨⟨h1, h2⟩, h3⟩ := h1
    obtain ⟨i, hi, rfl⟩ := List.mem_map.1 hq
    have hlt := of_decide_eq_true (List.all_eq_true.1 c4 i hi)
    refine ⟨by simp [Array.getD_eq_getD_getElem?, hlt], h1, fun k hk => ?_, fun p hp hB => ?_⟩
    · simp only at hk h2; rw [hk] at h2; exact of_decide_eq_true h2
    · have := List.all_eq_true.1 h3 p hp
      simp only at this hB
      rw [hB, Bool.false_or, Bool.and_eq_true, bne_iff_ne] at this
      refine ⟨fun hm => ?_, this.2⟩
      have := this.1
      rw [Bool.not_eq_true', List.contains_eq_mem, decide_eq_false_iff_not] at this
      exact this hm
  · have h1 := List.all_eq_true.1 c8 p hp
    obtain ⟨i, hi, rfl⟩ := List.mem_map.1 hp
    exact mkPend_z h1
  · have := List.all_eq_true.1 (List.all_eq_true.1 c10 p hp) q hq
    simpa using this

/-! ### the state in which a drawn region is told: its boxes are made -/
def enterT (pd : List Pend) (T : Fr) : Fr := fun j =>
  match pd.find? (fun p => p.s == j) with
  | some p => some (.pointer (some ⟨p.s, 0, some 0⟩))
  | none => match T j with
    | some v => match locOf v with
      | some s => if pd.any (fun p => p.s == s) then none else some v
      | none => some v
    | none => none
def enterX (pd : List Pend) (x : Boxes) : Boxes := fun j =>
  match pd.find? (fun p => p.s == j) with
  | some p => some (p.e, p.z)
  | none => x j
def enterD (pd : List Pend) (σ : St) : St := match pd with
  | [] => σ
  | p :: r => ⟨enterT (p :: r) σ.t, ⟨enterX (p :: r) σ.m.x, σ.m.h⟩⟩

theorem find_none {pd : List Pend} {j : Nat} (h : ∀ p ∈ pd, p.s ≠ j) : pd.find? (fun p => p.s == j) = none := by
  rw [List.find?_eq_none]; intro p hp; simpa using h p hp
theorem find_some {pd : List Pend} (hpw : pd.Pairwise fun p q => p.i ≠ q.i ∧ p.s ≠ q.s) {p : Pend} (hp : p ∈ pd) : pd.find? (fun q => q.s == p.s) = some p := by
  induction pd with
  | nil => simp at hp
  | cons q r ih =>
    rw [List.find?_cons]
    rcases List.mem_cons.1 hp with e | e
    · subst e; simp
    · have hne := ((List.pairwise_cons.1 hpw).1 p e).2
      have : (q.s == p.s) = false := by simpa using hne
      rw [this]
      exact ih (List.pairwise_cons.1 hpw).2 e

/-- boxes may be forgotten, or change where nothing stands for them -/
theorem Inv.forget (I : Inv P ρ0 h0 w0 ρ m w) {ρ1 : Rho} {x1 : Boxes} (hf : ∀ b, ρ1 (false, b) = ρ (false, b)) (hb : ∀ s pl, ρ1 (true, s) = some pl → ρ (true, s) = some pl ∧ (x1 s = m.x s ∨ x1 s = none)) :
    Inv P ρ0 h0 w0 ρ1 ⟨x1, m.h⟩ w := by
  have hback : ∀ {k pl}, ρ1 k = some pl → ρ k = some pl := fun {k pl} h => by
    obtain ⟨t, b⟩ := k
    cases t
    · rw [← hf]; exact h
    · exact (hb b pl h).1
  have hmono : ∀ {v u}, VR ρ v u → VR ρ1 v u := fun {v u} h => h.mono fun b pl q => by rw [hf]; exact q
  have hrow : ∀ {k pl r}, ρ1 k = some pl → (Mem.mk x1 m.h).row? k = some r → m.row? k = some r := fun {k pl r} h q => by
    obtain ⟨t, b⟩ := k
    cases t
    · exact q
    · simp only [Mem.row?, Boxes.look] at q ⊢
      rcases (hb b pl h).2 with z | z
      · rw [z] at q; exact q
      · rw [z] at q; simp at q
  have hlive : ∀ {k pl}, ρ1 k = some pl → (Mem.mk x1 m.h).live k → m.live k := fun {k pl} h q => by
    obtain ⟨t, b⟩ := k
    cases t
    · exact q
    · simp only [Mem.live, Boxes.look] at q ⊢
      rcases (hb b pl h).2 with z | z
      · rw [z] at q; exact q
      · rw [z] at q; simp at q
  have hwr : ∀ {k pl}, ρ1 k = some pl → (Mem.mk x1 m.h).wr k → m.wr k := fun {k pl} h q => by
    obtain ⟨t, b⟩ := k
    cases t
    · exact q
    · simp only [Mem.wr, Boxes.look] at q ⊢
      rcases (hb b pl h).2 with z | z
      · rw [z] at q; exact q
      · rw [z] at q; simp at q
  refine ⟨⟨fun k pl h => I.rel.bound k pl (hback h), fun b pl h => I.rel.dom b pl (hback h), fun k pl wr e cs h hr => ?_, fun b pl o h ho => I.rel.obj b pl o (hback h) ho,
    fun k k' pl pl' hne h h' hw hl => I.rel.sep k k' pl pl' hne (hback h) (hback h') (hwr h hw) (hlive h' hl), fun i hi => let ⟨pl, q1, q2⟩ := I.rel.glob i hi; ⟨pl, by rw [hf]; exact q1, q2⟩⟩,
    ⟨I.tr.os, I.tr.tape, I.tr.output, I.tr.drawn, I.tr.size, fun b pl h => by rw [hf]; exact I.tr.ext b pl h, I.tr.hn, I.tr.hg, fun b pl h h' => I.tr.new b pl (hback h) h', I.tr.dead, I.tr.wrd, I.tr.frame⟩,
    fun s pl h => I.box s pl (hback h), I.dom0⟩
  obtain ⟨C, e', fz, c1, c2, c3, c4, c5, c6⟩ := I.rel.row _ _ _ _ _ (hback h) (hrow h hr)
  exact ⟨C, e', fz, c1, c2, c3, c4, c5, fun i v hi => let ⟨v', q1, q2⟩ := c6 i v hi; ⟨v', q1, hmono q2⟩⟩

theorem enterD_ok {n : Nat} {pd : List Pend} (hpw : pd.Pairwise fun p q => p.i ≠ q.i ∧ p.s ≠ q.s) {σ : St} {a : Act} (C : Con P ρ0 h0 w0 n σ a w) : ConD P ρ0 h0 w0 n pd (enterD pd σ) a w := by
  obtain ⟨ρ, I, F, hs, hd⟩ := C
  cases hpd : pd with
  | nil => exact ⟨ρ, I, fun i v hi => F i v (by have h2 : hideP [] σ.t i = some v := hi; simp only [hideP, List.any_nil, Bool.false_eq_true, if_false] at h2; exact h2), hs, hd, by simp⟩
  | cons p0 r0 =>
    rw [← hpd]
    have he : enterD pd σ = ⟨enterT pd σ.t, ⟨enterX pd σ.m.x, σ.m.h⟩⟩ := by rw [hpd]; rfl
    rw [he]
    refine ⟨fun k => if k.1 = true ∧ (pd.any fun p => p.s == k.2) = true then none else ρ k, ?_, ?_, hs, hd, fun p hp => ⟨?_, ?_, ?_⟩⟩
    · refine I.forget (fun b => by simp) fun s pl h => ?_
      simp only [true_and] at h
      split at h
      · simp at h
      · rename_i hno
        refine ⟨h, .inl ?_⟩
        have : ∀ p ∈ pd, p.s ≠ s := fun p hp e => hno (List.any_eq_true.2 ⟨p, hp, by simp [e]⟩)
        simp only [enterX, find_none this]
    · intro j v hj
      simp only [Fr.get] at hj
      by_cases hex : ∃ p ∈ pd, p.s = j
      · rw [hideP_in hex] at hj; simp at hj
      · have hno : ∀ p ∈ pd, p.s ≠ j := fun p hp e => hex ⟨p, hp, e⟩
        rw [hideP_out hno] at hj
        simp only [enterT, find_none hno] at hj
        cases hT : σ.t j with
        | none => rw [hT] at hj; simp at hj
        | some u =>
          rw [hT] at hj
          simp only at hj
          obtain ⟨u', q1, q2⟩ := F j u hT
          have : u = v ∧ ∀ s, locOf u = some s → (pd.any fun p => p.s == s) = false := by
            split at hj
            · rename_i s hs'
              split at hj
              · simp at hj
              · rename_i hnn; exact ⟨Option.some.inj hj, fun s2 hs2 => by rw [hs'] at hs2; obtain rfl := Option.some.inj hs2; simpa using hnn⟩
            · rename_i hnone; exact ⟨Option.some.inj hj, fun s hs' => by rw [hnone] at hs'; cases hs'⟩
          obtain ⟨rfl, hloc⟩ := this
          refine ⟨u', q1, ?_⟩
          cases q2 with
          | val _ _ q => exact .val _ _ (q.mono fun b pl z => by simpa using z)
          | loc s off x pl z =>
            have := hloc s rfl
            exact .loc s off x pl (by simp only [this]; simpa using z)
    · have : (pd.any fun q => q.s == p.s) = true := List.any_eq_true.2 ⟨p, hp, by simp⟩
      simp [this]
    · simp only [enterX, find_some hpw hp]
    · simp only [enterT, find_some hpw hp]
end
end Go.Am
