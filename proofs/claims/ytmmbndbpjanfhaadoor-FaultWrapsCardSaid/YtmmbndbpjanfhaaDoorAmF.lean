/- The abstract machine, part F: append. -/
import Derived.Test.YtmmbndbpjanfhaaDoorAmE
set_option linter.unusedVariables false
set_option linter.unusedSimpArgs false
set_option linter.unusedSectionVars false
namespace Go.Am
open Go

section
variable {P : Program} {ρ0 ρ ρ' : Rho} {h0 : Heap} {w0 w : World} {m : Mem}

/-- what is appended: cells and how many elements -/
def srcCells (P : Program) (σ : St) (u : TypeId) (sz : Nat) (x : Operand) : Option (List Value × Nat) :=
  match P.underlying u with
  | some (.slice _) => match opnd σ x with
    | some (.slice none 0 0) => some ([], 0)
    | some (.slice (some ad) n _) => if n = 0 then some ([], 0) else match σ.m.cells ad (n * sz) with
      | some l => some (l, n)
      | none => none
    | _ => none
  | some .string => match opnd σ x with
    | some (.string s) => if sz = 1 then some (s.data.toList.map fun b => .int .u8 b.toNat, s.size) else none
    | _ => none
  | _ => none
theorem firstCells_string (s : ByteArray) (sz : Nat) : (Builtin.firstCells sz s.size (.string s)).run P w = .ok ⟨s.data.toList.map fun b => Value.int .u8 b.toNat⟩ w := by
  simp only [Builtin.firstCells, Sem.run_pure]
  congr 1
  have hx : s.extract 0 s.size = s := by simp
  rw [hx]
  apply Array.ext'
  simp
theorem srcCells_ok {σ : St} (I : Inv P ρ0 h0 w0 ρ σ.m w) {a : Act} (F : FRel ρ σ.t a.tmps) {u : TypeId} {sz : Nat} {x : Operand} {l : List Value} {n : Nat} (h : srcCells P σ u sz x = some (l, n)) (hsz : 0 < sz) :
    l.length = n * sz ∧ ∃ l' : List Value, l'.length = n * sz ∧ (∀ (i : Nat) (v : Value), l[i]? = some v → ∃ v', l'[i]? = some v' ∧ VR ρ v v') ∧
      (∃ d, P.underlying u = some d ∧ ((∃ e2, d = .slice e2) ∨ d = .string)) ∧ (∀ w1 : World, (Builtin.lenOf (a.eval x)).run P w1 = .ok n w1) ∧
      ∀ w1 : World, w1.heap = w.heap → (Builtin.firstCells sz n (a.eval x)).run P w1 = .ok ⟨l'⟩ w1 := by
  unfold srcCells at h
  split at h
  · rename_i e hu
    split at h
    · rename_i hx
      simp only [Option.some.injEq, Prod.mk.injEq] at h
      obtain ⟨rfl, rfl⟩ := h
      have hv := (opnd_sound I F hx).flat2 rfl
      refine ⟨by simp, [], by simp, by simp, ⟨_, hu, .inl ⟨_, rfl⟩⟩, fun w1 => by rw [hv]; rfl, fun w1 _ => by rw [hv]; rfl⟩
    · rename_i ad k c hx
      have hv := (opnd_sound I F hx).noLoc rfl
      split at h
      · rename_i hk0
        simp only [Option.some.injEq, Prod.mk.injEq] at h
        obtain ⟨rfl, rfl⟩ := h
        subst hk0
        have : ∃ a' c', a.eval x = .slice (some a') 0 c' := by
          rcases hv.slice_some with ⟨a', _, hv'⟩ | ⟨b, off, pl, cap, _, hk, hc, hn, hv'⟩
          · exact ⟨a', 0, hv'⟩
          · exact ⟨_, cap, hv'⟩
        obtain ⟨a', c', hv'⟩ := this
        refine ⟨by simp, [], by simp, by simp, ⟨_, hu, .inl ⟨_, rfl⟩⟩, fun w1 => by rw [hv']; rfl, fun w1 _ => by rw [hv']; simp [Builtin.firstCells, loadCells, loadCellsFrom]⟩
      · rename_i hk0
        split at h
        · rename_i l1 hl
          simp only [Option.some.injEq, Prod.mk.injEq] at h
          obtain ⟨rfl, rfl⟩ := h
          rcases hv.slice_some with ⟨a', hl0, _⟩ | ⟨b, off, pl, cap, rfl, hk, hc, hn, hv'⟩
          · exact absurd hl0 hk0
          · obtain ⟨q1, l', q2, q3, q4⟩ := cells_sound I (ad := ⟨b, off, none⟩) hk hl
            refine ⟨q1, l', q2, q3, ⟨_, hu, .inl ⟨_, rfl⟩⟩, fun w1 => by rw [hv']; rfl, fun w1 hw1 => ?_⟩
            rw [hv']
            exact run_firstCells_some (P := P) w1 sz k ⟨pl.B, pl.o + off, none⟩ k cap l' q2 (fun j v hj => by
              have := q4 j v hj
              simp only [World.cell?] at this ⊢
              rw [hw1]; exact this)
        · simp at h
    · simp at h
  · rename_i hu
    split at h
    · rename_i s hx
      split at h
      · rename_i h1
        simp only [Option.some.injEq, Prod.mk.injEq] at h
        obtain ⟨rfl, rfl⟩ := h
        subst h1
        have hv := (opnd_sound I F hx).flat2 rfl
        have hf : ∀ v ∈ s.data.toList.map (fun b : UInt8 => Value.int .u8 b.toNat), flat1 v = true := by simp [flat1]
        refine ⟨by rw [List.length_map, Nat.mul_one]; rfl, s.data.toList.map (fun b => Value.int .u8 b.toNat), by rw [List.length_map, Nat.mul_one]; rfl, fun i v hi => ⟨v, hi, .of_flat1 (hf v (List.mem_of_getElem? hi))⟩, ⟨_, hu, .inr rfl⟩,
          fun w1 => by rw [hv]; rfl, fun w1 _ => by rw [hv]; exact firstCells_string s 1⟩
      · simp at h
    · simp at h
  · simp at h

def maxA : Nat := 140737488355328
def bytesT (P : Program) (t : TypeId) : Option Nat := (P.info? t).map (·.bytes)
def opAppend (P : Program) (σ : St) (t u : TypeId) (s x : Operand) : Option (Value × St) :=
  match elemT P t with
  | some (e, sz) => match zeroT P e, bytesT P e, srcCells P σ u sz x with
    | some zl, some by_, some (l, n) =>
      if l.all one && decide (0 < sz) && decide (0 < by_) && zl.length == sz then
        match opnd σ s with
        | some (.slice none 0 0) => if n = 0 then some (.slice none 0 0, σ) else
            if n * by_ ≤ maxA then some (.slice (some ⟨σ.m.h.n, 0, none⟩) n n, ⟨σ.t, ⟨σ.m.x, σ.m.h.new (.row true e l)⟩⟩) else none
        | some (.slice (some ⟨b, off, none⟩) len _) => match σ.m.h.f b with
          | .row true e' cs => if P.cellsOf e' = sz ∧ off + len * sz ≤ cs.length ∧ (len + n) * by_ ≤ maxA then
              some (.slice (some ⟨σ.m.h.n, 0, none⟩) (len + n) (len + n), ⟨σ.t, ⟨σ.m.x, (σ.m.h.set b .dead).new (.row true e' ((cs.drop off).take (len * sz) ++ l))⟩⟩) else none
          | _ => none
        | _ => none
      else none
    | _, _, _ => none
  | none => none

theorem ones_of {l l' : List Value} (hl : l.length = l'.length) (h : ∀ (i : Nat) (v : Value), l[i]? = some v → ∃ v', l'[i]? = some v' ∧ VR ρ v v') (h1 : l.all one = true) : ∀ z ∈ l', z.oneCell' = true := by
  intro z hz
  rw [List.mem_iff_getElem] at hz
  obtain ⟨i, hi, rfl⟩ := hz
  have hi' : i < l.length := by omega
  obtain ⟨v', q1, q2⟩ := h i _ (List.getElem?_eq_getElem hi')
  rw [List.getElem?_eq_getElem hi] at q1
  obtain rfl := Option.some.inj q1
  exact q2.one (List.all_eq_true.mp h1 _ (List.getElem_mem hi'))

theorem run_grow (t u ty e : TypeId) (i : TypeInfo) (z : Value) (ht : P.underlying t = some (.slice e)) (hi : P.info? e = some i) (hz : i.zero = some z)
    {d : TypeDesc} (hu : P.underlying u = some d) (hd : (∃ e2, d = .slice e2) ∨ d = .string) (X : Value) (n : Nat) (news : List Value) (hlen : ∀ w1 : World, (Builtin.lenOf X).run P w1 = .ok n w1)
    (hnew : (Builtin.firstCells i.size n X).run P w.drew = .ok ⟨news⟩ w.drew)
    (base : Option Addr) (sLen sCap : Nat) (olds : List Value) (hold : (Builtin.firstCells i.size sLen (.slice base sLen sCap)).run P w.drew = .ok ⟨olds⟩ w.drew)
    (hg : sCap < sLen + n) (h63 : ((sLen + n : Nat) : Int) ≤ 9223372036854775807) (hfit : Builtin.nextslicecap (sLen + n) sCap * i.bytes ≤ 281474976710656) :
    (Builtin.append_ #[t, u] ty #[.slice base sLen sCap, X]).run P w =
      .ok (.slice (some ⟨w.heap.size, 0, none⟩) (sLen + n) (grownCap w (sLen + n) sCap e))
        (w.drew.alloc (.cells ((⟨olds⟩ : Array Value) ++ ⟨news⟩ ++ Builtin.zeroCells z.cells (grownCap w (sLen + n) sCap e - (sLen + n))) e)) := by
  have hn : ¬ (sLen + n ≤ sCap) := by omega
  have h63' : ¬ (9223372036854775807 < ((sLen : Int) + (n : Int))) := by omega
  have h48' : ¬ (281474976710656 < Builtin.nextslicecap (sLen + n) sCap * i.bytes) := by omega
  have hfin : ∀ k : Nat, ((⟨olds⟩ : Array Value) ++ (⟨news⟩ ++ Builtin.zeroCells z.cells k)) = (olds ++ news).toArray ++ Builtin.zeroCells z.cells k := fun k => by
    apply Array.ext'; simp [List.append_assoc]
  rcases hd with ⟨e2, rfl⟩ | rfl <;> simp [Builtin.append_, run_underlying ht, run_underlying hu, sizeOf, typeInfo, zeroValue, hi, hz, hlen, hn, h63', h48', Question.forced, hnew, hold, newRow, grownCap, hfin]
theorem run_room (t u ty e : TypeId) (i : TypeInfo) (ht : P.underlying t = some (.slice e)) (hi : P.info? e = some i)
    {d : TypeDesc} (hu : P.underlying u = some d) (hd : (∃ e2, d = .slice e2) ∨ d = .string) (X : Value) (n : Nat) (news : List Value) (hlen : ∀ w1 : World, (Builtin.lenOf X).run P w1 = .ok n w1)
    (hnew : (Builtin.firstCells i.size n X).run P w = .ok ⟨news⟩ w) (h1 : ∀ v ∈ news, v.oneCell' = true)
    (g off sLen sCap : Nat) (e' : TypeId) (cur : Array Value) (hg : w.heap[g]? = some (.cells cur e' (0, 0))) (hroom : sLen + n ≤ sCap) (hfit : off + sLen * i.size + news.length ≤ cur.size) :
    (Builtin.append_ #[t, u] ty #[.slice (some ⟨g, off, none⟩) sLen sCap, X]).run P w =
      .ok (.slice (some ⟨g, off, none⟩) (sLen + n) sCap) (w.setRow g (cur.toList.take (off + sLen * i.size) ++ news ++ cur.toList.drop (off + sLen * i.size + news.length)).toArray) := by
  have hst := run_storeCells_at P g (off + sLen * i.size) e' news 0 cur w hg (by simpa using hfit) h1
  simp only [Nat.add_zero] at hst
  rcases hd with ⟨e2, rfl⟩ | rfl <;> simp [Builtin.append_, run_underlying ht, run_underlying hu, sizeOf, typeInfo, hi, hlen, hroom, hnew, Addr.add_lit, hst]
theorem run_room0 (t u ty e : TypeId) (i : TypeInfo) (ht : P.underlying t = some (.slice e)) (hi : P.info? e = some i)
    {d : TypeDesc} (hu : P.underlying u = some d) (hd : (∃ e2, d = .slice e2) ∨ d = .string) (X : Value) (news : List Value) (hlen : ∀ w1 : World, (Builtin.lenOf X).run P w1 = .ok 0 w1)
    (hnew : (Builtin.firstCells i.size 0 X).run P w = .ok ⟨news⟩ w) (hl : news = []) (base : Option Addr) :
    (Builtin.append_ #[t, u] ty #[.slice base 0 0, X]).run P w = .ok (.slice base 0 0) w := by
  subst hl
  rcases hd with ⟨e2, rfl⟩ | rfl <;> cases base <;> simp [Builtin.append_, run_underlying ht, run_underlying hu, sizeOf, typeInfo, hi, hlen, hnew, storeCells]

theorem vrs_append {cs vs cs' vs' : List Value} (rest : List Value) (hl : cs.length = cs'.length) (hl2 : vs.length = vs'.length)
    (h1 : ∀ (i : Nat) (v : Value), cs[i]? = some v → ∃ v', cs'[i]? = some v' ∧ VR ρ v v') (h2 : ∀ (i : Nat) (v : Value), vs[i]? = some v → ∃ v', vs'[i]? = some v' ∧ VR ρ v v') :
    ∀ (i : Nat) (v : Value), (cs ++ vs)[i]? = some v → ∃ v', (cs' ++ vs' ++ rest)[i]? = some v' ∧ VR ρ v v' := by
  intro i v hi
  have hlt : i < (cs ++ vs).length := by
    rcases Nat.lt_or_ge i (cs ++ vs).length with q | q
    · exact q
    · rw [List.getElem?_eq_none q] at hi; cases hi
  rw [List.getElem?_append_left (by simp at hlt ⊢; omega)]
  by_cases hc : i < cs.length
  · rw [List.getElem?_append_left hc] at hi
    rw [List.getElem?_append_left (by omega)]
    exact h1 i v hi
  · rw [List.getElem?_append_right (by omega)] at hi
    rw [List.getElem?_append_right (by omega), ← hl]
    exact h2 _ v hi

theorem opAppend_ok {σ σ' : St} {o : Oper} {t u : TypeId} {s x : Operand} (ho : o.op = .call { callee := .builtin .append, args := #[s, x], argTypes := #[t, u] }) {v : Value}
    (h : opAppend P σ t u s x = some (v, σ')) : StepOK P o σ v σ' := by
  intro ρ0 h0 w0 ρ a w I F
  unfold opAppend at h
  split at h
  rotate_left
  · simp at h
  rename_i e sz he
  split at h
  rotate_left
  · simp at h
  rename_i zl by_ l n hz hby hsrc
  split at h
  rotate_left
  · simp at h
  rename_i hall
  simp only [Bool.and_eq_true, decide_eq_true_eq, beq_iff_eq] at hall
  obtain ⟨⟨⟨hone, hszp⟩, hbyp⟩, hzlen⟩ := hall
  obtain ⟨ht, hsz⟩ := elemT_some he
  obtain ⟨ll, l', hl', hll', ⟨d, hu, hd⟩, hlen, hfirst⟩ := srcCells_ok I F hsrc hszp
  have hone' := ones_of (ll.trans hl'.symm) hll' hone
  have hinfo : ∃ i, P.info? e = some i ∧ i.size = sz ∧ i.bytes = by_ ∧ ∃ z, i.zero = some z ∧ z.cells.size = sz := by
    unfold zeroT at hz; unfold szT at hsz; unfold bytesT at hby
    cases hi : P.info? e with
    | none => simp [hi] at hz
    | some i =>
      simp only [hi] at hz hsz hby
      cases hzz : i.zero with
      | none => simp [hzz] at hz
      | some z =>
        refine ⟨i, rfl, by simpa using hsz, by simpa using hby, z, hzz, ?_⟩
        simp only [hzz] at hz
        split at hz
        · obtain rfl := Option.some.inj hz; simpa using hzlen
        · simp at hz
  obtain ⟨i, hi, rfl, rfl, z, hzz, hz1⟩ := hinfo
  have hexec : ∀ base sLen sCap, a.eval s = .slice base sLen sCap → (execOp a.eval o).run P w = ((Builtin.append_ #[t, u] o.type #[.slice base sLen sCap, a.eval x]).run P w).andThen fun v w' => .ok (.value v) w' := by
    intro base sLen sCap hs
    simp [execOp, ho, resolve, invoke, builtin, hs]
  have hgrowF : ∀ {k pl}, ρ (false, k) = some pl → ∀ pl', ρ.upd (false, σ.m.h.n) pl' (false, k) = some pl := fun {k pl} q pl' => by
    rw [Rho.upd_ne]; exact q
    intro z; simp only [Prod.mk.injEq, true_and] at z; subst z; exact Nat.lt_irrefl _ (I.rel.dom _ _ q)
  split at h
  · -- nil
    rename_i hs
    have hsv := (opnd_sound I F hs).flat2 rfl
    split at h
    · rename_i hn0
      simp only [Option.some.injEq, Prod.mk.injEq] at h
      obtain ⟨rfl, rfl⟩ := h
      subst hn0
      refine ⟨.value (.slice none 0 0), _, w, ρ, ?_, rfl, I, F, .of_flat2 rfl, fun _ _ => ⟨rfl, fun _ => rfl⟩⟩
      rw [hexec _ _ _ hsv, run_room0 t u o.type e i ht hi hu hd _ l' hlen (hfirst w rfl) (by simpa using hl')]
      rfl
    · rename_i hn0
      split at h
      · rename_i hmax
        unfold maxA at hmax
        simp only [Option.some.injEq, Prod.mk.injEq] at h
        obtain ⟨rfl, rfl⟩ := h
        have hnn : n ≤ n * i.bytes := Nat.le_mul_of_pos_right n hbyp
        have hrun := run_grow (w := w) t u o.type e i z ht hi hzz hu hd (a.eval x) n l' hlen (hfirst w.drew rfl) none 0 0 [] (by rfl) (by omega) (by omega)
          (growslice_fits (by omega) (by simpa using hmax))
        have hc := vrs_append (ρ := ρ) (cs := []) (cs' := []) (vs := l) (vs' := l') (Builtin.zeroCells z.cells (grownCap w (0 + n) 0 e - (0 + n))).toList rfl (ll.trans hl'.symm) (by simp) hll'
        have J := I.drew.newH (x := .row true e l) (o := .cells ((⟨[]⟩ : Array Value) ++ ⟨l'⟩ ++ Builtin.zeroCells z.cells (grownCap w (0 + n) 0 e - (0 + n))) e) (pl := ⟨w.heap.size, 0, _, P.cellsOf e⟩)
          (.row e e l _ _ (by simp [ll, hl']) (fun j v hj => by
            obtain ⟨v', q1, q2⟩ := hc j v (by simpa using hj)
            exact ⟨v', by rw [← Array.getElem?_toList, Array.toList_append, Array.toList_append]; exact q1, q2⟩)) rfl
        refine ⟨_, _, _, _, by rw [hexec _ _ _ hsv, hrun]; rfl, rfl, J, F.mono (fun b pl q => hgrowF q _) (fun s => Rho.upd_ne _ _ (by simp)), ?_, fun s' _ => ⟨Rho.upd_ne _ _ (by simp), fun _ => rfl⟩⟩
        have hsize : P.cellsOf e = i.size := by simp [Program.cellsOf, hi]
        have := VR.sl (ρ := ρ.upd (false, σ.m.h.n) ⟨w.heap.size, 0, ((⟨[]⟩ : Array Value) ++ ⟨l'⟩ ++ Builtin.zeroCells z.cells (grownCap w (0 + n) 0 e - (0 + n))).size, P.cellsOf e⟩) σ.m.h.n 0 n n
          ⟨w.heap.size, 0, ((⟨[]⟩ : Array Value) ++ ⟨l'⟩ ++ Builtin.zeroCells z.cells (grownCap w (0 + n) 0 e - (0 + n))).size, P.cellsOf e⟩ (grownCap w (0 + n) 0 e) (Rho.upd_same _ _ _)
          (by have := grownCap_ge w (0 + n) 0 e; omega) (by
            have hg := grownCap_ge w (0 + n) 0 e
            simp only [Array.size_append, size_zeroCells, hz1, hsize]
            simp only [List.size_toArray, List.length_nil, hl']
            rw [Nat.sub_mul]
            have := Nat.mul_le_mul_right i.size hg
            have e1 : (0 + n) * i.size = n * i.size := by rw [Nat.zero_add]
            omega)
        rw [Nat.zero_add] at this ⊢
        exact VT.val _ _ this
      · simp at h
  · -- a row
    rename_i b off len c hs
    have hsv := (opnd_sound I F hs).noLoc rfl
    split at h
    rotate_left
    · simp at h
    rename_i e1 cs hb
    split at h
    rotate_left
    · simp at h
    rename_i hcond
    obtain ⟨hce, hin, hmax⟩ := hcond
    unfold maxA at hmax
    simp only [Option.some.injEq, Prod.mk.injEq] at h
    obtain ⟨rfl, rfl⟩ := h
    have hnn : len + n ≤ (len + n) * i.bytes := Nat.le_mul_of_pos_right _ hbyp
      -- behind a growth: the elder row is given up, a new one stands for the sum
    have grown : ∀ (base : Option Addr) (sCap : Nat) (olds : List Value), a.eval s = .slice base len sCap → sCap < len + n → olds.length = len * i.size →
        (Builtin.firstCells i.size len (.slice base len sCap)).run P w.drew = .ok ⟨olds⟩ w.drew →
        (∀ (j : Nat) (v : Value), ((cs.drop off).take (len * i.size))[j]? = some v → ∃ v', olds[j]? = some v' ∧ VR ρ v v') →
        ∃ nx v' w' ρ', (execOp a.eval o).run P w = .ok nx w' ∧ outV nx = some v' ∧ Inv P ρ0 h0 w0 ρ' ⟨σ.m.x, (σ.m.h.set b .dead).new (.row true e1 ((cs.drop off).take (len * i.size) ++ l))⟩ w' ∧
          FRel ρ' σ.t a.tmps ∧ VT ρ' (.slice (some ⟨σ.m.h.n, 0, none⟩) (len + n) (len + n)) v' ∧
          ∀ s, (∀ d, o.dst = some d → d ≠ s) → ρ' (true, s) = ρ (true, s) ∧ (ρ (true, s) = none → σ.m.x s = σ.m.x s) := by
      intro base sCap olds hsv' hlt holds hfo hrel
      have hrun := run_grow (w := w) t u o.type e i z ht hi hzz hu hd (a.eval x) n l' hlen (hfirst w.drew rfl) base len sCap olds hfo hlt (by omega)
        (growslice_fits (by omega) (by omega))
      have hlo : ((cs.drop off).take (len * i.size)).length = olds.length := by rw [holds]; simp; omega
      have hc := vrs_append (ρ := ρ) (Builtin.zeroCells z.cells (grownCap w (len + n) sCap e - (len + n))).toList hlo (ll.trans hl'.symm) hrel hll'
      have hCg : ∀ j : Nat, ((⟨olds⟩ : Array Value) ++ ⟨l'⟩ ++ Builtin.zeroCells z.cells (grownCap w (len + n) sCap e - (len + n)))[j]? =
          (olds ++ l' ++ (Builtin.zeroCells z.cells (grownCap w (len + n) sCap e - (len + n))).toList)[j]? := fun j => by
        rw [← Array.getElem?_toList, Array.toList_append, Array.toList_append]
      have hCs : ((⟨olds⟩ : Array Value) ++ ⟨l'⟩ ++ Builtin.zeroCells z.cells (grownCap w (len + n) sCap e - (len + n))).size = len * i.size + n * i.size + (grownCap w (len + n) sCap e - (len + n)) * i.size := by
        rw [Array.size_append, Array.size_append, size_zeroCells, hz1, List.size_toArray, List.size_toArray, holds, hl']
      generalize ((⟨olds⟩ : Array Value) ++ ⟨l'⟩ ++ Builtin.zeroCells z.cells (grownCap w (len + n) sCap e - (len + n))) = C at hrun hCg hCs
      have hfit : Fits P ρ (.row true e1 ((cs.drop off).take (len * i.size) ++ l)) (.cells C e (0, 0)) ⟨w.heap.size, 0, C.size, P.cellsOf e1⟩ :=
        .row e1 e _ C _ (by rw [List.length_append, hlo, holds, ll, hCs]; omega) (fun j v hj => by
          obtain ⟨v', q1, q2⟩ := hc j v hj
          exact ⟨v', by rw [hCg]; exact q1, q2⟩)
      have J := (I.drew.kill b).newH hfit rfl
      refine ⟨_, _, _, _, by rw [hexec _ _ _ hsv', hrun]; rfl, rfl, J, F.mono (fun b pl q => hgrowF q _) (fun s => Rho.upd_ne _ _ (by simp)), ?_, fun s' _ => ⟨Rho.upd_ne _ _ (by simp), fun _ => rfl⟩⟩
      have hg := grownCap_ge w (len + n) sCap e
      have := VR.sl (ρ := ρ.upd (false, σ.m.h.n) ⟨w.heap.size, 0, C.size, P.cellsOf e1⟩) σ.m.h.n 0 (len + n) (len + n)
        ⟨w.heap.size, 0, C.size, P.cellsOf e1⟩ (grownCap w (len + n) sCap e) (Rho.upd_same _ _ _)
        hg (by
          simp only [hCs, hce]
          rw [Nat.sub_mul]
          have := Nat.mul_le_mul_right i.size hg
          have e1 : (len + n) * i.size = len * i.size + n * i.size := Nat.add_mul _ _ _
          omega)
      exact VT.val _ _ this
    rcases hsv.slice_some with ⟨a', rfl, hv'⟩ | ⟨b', off', pl, cap, hbo, hk, hc, hn, hv'⟩
    · -- nothing is held, and there is no room
      by_cases hn0 : n = 0
      · subst hn0
        refine ⟨_, _, w, ρ, by rw [hexec _ _ _ hv', run_room0 t u o.type e i ht hi hu hd _ l' hlen (hfirst w rfl) (by simpa using hl')]; rfl, rfl, (I.kill b).newNone _, F, .val _ _ (.sl0 _ _ _), fun _ _ => ⟨rfl, fun _ => rfl⟩⟩
      · exact grown (some a') 0 [] hv' (by omega) (by simp) (by simp [Builtin.firstCells, loadCells, loadCellsFrom]) (by simp)
    · simp only [Addr.mk.injEq, and_true] at hbo
      obtain ⟨rfl, rfl⟩ := hbo
      have hrow : σ.m.row? (false, b) = some (true, e1, cs) := by simp [Mem.row?, hb]
      obtain ⟨C, e', fz, c1, c2, c3, c4, c5, c6⟩ := I.rel.row _ _ _ _ _ hk hrow
      obtain rfl := c2 rfl
      have hpl : pl.sz = i.size := by rw [c5, hce]
      by_cases hroom : len + n ≤ cap
      · have hspan : (len + n) * i.size ≤ cap * i.size := Nat.mul_le_mul_right _ hroom
        have esplit : (len + n) * i.size = len * i.size + n * i.size := Nat.add_mul _ _ _
        rw [hpl] at hn
        have hrun := run_room (w := w) t u o.type e i ht hi hu hd (a.eval x) n l' hlen (hfirst w rfl) hone' pl.B (pl.o + off) len cap e' C c1 hroom (by omega)
        refine ⟨_, _, _, _, by rw [hexec _ _ _ hv', hrun]; rfl, rfl,
          I.regrow hk hb (off := off) (ds := (cs.drop off).take (len * i.size) ++ l) (e' := e')
            (C := (C.toList.take (pl.o + off + len * i.size) ++ l' ++ C.toList.drop (pl.o + off + len * i.size + l'.length)).toArray)
            (by simp only [List.length_append, List.length_take, List.length_drop]; omega) (setRow_world w pl.B _) (setRow_size w pl.B _) (fun B hB => setRow_ne w pl.B _ hB)
            (setRow_eq w pl.B _ c1) ?_ ?_, F.mono (fun b pl q => hgrowF q _) (fun s => Rho.upd_ne _ _ (by simp)), ?_, fun s' _ => ⟨Rho.upd_ne _ _ (by simp), fun _ => rfl⟩⟩
        · simp only [List.size_toArray, List.length_append, List.length_take, List.length_drop, Array.length_toList]
          omega
        · intro j v hj
          have hlo : ((cs.drop off).take (len * i.size)).length = len * i.size := by simp; omega
          rw [List.getElem?_toArray, getElem?_splice _ _ _ _ (by simp only [Array.length_toList]; omega)]
          by_cases hjl : j < len * i.size
          · rw [List.getElem?_append_left (by omega), List.getElem?_take, if_pos hjl, List.getElem?_drop] at hj
            obtain ⟨v', q1, q2⟩ := c6 _ _ hj
            exact ⟨v', by rw [if_pos (by omega), Array.getElem?_toList, Nat.add_assoc]; exact q1, q2⟩
          · rw [List.getElem?_append_right (by omega), hlo] at hj
            obtain ⟨v', q1, q2⟩ := hll' _ _ hj
            have hjn : j - len * i.size < l'.length := by
              rcases Nat.lt_or_ge (j - len * i.size) l'.length with q | q
              · exact q
              · rw [List.getElem?_eq_none q] at q1; cases q1
            refine ⟨v', ?_, q2⟩
            rw [if_neg (by omega), if_pos (by omega), show pl.o + off + j - (pl.o + off + len * i.size) = j - len * i.size by omega]
            exact q1
        · have := VR.sl (ρ := ρ.upd (false, σ.m.h.n) ⟨pl.B, pl.o + off, pl.n - off, pl.sz⟩) σ.m.h.n 0 (len + n) (len + n) ⟨pl.B, pl.o + off, pl.n - off, pl.sz⟩ cap (Rho.upd_same _ _ _) hroom (by
            simp only [hpl]; omega)
          exact VT.val _ _ this
      · obtain ⟨q1, olds, q2, q3, q4⟩ := cells_sound I (ad := ⟨b, off, none⟩) hk (n := len * i.size) (l := (cs.drop off).take (len * i.size)) (by simp only [Mem.cells, key, Option.isSome_none, hrow]; rw [if_pos hin])
        exact grown (some ⟨pl.B, pl.o + off, none⟩) cap olds hv' (by omega) q2 (run_firstCells_some (P := P) w.drew i.size len _ len cap olds q2 (fun j v hj => by simpa using q4 j v hj)) q3
  · simp at h
end
end Go.Am
