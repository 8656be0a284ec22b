/- The abstract machine, part D: the operations that go beyond plain values. -/
import Derived.Test.YtmmbndbpjanfhaaDoorAmC
import Derived.Laws.Cells
import Derived.Laws.CopyRow
import Derived.Laws.Append
import Derived.Laws.AppendOwn
set_option linter.unusedVariables false
set_option linter.unusedSimpArgs false
set_option linter.unusedSectionVars false
namespace Go.Am
open Go

section
variable {P : Program} {ρ0 ρ ρ' : Rho} {h0 : Heap} {w0 w : World} {m : Mem}

def key (ad : Addr) : Key := (ad.spot.isSome, ad.block)
def offA (ad : Addr) (n : Nat) : Addr := ⟨ad.block, ad.off + n, ad.spot⟩

theorem VT.ptr {ad : Addr} {v' : Value} (h : VT ρ (.pointer (some ad)) v') : ∃ pl, ρ (key ad) = some pl ∧ v' = .pointer (some ⟨pl.B, pl.o + ad.off, none⟩) := by
  cases h with
  | val _ _ h => cases h with | ptr b off pl h => exact ⟨pl, h, rfl⟩
  | loc s off x pl h => exact ⟨pl, h, rfl⟩
theorem VT.ofPtr {ad : Addr} {pl : Pl} (h : ρ (key ad) = some pl) : VT ρ (.pointer (some ad)) (.pointer (some ⟨pl.B, pl.o + ad.off, none⟩)) := by
  obtain ⟨b, off, sp⟩ := ad
  cases sp with
  | none => exact .val _ _ (.ptr b off pl h)
  | some x => exact .loc b off x pl h
theorem VT.offA {ad : Addr} {pl : Pl} (h : ρ (key ad) = some pl) (n : Nat) : VT ρ (.pointer (some (Am.offA ad n))) (.pointer (some ((⟨pl.B, pl.o + ad.off, none⟩ : Addr).add n))) := by
  have := VT.ofPtr (ad := Am.offA ad n) (pl := pl) h
  rw [Addr.add_lit]
  simpa [Am.offA, Nat.add_assoc] using this

def Mem.cells (m : Mem) (ad : Addr) (n : Nat) : Option (List Value) :=
  match m.row? (key ad) with
  | some (_, _, cs) => if ad.off + n ≤ cs.length then some ((cs.drop ad.off).take n) else none
  | none => none

theorem cell?_heap {w : World} {B : Nat} {C : Array Value} {e : TypeId} {fz : Nat × Nat} (h : w.heap[B]? = some (.cells C e fz)) (o : Nat) : w.cell? ⟨B, o, none⟩ = C[o]? := by
  simp [World.cell?, h]

theorem cells_sound (I : Inv P ρ0 h0 w0 ρ m w) {ad : Addr} {pl : Pl} (hk : ρ (key ad) = some pl) {n : Nat} {l : List Value} (h : m.cells ad n = some l) :
    l.length = n ∧ ∃ l' : List Value, l'.length = n ∧ (∀ (i : Nat) (v : Value), l[i]? = some v → ∃ v', l'[i]? = some v' ∧ VR ρ v v') ∧
      ∀ (j : Nat) (v : Value), l'[j]? = some v → w.cell? ((⟨pl.B, pl.o + ad.off, none⟩ : Addr).add j) = some v := by
  unfold Mem.cells at h
  split at h
  · rename_i wr e cs hr
    split at h
    · rename_i hle
      obtain rfl := Option.some.inj h
      obtain ⟨C, e', fz, c1, c2, c3, c4, c5, c6⟩ := I.rel.row _ _ _ _ _ hk hr
      have hsz : pl.o + ad.off + n ≤ C.size := by omega
      refine ⟨by simp; omega, (C.toList.drop (pl.o + ad.off)).take n, by simp; omega, fun i v hi => ?_, fun j v hj => ?_⟩
      · rw [List.getElem?_take] at hi
        split at hi
        · rename_i hin
          rw [List.getElem?_drop] at hi
          obtain ⟨v', q1, q2⟩ := c6 _ _ hi
          refine ⟨v', ?_, q2⟩
          rw [List.getElem?_take, if_pos hin, List.getElem?_drop, Array.getElem?_toList, Nat.add_assoc]
          exact q1
        · simp at hi
      · rw [List.getElem?_take] at hj
        split at hj
        · rw [List.getElem?_drop, Array.getElem?_toList] at hj
          rw [Addr.add_lit, cell?_heap c1]
          exact hj
        · simp at hj
    · simp at h
  · simp at h

theorem vrs_agg {l l' : List Value} (hl : l.length = l'.length) (h : ∀ (i : Nat) (v : Value), l[i]? = some v → ∃ v', l'[i]? = some v' ∧ VR ρ v v') : VR ρ (.agg ⟨l⟩) (.agg ⟨l'⟩) :=
  .agg l l' hl ((vrs_zip hl).2 h)

/-- is a type a struct or an array? -/
def aggT (P : Program) (t : TypeId) : Option Bool :=
  match P.underlying t with
  | some (.struct _) | some (.array _ _) => some true
  | some _ => some false
  | none => none
theorem run_isAgg {t : TypeId} {b : Bool} (h : aggT P t = some b) (w : World) : (isAgg t).run P w = .ok b w := by
  unfold aggT at h
  unfold isAgg
  cases hu : P.underlying t with
  | none => simp [hu] at h
  | some d =>
    rw [hu] at h
    simp only [Sem.run_bind, run_underlying hu, Result.andThen_ok]
    cases d <;> simp_all
/-- a type's number of cells, if there is one -/
def szT (P : Program) (t : TypeId) : Option Nat := (P.info? t).map (·.size)
theorem run_sizeOf {t : TypeId} {n : Nat} (h : szT P t = some n) (w : World) : (sizeOf t).run P w = .ok n w := by
  unfold szT at h
  cases hi : P.info? t with
  | none => simp [hi] at h
  | some i => simp [hi] at h; simp [sizeOf, typeInfo, hi, h]

/-! #### moves -/
def opMove (σ : St) (x : Operand) : Option (Value × St) := match opnd σ x with | some v => some (v, σ) | none => none
theorem opMove_ok {σ σ' : St} {o : Oper} {x : Operand} (ho : o.op = .move x ∨ o.op = .assign x) {v : Value} (h : opMove σ x = some (v, σ')) : StepOK P o σ v σ' := by
  intro ρ0 h0 w0 ρ a w I F
  unfold opMove at h
  split at h
  · rename_i u hu
    simp only [Option.some.injEq, Prod.mk.injEq] at h
    obtain ⟨rfl, rfl⟩ := h
    refine ⟨.value (a.eval x), _, w, ρ, ?_, rfl, I, F, opnd_sound I F hu, fun _ _ => ⟨rfl, fun _ => rfl⟩⟩
    rcases ho with ho | ho <;> simp [execOp, ho]
  · simp at h

def opPick (σ : St) (c x y : Operand) : Option (Value × St) :=
  match opnd σ c with
  | some (.bool b) => match opnd σ (if b then x else y) with
    | some v => some (v, σ)
    | none => none
  | _ => none
theorem opPick_ok {σ σ' : St} {o : Oper} {c x y : Operand} (ho : o.op = .pick c x y) {v : Value} (h : opPick σ c x y = some (v, σ')) : StepOK P o σ v σ' := by
  intro ρ0 h0 w0 ρ a w I F
  unfold opPick at h
  split at h
  · rename_i b hb
    split at h
    · rename_i u hu
      simp only [Option.some.injEq, Prod.mk.injEq] at h
      obtain ⟨rfl, rfl⟩ := h
      have hc := (opnd_sound I F hb).flat2 rfl
      refine ⟨.value (a.eval (if b then x else y)), _, w, ρ, ?_, rfl, I, F, opnd_sound I F hu, fun _ _ => ⟨rfl, fun _ => rfl⟩⟩
      simp only [execOp, ho, hc, asBool]
      cases b <;> simp
    · simp at h
  · simp at h

/-! #### memory is read -/
def opLoad (P : Program) (σ : St) (t : TypeId) (x : Operand) : Option (Value × St) :=
  match opnd σ x with
  | some (.pointer (some ad)) =>
    match aggT P t, szT P t with
    | some true, some n => match σ.m.cells ad n with
      | some l => some (.agg ⟨l⟩, σ)
      | none => none
    | some false, _ => match σ.m.cells ad 1 with
      | some [v] => some (v, σ)
      | _ => none
    | _, _ => none
  | _ => none
theorem opLoad_ok {σ σ' : St} {o : Oper} {t : TypeId} {x : Operand} (ho : o.op = .load t x) {v : Value} (h : opLoad P σ t x = some (v, σ')) : StepOK P o σ v σ' := by
  intro ρ0 h0 w0 ρ a w I F
  unfold opLoad at h
  split at h
  · rename_i ad hx
    obtain ⟨pl, hk, hv⟩ := (opnd_sound I F hx).ptr
    split at h
    · rename_i n hagg hsz
      split at h
      · rename_i l hl
        simp only [Option.some.injEq, Prod.mk.injEq] at h
        obtain ⟨rfl, rfl⟩ := h
        obtain ⟨q1, l', q2, q3, q4⟩ := cells_sound I hk hl
        have hrun := run_loadCells_list (P := P) w ⟨pl.B, pl.o + ad.off, none⟩ l' q4
        rw [q2] at hrun
        refine ⟨.value (.agg ⟨l'⟩), .agg ⟨l'⟩, w, ρ, ?_, rfl, I, F, .val _ _ (vrs_agg (q1.trans q2.symm) q3), fun _ _ => ⟨rfl, fun _ => rfl⟩⟩
        simp [execOp, ho, Instr.loadAt, hv, Instr.sureAddr, loadVar, run_isAgg hagg, run_sizeOf hsz, hrun]
      · simp at h
    · rename_i hagg
      split at h
      · rename_i v1 hl
        simp only [Option.some.injEq, Prod.mk.injEq] at h
        obtain ⟨rfl, rfl⟩ := h
        obtain ⟨q1, l', q2, q3, q4⟩ := cells_sound I hk hl
        obtain ⟨v', e1, e2⟩ := q3 0 v1 rfl
        have hc := q4 0 v' e1
        rw [Addr.add_zero'] at hc
        refine ⟨.value v', v', w, ρ, ?_, rfl, I, F, .val _ _ e2, fun _ _ => ⟨rfl, fun _ => rfl⟩⟩
        simp [execOp, ho, Instr.loadAt, hv, Instr.sureAddr, loadVar, run_isAgg hagg, hc]
      · simp at h
    · simp at h
  · simp at h

/-! #### new memory -/
def one (v : Value) : Bool := v.oneCell'
/-- a new variable of type e with these cells: a box of this frame, or a row of the heap -/
def St.newVar (σ : St) (loc : List Nat) (dst : Option Nat) (e : TypeId) (cs : List Value) : Option (Value × St) :=
  match dst with
  | some s => if loc.contains s then some (.pointer (some ⟨s, 0, some 0⟩), ⟨σ.t.scrub s, ⟨σ.m.x.set s (e, cs), σ.m.h⟩⟩)
    else some (.pointer (some ⟨σ.m.h.n, 0, none⟩), ⟨σ.t, ⟨σ.m.x, σ.m.h.new (.row true e cs)⟩⟩)
  | none => none

theorem newVar_ok {σ σ' : St} {loc : List Nat} {dst : Option Nat} {e e' : TypeId} {cs : List Value} {v : Value} (h : σ.newVar loc dst e cs = some (v, σ'))
    (I : Inv P ρ0 h0 w0 ρ σ.m w) {a : Act} (F : FRel ρ σ.t a.tmps) {C : Array Value} (hn : cs.length ≤ C.size)
    (hc : ∀ (i : Nat) (v : Value), cs[i]? = some v → ∃ v', C[i]? = some v' ∧ VR ρ v v') :
    ∃ ρ', Inv P ρ0 h0 w0 ρ' σ'.m (w.alloc (.cells C e')) ∧ FRel ρ' σ'.t a.tmps ∧ VT ρ' v (.pointer (some ⟨w.heap.size, 0, none⟩)) ∧
      ∀ s, (∀ d, dst = some d → d ≠ s) → ρ' (true, s) = ρ (true, s) ∧ (ρ (true, s) = none → σ'.m.x s = σ.m.x s) := by
  unfold St.newVar at h
  have hfit : Fits P ρ (.row true e cs) (.cells C e' (0, 0)) ⟨w.heap.size, 0, C.size, P.cellsOf e⟩ := .row e e' cs C _ hn hc
  split at h
  · rename_i s
    split at h
    · simp only [Option.some.injEq, Prod.mk.injEq] at h
      obtain ⟨rfl, rfl⟩ := h
      refine ⟨_, I.newB s hfit rfl, F.scrub s _, ?_, fun s' hs' => ⟨Rho.upd_ne _ _ (by have := hs' s rfl; simp; exact fun z => this z.symm), fun _ => by simp only [Boxes.set]; rw [if_neg (hs' s rfl)]⟩⟩
      have := VT.ofPtr (ρ := ρ.upd (true, s) ⟨w.heap.size, 0, C.size, P.cellsOf e⟩) (ad := ⟨s, 0, some 0⟩) (pl := ⟨w.heap.size, 0, C.size, P.cellsOf e⟩) (by simp [key, Rho.upd])
      simpa using this
    · simp only [Option.some.injEq, Prod.mk.injEq] at h
      obtain ⟨rfl, rfl⟩ := h
      have hnone : ∀ pl', ρ (false, σ.m.h.n) ≠ some pl' := fun pl' h => Nat.lt_irrefl _ (I.rel.dom _ _ h)
      refine ⟨_, I.newH hfit rfl, F.mono (fun b pl q => ?_) (fun s => Rho.upd_ne _ _ (by simp)), ?_, fun s' _ => ⟨Rho.upd_ne _ _ (by simp), fun _ => rfl⟩⟩
      · rw [Rho.upd_ne]; exact q
        intro z; simp only [Prod.mk.injEq, true_and] at z; subst z; exact hnone _ q
      · have := VT.ofPtr (ρ := ρ.upd (false, σ.m.h.n) ⟨w.heap.size, 0, C.size, P.cellsOf e⟩) (ad := ⟨σ.m.h.n, 0, none⟩) (pl := ⟨w.heap.size, 0, C.size, P.cellsOf e⟩) (by simp [key, Rho.upd])
        simpa using this
  · simp at h

def zeroT (P : Program) (t : TypeId) : Option (List Value) :=
  match P.info? t with
  | some i => match i.zero with
    | some z => if z.cells.toList.all flat1 then some z.cells.toList else none
    | none => none
  | none => none
theorem run_zeroValue {t : TypeId} {l : List Value} (h : zeroT P t = some l) : ∃ z, z.cells = ⟨l⟩ ∧ (∀ v ∈ l, flat1 v = true) ∧ ∀ w, (zeroValue t).run P w = .ok z w := by
  unfold zeroT at h
  cases hi : P.info? t with
  | none => simp [hi] at h
  | some i =>
    simp only [hi] at h
    cases hz : i.zero with
    | none => simp [hz] at h
    | some z =>
      simp only [hz] at h
      split at h
      · rename_i hall
        obtain rfl := Option.some.inj h
        exact ⟨z, by simp, fun v hv => List.all_eq_true.mp hall v hv, fun w => by simp [zeroValue, typeInfo, hi, hz]⟩
      · simp at h
theorem flat_self {l : List Value} (h : ∀ v ∈ l, flat1 v = true) : ∀ (i : Nat) (v : Value), l[i]? = some v → ∃ v', (⟨l⟩ : Array Value)[i]? = some v' ∧ VR ρ v v' :=
  fun i v hi => ⟨v, by simpa using hi, .of_flat1 (h v (List.mem_of_getElem? hi))⟩

def opAlloc (P : Program) (loc : List Nat) (σ : St) (dst : Option Nat) (t : TypeId) : Option (Value × St) :=
  match zeroT P t with
  | some l => σ.newVar loc dst t l
  | none => none
theorem opAlloc_ok {σ σ' : St} {o : Oper} {loc : List Nat} {t : TypeId} (ho : o.op = .alloc t) {v : Value} (h : opAlloc P loc σ o.dst t = some (v, σ')) : StepOK P o σ v σ' := by
  intro ρ0 h0 w0 ρ a w I F
  unfold opAlloc at h
  split at h
  · rename_i l hl
    obtain ⟨z, hz, hf, hrun⟩ := run_zeroValue hl
    obtain ⟨ρ', J, F', V, X⟩ := newVar_ok (e' := t) (C := ⟨l⟩) h I F (by simp) (flat_self hf)
    refine ⟨.value (.pointer (some ⟨w.heap.size, 0, none⟩)), _, _, ρ', ?_, rfl, J, F', V, X⟩
    simp [execOp, ho, Instr.alloc, hrun, newVar, newRow, hz]
  · simp at h

theorem VR.cells {v v' : Value} (h : VR ρ v v') : v.cells.toList.length = v'.cells.toList.length ∧ ∀ (i : Nat) (u : Value), v.cells.toList[i]? = some u → ∃ u', v'.cells.toList[i]? = some u' ∧ VR ρ u u' := by
  have triv : ∀ {v v' : Value}, VR ρ v v' → v.cells = #[v] → v'.cells = #[v'] → v.cells.toList.length = v'.cells.toList.length ∧ ∀ (i : Nat) (u : Value), v.cells.toList[i]? = some u → ∃ u', v'.cells.toList[i]? = some u' ∧ VR ρ u u' := by
    intro v v' h e1 e2
    rw [e1, e2]
    refine ⟨rfl, fun i u hi => ?_⟩
    cases i with
    | zero => simp at hi; subst hi; exact ⟨v', rfl, h⟩
    | succ i => simp at hi
  cases h with
  | agg cs ds hl h => exact ⟨hl, (vrs_zip hl).1 h⟩
  | bool b => exact triv (.bool b) rfl rfl
  | int k n => exact triv (.int k n) rfl rfl
  | string s => exact triv (.string s) rfl rfl
  | nilp => exact triv .nilp rfl rfl
  | nilm => exact triv .nilm rfl rfl
  | nilf => exact triv .nilf rfl rfl
  | nili => exact triv .nili rfl rfl
  | ptr b off pl h => exact triv (.ptr b off pl h) rfl rfl
  | mp b pl h => exact triv (.mp b pl h) rfl rfl
  | sln => exact triv .sln rfl rfl
  | sl0 a a' c => exact triv (.sl0 a a' c) rfl rfl
  | sl b off len c pl cap h hc hn => exact triv (.sl b off len c pl cap h hc hn) rfl rfl
  | iface t v v' h => exact triv (.iface t v v' h) rfl rfl
  | tuple cs ds hl h => exact triv (.tuple cs ds hl h) rfl rfl
  | func fn as as' cs ds ha hl h1 h => exact triv (.func fn as as' cs ds ha hl h1 h) rfl rfl

def opBox (loc : List Nat) (σ : St) (dst : Option Nat) (t : TypeId) (x : Operand) : Option (Value × St) :=
  match opnd σ x with
  | some v => if noLoc v then σ.newVar loc dst t v.cells.toList else none
  | none => none
theorem opBox_ok {σ σ' : St} {o : Oper} {loc : List Nat} {t : TypeId} {x : Operand} (ho : o.op = .box t x) {v : Value} (h : opBox loc σ o.dst t x = some (v, σ')) : StepOK P o σ v σ' := by
  intro ρ0 h0 w0 ρ a w I F
  unfold opBox at h
  split at h
  · rename_i u hu
    split at h
    · rename_i hnl
      have hc := ((opnd_sound I F hu).noLoc hnl).cells
      obtain ⟨ρ', J, F', V, X⟩ := newVar_ok (e' := t) (C := (a.eval x).cells) h I F (by rw [hc.1]; simp) (fun i v hi => by simpa using hc.2 i v hi)
      refine ⟨.value (.pointer (some ⟨w.heap.size, 0, none⟩)), _, _, ρ', ?_, rfl, J, F', V, X⟩
      simp [execOp, ho, Instr.box, newVar, newRow]
    · simp at h
  · simp at h

/-! #### stores -/
def setL (cs : List Value) (j : Nat) (vs : List Value) : List Value := cs.take j ++ vs ++ cs.drop (j + vs.length)
def opStore (P : Program) (σ : St) (t : TypeId) (x y : Operand) : Option (Value × St) :=
  match opnd σ x, opnd σ y with
  | some (.pointer (some ad)), some v =>
    match σ.m.row? (key ad), szT P t with
    | some (true, e, cs), some n =>
      if noLoc v && v.cells.toList.length == n && v.cells.toList.all one && decide (ad.off + n ≤ cs.length) then
        some (undef, ⟨σ.t, σ.m.setRow (key ad) e (setL cs ad.off v.cells.toList)⟩)
      else none
    | _, _ => none
  | _, _ => none
theorem VR.one {v v' : Value} (h : VR ρ v v') (ho : Am.one v = true) : v'.oneCell' = true := by
  cases h <;> simp_all [Am.one, Value.oneCell']
theorem setRow_world (w : World) (g : Nat) (cs : Array Value) : w.setRow g cs = { w with heap := (w.setRow g cs).heap } := rfl
theorem setRow_size (w : World) (g : Nat) (cs : Array Value) : (w.setRow g cs).heap.size = w.heap.size := by simp [World.setRow]
theorem setRow_ne (w : World) (g : Nat) (cs : Array Value) {B : Nat} (h : B ≠ g) : (w.setRow g cs).heap[B]? = w.heap[B]? := by
  simp only [World.setRow, Array.getElem?_modify]
  rw [if_neg (Ne.symm h)]
theorem setRow_eq (w : World) (g : Nat) (cs : Array Value) {C : Array Value} {e : TypeId} {fz : Nat × Nat} (h : w.heap[g]? = some (.cells C e fz)) : (w.setRow g cs).heap[g]? = some (.cells cs e fz) := by
  simp only [World.setRow, Array.getElem?_modify, h]
  rfl
theorem getElem?_splice (C vs : List Value) (j i : Nat) (h : j + vs.length ≤ C.length) :
    (C.take j ++ vs ++ C.drop (j + vs.length))[i]? = if i < j then C[i]? else if i < j + vs.length then vs[i - j]? else C[i]? := by
  have hl : (C.take j).length = j := by simp; omega
  by_cases h1 : i < j
  · rw [if_pos h1, List.append_assoc, List.getElem?_append_left (by omega), List.getElem?_take, if_pos h1]
  · rw [if_neg h1]
    by_cases h2 : i < j + vs.length
    · rw [if_pos h2, List.getElem?_append_left (by simp; omega), List.getElem?_append_right (by omega), hl]
    · rw [if_neg h2, List.getElem?_append_right (by simp; omega), List.getElem?_drop]
      congr 1
      simp; omega
/-- cells are written into a row: world and abstract row go together -/
theorem splice_rel {cs vs vs' : List Value} {C : Array Value} {o off n : Nat} (hlen : vs.length = vs'.length) (hin : off + vs.length ≤ cs.length) (hn : cs.length ≤ n) (hC : o + n ≤ C.size)
    (h : ∀ (i : Nat) (v : Value), cs[i]? = some v → ∃ v', C[o + i]? = some v' ∧ VR ρ v v')
    (hv : ∀ (i : Nat) (v : Value), vs[i]? = some v → ∃ v', vs'[i]? = some v' ∧ VR ρ v v') :
    ∀ (i : Nat) (v : Value), (setL cs off vs)[i]? = some v → ∃ v', (C.toList.take (o + off) ++ vs' ++ C.toList.drop (o + off + vs'.length)).toArray[o + i]? = some v' ∧ VR ρ v v' := by
  intro i v hi
  unfold setL at hi
  rw [getElem?_splice _ _ _ _ hin] at hi
  rw [List.getElem?_toArray, getElem?_splice _ _ _ _ (by rw [← hlen]; simp only [Array.length_toList]; omega)]
  by_cases h1 : i < off
  · rw [if_pos h1] at hi
    rw [if_pos (by omega), Array.getElem?_toList]
    exact h i v hi
  · rw [if_neg h1] at hi
    rw [if_neg (by omega)]
    by_cases h2 : i < off + vs.length
    · rw [if_pos h2] at hi
      rw [if_pos (by omega), show o + i - (o + off) = i - off by omega]
      exact hv _ v hi
    · rw [if_neg h2] at hi
      rw [if_neg (by omega), Array.getElem?_toList]
      exact h i v hi
theorem opStore_ok {σ σ' : St} {o : Oper} {t : TypeId} {x y : Operand} (ho : o.op = .store t x y) {v : Value} (h : opStore P σ t x y = some (v, σ')) : StepOK P o σ v σ' := by
  intro ρ0 h0 w0 ρ a w I F
  unfold opStore at h
  split at h
  · rename_i ad u hx hy
    split at h
    · rename_i e cs n hr hsz
      split at h
      · rename_i hall
        simp only [Bool.and_eq_true, beq_iff_eq, decide_eq_true_eq] at hall
        obtain ⟨⟨⟨hnl, hlen⟩, hone⟩, hin⟩ := hall
        simp only [Option.some.injEq, Prod.mk.injEq] at h
        obtain ⟨rfl, rfl⟩ := h
        obtain ⟨pl, hk, hv⟩ := (opnd_sound I F hx).ptr
        have hc := ((opnd_sound I F hy).noLoc hnl).cells
        obtain ⟨C, e', fz, c1, c2, c3, c4, c5, c6⟩ := I.rel.row _ _ _ _ _ hk hr
        obtain rfl := c2 rfl
        have hone' : ∀ z ∈ (a.eval y).cells.toList, z.oneCell' = true := fun z hz => by
          rw [List.mem_iff_getElem?] at hz
          obtain ⟨i, hi⟩ := hz
          have hlt : i < (a.eval y).cells.toList.length := by
            rcases Nat.lt_or_ge i (a.eval y).cells.toList.length with q | q
            · exact q
            · rw [List.getElem?_eq_none q] at hi; cases hi
          rw [← hc.1] at hlt
          obtain ⟨z', q1, q2⟩ := hc.2 i _ (List.getElem?_eq_getElem hlt)
          rw [hi] at q1
          obtain rfl := Option.some.inj q1
          exact q2.one (List.all_eq_true.mp hone _ (List.getElem_mem hlt))
        have hst := run_storeCells_at P pl.B (pl.o + ad.off) e' (a.eval y).cells.toList 0 C w c1 (by rw [← hc.1]; omega) hone'
        simp only [Nat.add_zero] at hst
        refine ⟨.skip, undef, w.setRow pl.B (C.toList.take (pl.o + ad.off) ++ (a.eval y).cells.toList ++ C.toList.drop (pl.o + ad.off + (a.eval y).cells.toList.length)).toArray, ρ, ?_, rfl, I.putRow hk hr (ds := setL cs ad.off u.cells.toList) (by simp only [setL, List.length_append, List.length_take, List.length_drop]; omega)
          (setRow_world w pl.B _) (setRow_size w pl.B _) (fun B hB => setRow_ne w pl.B _ hB) (setRow_eq w pl.B _ c1) ?_ ?_, F, .of_flat2 rfl, fun s' _ => ⟨rfl, fun hn => ?_⟩⟩
        rotate_left 3
        · obtain ⟨b, off, sp⟩ := ad
          cases sp with
          | none => rfl
          | some z =>
            have : b ≠ s' := fun q => by subst q; simp [key] at hk; rw [hn] at hk; cases hk
            simp [key, Mem.setRow, Boxes.set, this]
        · have hsz' : (a.eval y).cells.size = n := by rw [← hlen, hc.1]; simp
          simp [execOp, ho, Instr.storeAt, hv, Instr.sureAddr, storeVar, run_sizeOf hsz, hsz', hst]
        · simp only [List.size_toArray, List.length_append, List.length_take, List.length_drop, Array.length_toList]
          have : (a.eval y).cells.toList.length = n := by rw [← hc.1, hlen]
          simp only [Array.length_toList] at this
          omega
        · exact splice_rel hc.1 (by rw [hlen]; exact hin) c3 c4 c6 hc.2
      · simp at h
    · simp at h
  · simp at h
end
end Go.Am
