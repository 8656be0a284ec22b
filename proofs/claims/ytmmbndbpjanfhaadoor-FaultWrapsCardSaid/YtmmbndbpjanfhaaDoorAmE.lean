/- The abstract machine, part E: places, parts, slices, calls of builtins. -/
import Derived.Test.YtmmbndbpjanfhaaDoorAmD
import Derived.Laws.RangeString
set_option linter.unusedVariables false
set_option linter.unusedSimpArgs false
set_option linter.unusedSectionVars false
namespace Go.Am
open Go

section
variable {P : Program} {ρ0 ρ ρ' : Rho} {h0 : Heap} {w0 w : World} {m : Mem}

def fldT (P : Program) (s f : Nat) : Option Field := match P.underlying s with
  | some (.struct fs) => fs[f]?
  | _ => none
theorem fldT_some {s f : Nat} {x : Field} (h : fldT P s f = some x) : ∃ fs, P.underlying s = some (.struct fs) ∧ fs[f]? = some x := by
  unfold fldT at h
  split at h
  · rename_i fs hu; exact ⟨fs, hu, h⟩
  · simp at h
/-- a field's place and its cells; what has no cells is not served -/
def offT (P : Program) (s f : Nat) : Option (Nat × TypeId × Nat) := match fldT P s f with
  | some x => match szT P x.type with
    | some n => if n = 0 then none else some (x.offset, x.type, n)
    | none => none
  | none => none
theorem offT_some {s f off t n : Nat} (h : offT P s f = some (off, t, n)) : ∃ fs x, P.underlying s = some (.struct fs) ∧ fs[f]? = some x ∧ x.offset = off ∧ x.type = t ∧ szT P t = some n ∧ n ≠ 0 := by
  unfold offT at h
  split at h
  · rename_i x hx
    split at h
    · rename_i k hk
      split at h
      · simp at h
      · rename_i hn
        simp only [Option.some.injEq, Prod.mk.injEq] at h
        obtain ⟨rfl, rfl, rfl⟩ := h
        obtain ⟨fs, q1, q2⟩ := fldT_some hx
        exact ⟨fs, x, q1, q2, rfl, rfl, hk, hn⟩
    · simp at h
  · simp at h

def opFieldAddr (P : Program) (σ : St) (s : TypeId) (x : Operand) (f : Nat) : Option (Value × St) :=
  match opnd σ x, offT P s f with
  | some (.pointer (some ad)), some (off, _, _) => some (.pointer (some (offA ad off)), σ)
  | _, _ => none
theorem opFieldAddr_ok {σ σ' : St} {o : Oper} {s : TypeId} {x : Operand} {f : Nat} (ho : o.op = .fieldAddr s x f) {v : Value} (h : opFieldAddr P σ s x f = some (v, σ')) : StepOK P o σ v σ' := by
  intro ρ0 h0 w0 ρ a w I F
  unfold opFieldAddr at h
  split at h
  · rename_i ad off t n hx hoff
    simp only [Option.some.injEq, Prod.mk.injEq] at h
    obtain ⟨rfl, rfl⟩ := h
    obtain ⟨pl, hk, hv⟩ := (opnd_sound I F hx).ptr
    obtain ⟨fs, fd, q1, q2, rfl, rfl, q5, q6⟩ := offT_some hoff
    refine ⟨.value (.pointer (some ((⟨pl.B, pl.o + ad.off, none⟩ : Addr).add fd.offset))), _, w, ρ, ?_, rfl, I, F, VT.offA hk _, fun _ _ => ⟨rfl, fun _ => rfl⟩⟩
    simp [execOp, ho, Instr.fieldAt, run_underlying q1, q2, hv, Instr.sureAddr, fieldPlace, run_sizeOf q5, q6]
  · simp at h

theorem vrs_sub {l l' : List Value} (h : ∀ (i : Nat) (v : Value), l[i]? = some v → ∃ v', l'[i]? = some v' ∧ VR ρ v v') (off n : Nat) :
    ∀ (i : Nat) (v : Value), ((l.drop off).take n)[i]? = some v → ∃ v', ((l'.drop off).take n)[i]? = some v' ∧ VR ρ v v' := by
  intro i v hi
  rw [List.getElem?_take] at hi
  split at hi
  · rename_i hin
    rw [List.getElem?_drop] at hi
    obtain ⟨v', q1, q2⟩ := h _ _ hi
    exact ⟨v', by rw [List.getElem?_take, if_pos hin, List.getElem?_drop]; exact q1, q2⟩
  · simp at hi
/-- a part of a struct's cells -/
def partL (P : Program) (t : TypeId) (n : Nat) (cs : List Value) (off : Nat) : Option Value :=
  match aggT P t with
  | some true => some (.agg ⟨(cs.drop off).take n⟩)
  | some false => cs[off]?
  | none => none
theorem partL_ok {t : TypeId} {n off : Nat} {cs ds : List Value} {v : Value} (hn : szT P t = some n) (h : partL P t n cs off = some v) (hl : cs.length = ds.length)
    (hc : ∀ (i : Nat) (v : Value), cs[i]? = some v → ∃ v', ds[i]? = some v' ∧ VR ρ v v') (w : World) :
    ∃ v', (part t ⟨ds⟩ off).run P w = .ok v' w ∧ VR ρ v v' := by
  unfold partL at h
  split at h
  · rename_i ha
    obtain rfl := Option.some.inj h
    refine ⟨.agg ⟨(ds.drop off).take n⟩, ?_, vrs_agg (by simp [hl]) (vrs_sub hc off n)⟩
    simp only [part, Sem.run_bind, run_isAgg ha, Result.andThen_ok, if_true, run_sizeOf hn, Sem.run_pure]
    congr 2
    simp [List.extract_toArray]
  · rename_i ha
    obtain ⟨v', q1, q2⟩ := hc _ _ h
    refine ⟨v', ?_, q2⟩
    simp [part, run_isAgg ha, q1]
  · simp at h

def opField (P : Program) (σ : St) (s : TypeId) (x : Operand) (f : Nat) : Option (Value × St) :=
  match opnd σ x, offT P s f with
  | some (.agg cs), some (off, t, n) => match partL P t n cs.toList off with
    | some v => some (v, σ)
    | none => none
  | _, _ => none
theorem opField_ok {σ σ' : St} {o : Oper} {s : TypeId} {x : Operand} {f : Nat} (ho : o.op = .field s x f) {v : Value} (h : opField P σ s x f = some (v, σ')) : StepOK P o σ v σ' := by
  intro ρ0 h0 w0 ρ a w I F
  unfold opField at h
  split at h
  · rename_i cs off t n hx hoff
    split at h
    · rename_i u hu
      simp only [Option.some.injEq, Prod.mk.injEq] at h
      obtain ⟨rfl, rfl⟩ := h
      obtain ⟨fs, fd, q1, q2, rfl, rfl, q5, q6⟩ := offT_some hoff
      have hv := (opnd_sound I F hx).noLoc rfl
      generalize hx' : a.eval x = x' at hv
      cases hv with
      | agg cs ds hl hz =>
        obtain ⟨v', e1, e2⟩ := partL_ok q5 hu hl ((vrs_zip hl).1 hz) w
        refine ⟨.value v', _, w, ρ, ?_, rfl, I, F, .val _ _ e2, fun _ _ => ⟨rfl, fun _ => rfl⟩⟩
        simp [execOp, ho, Instr.field, run_underlying q1, q2, hx', asAgg, e1]
    · simp at h
  · simp at h

def elemT (P : Program) (t : TypeId) : Option (TypeId × Nat) := match P.underlying t with
  | some (.slice e) => match szT P e with
    | some n => some (e, n)
    | none => none
  | _ => none
theorem elemT_some {t e n : Nat} (h : elemT P t = some (e, n)) : P.underlying t = some (.slice e) ∧ szT P e = some n := by
  unfold elemT at h
  split at h
  · rename_i e' hu
    split at h
    · rename_i n' hn
      simp only [Option.some.injEq, Prod.mk.injEq] at h
      obtain ⟨rfl, rfl⟩ := h
      exact ⟨hu, hn⟩
    · simp at h
  · simp at h
theorem VR.slice_some {ad : Addr} {len c : Nat} {v' : Value} (h : VR ρ (.slice (some ad) len c) v') :
    (∃ a', len = 0 ∧ v' = .slice (some a') 0 0) ∨
    ∃ b off pl cap, ad = ⟨b, off, none⟩ ∧ ρ (false, b) = some pl ∧ len ≤ cap ∧ off + cap * pl.sz ≤ pl.n ∧ v' = .slice (some ⟨pl.B, pl.o + off, none⟩) len cap := by
  cases h with
  | sl0 a a' c => exact .inl ⟨a', rfl, rfl⟩
  | sl b off len c pl cap h hc hn => exact .inr ⟨b, off, pl, cap, rfl, h, hc, hn, rfl⟩

def opIndexAddr (P : Program) (σ : St) (t : TypeId) (x i : Operand) : Option (Value × St) :=
  match opnd σ x, opnd σ i with
  | some (.slice (some ad) len _), some (.int _ n) =>
    match elemT P t with
    | some (_, s) => if 0 ≤ n ∧ n < len then some (.pointer (some (offA ad (n.toNat * s))), σ) else none
    | none => none
  | _, _ => none
theorem opIndexAddr_ok {σ σ' : St} {o : Oper} {t : TypeId} {x i : Operand} (ho : o.op = .indexAddr t x i) {v : Value} (h : opIndexAddr P σ t x i = some (v, σ')) : StepOK P o σ v σ' := by
  intro ρ0 h0 w0 ρ a w I F
  unfold opIndexAddr at h
  split at h
  · rename_i ad len c k n hx hi
    split at h
    · rename_i e s he
      split at h
      · rename_i hin
        simp only [Option.some.injEq, Prod.mk.injEq] at h
        obtain ⟨rfl, rfl⟩ := h
        obtain ⟨q1, q2⟩ := elemT_some he
        have hv := (opnd_sound I F hx).noLoc rfl
        have hiv := (opnd_sound I F hi).flat2 rfl
        rcases hv.slice_some with ⟨a', hl, _⟩ | ⟨b, off, pl, cap, rfl, hk, hc, hn, hv'⟩
        · omega
        · refine ⟨.value (.pointer (some ((⟨pl.B, pl.o + off, none⟩ : Addr).add (n.toNat * s)))), _, w, ρ, ?_, rfl, I, F, VT.offA (ad := ⟨b, off, none⟩) hk _, fun _ _ => ⟨rfl, fun _ => rfl⟩⟩
          simp [execOp, ho, Instr.indexAt, hiv, asIntOf, run_underlying q1, hv', hin, run_sizeOf q2]
      · simp at h
    · simp at h
  · simp at h

def opExtract (σ : St) (x : Operand) (k : Nat) : Option (Value × St) :=
  match opnd σ x with
  | some (.tuple vs) => match vs.toList[k]? with
    | some v => some (v, σ)
    | none => none
  | _ => none
theorem opExtract_ok {σ σ' : St} {o : Oper} {x : Operand} {k : Nat} (ho : o.op = .extract x k) {v : Value} (h : opExtract σ x k = some (v, σ')) : StepOK P o σ v σ' := by
  intro ρ0 h0 w0 ρ a w I F
  unfold opExtract at h
  split at h
  · rename_i vs hx
    split at h
    · rename_i u hu
      simp only [Option.some.injEq, Prod.mk.injEq] at h
      obtain ⟨rfl, rfl⟩ := h
      have hv := (opnd_sound I F hx).noLoc rfl
      generalize hx' : a.eval x = x' at hv
      cases hv with
      | tuple cs ds hl hz =>
        obtain ⟨v', e1, e2⟩ := (vrs_zip hl).1 hz _ _ hu
        refine ⟨.value v', _, w, ρ, ?_, rfl, I, F, .val _ _ e2, fun _ _ => ⟨rfl, fun _ => rfl⟩⟩
        simp [execOp, ho, hx', Instr.extract, e1]
    · simp at h
  · simp at h

def opMakeIface (P : Program) (σ : St) (t : TypeId) (x : Operand) : Option (Value × St) :=
  match P.underlying t with
  | some (.interface _) => none
  | some _ => match opnd σ x with
    | some v => if noLoc v then some (.iface t v, σ) else none
    | none => none
  | none => none
theorem opMakeIface_ok {σ σ' : St} {o : Oper} {t : TypeId} {x : Operand} (ho : o.op = .makeInterface t x) {v : Value} (h : opMakeIface P σ t x = some (v, σ')) : StepOK P o σ v σ' := by
  intro ρ0 h0 w0 ρ a w I F
  unfold opMakeIface at h
  split at h
  · simp at h
  · rename_i d hni hd
    split at h
    · rename_i u hx
      split at h
      · rename_i hnl
        simp only [Option.some.injEq, Prod.mk.injEq] at h
        obtain ⟨rfl, rfl⟩ := h
        refine ⟨.value (.iface t (a.eval x)), _, w, ρ, ?_, rfl, I, F, .val _ _ (.iface _ _ _ ((opnd_sound I F hx).noLoc hnl)), fun _ _ => ⟨rfl, fun _ => rfl⟩⟩
        simp only [execOp, ho, Instr.makeInterface, Sem.run_bind, run_underlying hd, Result.andThen_ok]
        cases d <;> first | rfl | (exact absurd rfl (hni _))
      · simp at h
    · simp at h
  · simp at h

theorem mapM_opnds {σ : St} (I : Inv P ρ0 h0 w0 ρ σ.m w) {a : Act} (F : FRel ρ σ.t a.tmps) : ∀ {l : List Operand} {vs : List Value}, l.mapM (opnd σ) = some vs → vs.all noLoc = true →
    vs.length = (l.map a.eval).length ∧ ∀ (i : Nat) (v : Value), vs[i]? = some v → ∃ v', (l.map a.eval)[i]? = some v' ∧ VR ρ v v' := by
  intro l
  induction l with
  | nil => intro vs h _; simp at h; subst h; simp
  | cons x r ih =>
    intro vs h hn
    rw [List.mapM_cons] at h
    cases hx : opnd σ x with
    | none => simp [hx] at h
    | some v =>
      cases hr : r.mapM (opnd σ) with
      | none => simp [hx, hr] at h
      | some us =>
        simp [hx, hr] at h
        subst h
        simp only [List.all_cons, Bool.and_eq_true] at hn
        obtain ⟨q1, q2⟩ := ih hr hn.2
        refine ⟨by simpa using q1, fun i u hi => ?_⟩
        cases i with
        | zero => simp at hi; subst hi; exact ⟨_, rfl, (opnd_sound I F hx).noLoc hn.1⟩
        | succ i => exact q2 i u (by simpa using hi)

def opMakeFunc (σ : St) (fn : Fn) (first cap : Array Operand) : Option (Value × St) :=
  match first.toList.mapM (opnd σ), cap.toList.mapM (opnd σ) with
  | some as, some cs => if as.all noLoc && cs.all noLoc then some (.func fn ⟨as⟩ ⟨cs⟩, σ) else none
  | _, _ => none
theorem opMakeFunc_ok {σ σ' : St} {o : Oper} {fn : Fn} {first cap : Array Operand} (ho : o.op = .makeFunc fn first cap) {v : Value} (h : opMakeFunc σ fn first cap = some (v, σ')) : StepOK P o σ v σ' := by
  intro ρ0 h0 w0 ρ a w I F
  unfold opMakeFunc at h
  split at h
  · rename_i as cs ha hc
    split at h
    · rename_i hnl
      rw [Bool.and_eq_true] at hnl
      simp only [Option.some.injEq, Prod.mk.injEq] at h
      obtain ⟨rfl, rfl⟩ := h
      obtain ⟨p1, p2⟩ := mapM_opnds I F ha hnl.1
      obtain ⟨q1, q2⟩ := mapM_opnds I F hc hnl.2
      refine ⟨.value (.func fn ⟨first.toList.map a.eval⟩ ⟨cap.toList.map a.eval⟩), _, w, ρ, ?_, rfl, I, F,
        .val _ _ (.func _ _ _ _ _ p1 q1 ((vrs_zip p1).2 p2) ((vrs_zip q1).2 q2)), fun _ _ => ⟨rfl, fun _ => rfl⟩⟩
      have e1 : first.map a.eval = ⟨first.toList.map a.eval⟩ := by apply Array.ext'; simp
      have e2 : cap.map a.eval = ⟨cap.toList.map a.eval⟩ := by apply Array.ext'; simp
      simp [execOp, ho, Instr.makeFunc, e1, e2]
    · simp at h
  · simp at h

/-! #### slices -/
/-- the number of cells of an element of a row of type e -/
def szE (P : Program) (m : Mem) (b : Nat) : Option Nat := match m.row? (false, b) with
  | some (_, e, _) => some (P.cellsOf e)
  | none => none
def boundA (σ : St) (x : Option Operand) (dflt : Nat) : Option Nat := match x with
  | none => some dflt
  | some i => match opnd σ i with
    | some (.int _ n) => if 0 ≤ n then some n.toNat else none
    | _ => none
def opSlice (P : Program) (σ : St) (t : TypeId) (x : Operand) (lo hi : Option Operand) : Option (Value × St) :=
  match opnd σ x with
  | some (.slice (some ad) len _) =>
    match elemT P t, boundA σ lo 0, boundA σ hi len, szE P σ.m ad.block with
    | some (_, s), some l, some h, some s' => if l ≤ h ∧ h ≤ len ∧ s = s' then some (.slice (some (offA ad (l * s))) (h - l) (h - l), σ) else none
    | _, _, _, _ => none
  | some (.slice none 0 0) =>
    match elemT P t, boundA σ lo 0, boundA σ hi 0 with
    | some _, some 0, some 0 => some (.slice none 0 0, σ)
    | _, _, _ => none
  | _ => none
theorem run_sliceBound {σ : St} (I : Inv P ρ0 h0 w0 ρ σ.m w) {a : Act} (F : FRel ρ σ.t a.tmps) {i : Operand} {dflt n : Nat} (h : boundA σ (some i) dflt = some n) (y : Nat) (c : BoundsCode) (hy : n ≤ y) :
    (Instr.sliceBound (a.eval i) y c).run P w = .ok n w := by
  unfold boundA at h
  split at h
  · cases ‹some i = none›
  · rename_i j hj
    obtain rfl := Option.some.inj hj
    split at h
    · rename_i k z hz
      split at h
      · rename_i h0z
        obtain rfl := Option.some.inj h
        have := (opnd_sound I F hz).flat2 rfl
        have hzy : z ≤ (y : Int) := by omega
        simp [Instr.sliceBound, this, asIntOf, h0z, hzy]
      · simp at h
    · simp at h
theorem opSlice_ok {σ σ' : St} {o : Oper} {t : TypeId} {x : Operand} {lo hi : Option Operand} (ho : o.op = .slice t x lo hi none) {v : Value} (h : opSlice P σ t x lo hi = some (v, σ')) : StepOK P o σ v σ' := by
  intro ρ0 h0 w0 ρ a w I F
  unfold opSlice at h
  split at h
  · rename_i ad len c hx
    split at h
    · rename_i e s l hh s' he hlo hhi hs'
      split at h
      · rename_i hle
        obtain ⟨hlh, hhl, rfl⟩ := hle
        simp only [Option.some.injEq, Prod.mk.injEq] at h
        obtain ⟨rfl, rfl⟩ := h
        obtain ⟨q1, q2⟩ := elemT_some he
        have hv := (opnd_sound I F hx).noLoc rfl
        have hb : ∀ cap, len ≤ cap → (Instr.sliceBounds true len cap (lo.map a.eval) (hi.map a.eval) none).run P w = .ok (l, hh, cap) w := by
          intro cap hcap
          cases hi with
          | none =>
            simp only [boundA, Option.some.injEq] at hhi; subst hhi
            cases lo with
            | none => simp only [boundA, Option.some.injEq] at hlo; subst hlo; simp [Instr.sliceBounds]
            | some i => simp [Instr.sliceBounds, run_sliceBound I F hlo _ _ hlh]
          | some j =>
            have hj := run_sliceBound I F hhi cap .sliceAcap (by omega)
            cases lo with
            | none => simp only [boundA, Option.some.injEq] at hlo; subst hlo; simp [Instr.sliceBounds, hj]
            | some i => simp [Instr.sliceBounds, hj, run_sliceBound I F hlo _ _ hlh]
        have hrun : ∀ base cap, len ≤ cap → a.eval x = .slice base len cap → (execOp a.eval o).run P w = .ok (.value (.slice (if cap = l then base else base.map (·.add (l * s))) (hh - l) (cap - l))) w := by
          intro base cap hcap hxv
          simp [execOp, ho, Instr.sliceAt, run_underlying q1, hxv, Instr.slice, hb cap hcap, run_sizeOf q2]
        rcases hv.slice_some with ⟨a', rfl, hv'⟩ | ⟨b, off, pl, cap, rfl, hk, hc, hn, hv'⟩
        · have hl0 : l = 0 := by omega
          have hh0 : hh = 0 := by omega
          subst hl0; subst hh0
          refine ⟨_, _, w, ρ, hrun _ _ (Nat.le_refl _) hv', rfl, I, F, ?_, fun _ _ => ⟨rfl, fun _ => rfl⟩⟩
          simp only [if_true]
          exact .val _ _ (.sl0 _ _ _)
        · refine ⟨_, _, w, ρ, hrun _ _ hc hv', rfl, I, F, ?_, fun _ _ => ⟨rfl, fun _ => rfl⟩⟩
          by_cases hcl : cap = l
          · subst hcl
            have : hh = cap := by omega
            subst this
            simp only [Nat.sub_self]
            exact .val _ _ (.sl0 _ _ _)
          · simp only [hcl, if_false, Option.map_some, Addr.add_lit]
            have hpl : pl.sz = s := by
              unfold szE at hs'
              split at hs'
              · rename_i wr e1 cs hr
                obtain ⟨C, e', fz, c1, c2, c3, c4, c5, c6⟩ := I.rel.row _ _ _ _ _ hk hr
                simp only [Option.some.injEq] at hs'
                rw [c5, hs']
              · simp at hs'
            have := VR.sl (ρ := ρ) b (off + l * s) (hh - l) (hh - l) pl (cap - l) hk (by omega) (by
              rw [hpl] at hn ⊢
              have h1 : l * s + (cap - l) * s = cap * s := by rw [← Nat.add_mul]; congr 1; omega
              omega)
            rw [← Nat.add_assoc] at this
            exact .val _ _ this
      · simp at h
    · simp at h
  · rename_i hx
    split at h
    · rename_i es he hlo hhi
      obtain ⟨e, s⟩ := es
      simp only [Option.some.injEq, Prod.mk.injEq] at h
      obtain ⟨rfl, rfl⟩ := h
      obtain ⟨q1, q2⟩ := elemT_some he
      have hv := (opnd_sound I F hx).noLoc rfl
      have hxv : a.eval x = .slice none 0 0 := by
        generalize a.eval x = y at hv
        cases hv
        rfl
      have hb : (Instr.sliceBounds true 0 0 (lo.map a.eval) (hi.map a.eval) none).run P w = .ok (0, 0, 0) w := by
        cases hi with
        | none =>
          cases lo with
          | none => simp [Instr.sliceBounds]
          | some i => simp [Instr.sliceBounds, run_sliceBound I F hlo _ _ (Nat.le_refl 0)]
        | some j =>
          have hj := run_sliceBound I F hhi 0 .sliceAcap (Nat.le_refl 0)
          cases lo with
          | none => simp [Instr.sliceBounds, hj]
          | some i => simp [Instr.sliceBounds, hj, run_sliceBound I F hlo _ _ (Nat.le_refl 0)]
      refine ⟨.value (.slice none 0 0), .slice none 0 0, w, ρ, ?_, rfl, I, F, .val _ _ .sln, fun _ _ => ⟨rfl, fun _ => rfl⟩⟩
      simp [execOp, ho, Instr.sliceAt, run_underlying q1, hxv, Instr.slice, hb, run_sizeOf q2]
    · simp at h
  · simp at h

/-- the builtin len of strings and slices -/
def opLen (P : Program) (σ : St) (t : TypeId) (x : Operand) : Option (Value × St) :=
  match P.underlying t, opnd σ x with
  | some .string, some (.string s) => some (.int .i64 s.size, σ)
  | some (.slice _), some (.slice _ n _) => some (.int .i64 n, σ)
  | _, _ => none
theorem opLen_ok {σ σ' : St} {o : Oper} {t : TypeId} {x : Operand} (ho : o.op = .call { callee := .builtin .len, args := #[x], argTypes := #[t] }) {v : Value} (h : opLen P σ t x = some (v, σ')) : StepOK P o σ v σ' := by
  intro ρ0 h0 w0 ρ a w I F
  unfold opLen at h
  split at h
  · rename_i s ht hx
    simp only [Option.some.injEq, Prod.mk.injEq] at h
    obtain ⟨rfl, rfl⟩ := h
    have hv := (opnd_sound I F hx).flat2 rfl
    refine ⟨.value (.int .i64 s.size), _, w, ρ, ?_, rfl, I, F, .of_flat2 rfl, fun _ _ => ⟨rfl, fun _ => rfl⟩⟩
    simp [execOp, ho, resolve, invoke, builtin, Builtin.len_, run_underlying ht, hv, goInt]
  · rename_i e a0 n c ht hx
    simp only [Option.some.injEq, Prod.mk.injEq] at h
    obtain ⟨rfl, rfl⟩ := h
    have hv := (opnd_sound I F hx).noLoc rfl
    refine ⟨.value (.int .i64 n), _, w, ρ, ?_, rfl, I, F, .of_flat2 rfl, fun _ _ => ⟨rfl, fun _ => rfl⟩⟩
    generalize hx' : a.eval x = x' at hv
    cases hv <;> simp [execOp, ho, resolve, invoke, builtin, Builtin.len_, run_underlying ht, goInt, hx']
  · simp at h

/-- a value of an address's kind, compared with nil -/
def nilEq (d : TypeDesc) (u v : Value) : Option Bool := match d, u, v with
  | .slice _, .slice a _ _, .slice none 0 0 => some a.isNone
  | .pointer _, .pointer (some _), .pointer none => some false
  | .map _ _, .map (some _), .map none => some false
  | .interface _, .iface _ _, .nilIface => some false
  | .func _ _ _, .func _ _ _, .nilFunc => some false
  | _, _, _ => none
def opNilC (P : Program) (σ : St) (op : BinOp) (t : TypeId) (x y : Operand) : Option (Value × St) := match P.underlying t, opnd σ x, opnd σ y with
  | some d, some u, some v => match nilEq d u v with
    | some b => match op with
      | .eql => some (.bool b, σ)
      | .neq => some (.bool (!b), σ)
      | _ => none
    | none => none
  | _, _, _ => none
theorem nilEq_ok {d : TypeDesc} {u v u' v' : Value} {b : Bool} {t : TypeId} (h : nilEq d u v = some b) (ht : P.underlying t = some d) (hu : VT ρ u u') (hv : VT ρ v v') (w : World) :
    (∀ op x y, (eqGuard op t x y u' v').run P w = .ok () w) ∧ (binOp .eql t u' v').run P w = .ok (.bool b) w ∧ (binOp .neq t u' v').run P w = .ok (.bool (!b)) w := by
  have key : ∀ n, (Op.equalIn (n + 1) t u' v').run P w = .ok b w := by
    intro n
    unfold nilEq at h
    split at h
    · simp only [Option.some.injEq] at h; subst h
      have hu := hu.noLoc rfl
      have hv := hv.flat2 rfl
      subst hv
      cases hu <;> simp [Op.equalIn, run_underlying ht]
    · simp only [Option.some.injEq] at h; subst h
      have hv := hv.flat2 rfl
      subst hv
      cases hu with
      | val _ _ hu => cases hu <;> simp [Op.equalIn, run_underlying ht]
      | loc _ _ _ _ _ => simp [Op.equalIn, run_underlying ht]
    · simp only [Option.some.injEq] at h; subst h
      have hu := hu.noLoc rfl
      have hv := hv.flat2 rfl
      subst hv
      cases hu <;> simp [Op.equalIn, run_underlying ht]
    · simp only [Option.some.injEq] at h; subst h
      have hu := hu.noLoc rfl
      have hv := hv.flat2 rfl
      subst hv
      cases hu <;> simp [Op.equalIn, run_underlying ht]
    · simp only [Option.some.injEq] at h; subst h
      have hu := hu.noLoc rfl
      have hv := hv.flat2 rfl
      subst hv
      cases hu <;> simp [Op.equalIn, run_underlying ht]
    · simp at h
  have he : (Op.equal t u' v').run P w = .ok b w := key 9999
  have k2 : binOp .eql t u' v' = (do pure (.bool (← Op.equal t u' v'))) ∧ binOp .neq t u' v' = (do pure (.bool (!(← Op.equal t u' v')))) ∧ ∀ op x y, eqGuard op t x y u' v' = pure () := by
    clear key he
    unfold nilEq at h
    split at h
    · have hu := hu.noLoc rfl
      have hv := hv.flat2 rfl
      subst hv
      cases hu <;> exact ⟨rfl, rfl, fun op x y => by unfold eqGuard; split <;> rfl⟩
    · have hv := hv.flat2 rfl
      subst hv
      cases hu with
      | val _ _ hu => cases hu <;> exact ⟨rfl, rfl, fun op x y => by unfold eqGuard; split <;> rfl⟩
      | loc _ _ _ _ _ => exact ⟨rfl, rfl, fun op x y => by unfold eqGuard; split <;> rfl⟩
    · have hu := hu.noLoc rfl
      have hv := hv.flat2 rfl
      subst hv
      cases hu <;> exact ⟨rfl, rfl, fun op x y => by unfold eqGuard; split <;> rfl⟩
    · have hu := hu.noLoc rfl
      have hv := hv.flat2 rfl
      subst hv
      cases hu <;> exact ⟨rfl, rfl, fun op x y => by unfold eqGuard; split <;> rfl⟩
    · have hu := hu.noLoc rfl
      have hv := hv.flat2 rfl
      subst hv
      cases hu <;> exact ⟨rfl, rfl, fun op x y => by unfold eqGuard; split <;> rfl⟩
    · simp at h
  obtain ⟨e1, e2, e3⟩ := k2
  refine ⟨fun op x y => by rw [e3]; rfl, ?_, ?_⟩
  · rw [e1]; simp [he]
  · rw [e2]; simp [he]
theorem opNilC_ok {σ σ' : St} {o : Oper} {op : BinOp} {t yt : TypeId} {x y : Operand} (ho : o.op = .binOp op t x y yt) {v : Value} (h : opNilC P σ op t x y = some (v, σ')) : StepOK P o σ v σ' := by
  intro ρ0 h0 w0 ρ a w I F
  unfold opNilC at h
  split at h
  · rename_i d u z hd hx hy
    split at h
    · rename_i b hb
      obtain ⟨q2, q3, q4⟩ := nilEq_ok hb hd (opnd_sound I F hx) (opnd_sound I F hy) w
      split at h
      · simp only [Option.some.injEq, Prod.mk.injEq] at h
        obtain ⟨rfl, rfl⟩ := h
        refine ⟨.value (.bool b), _, w, ρ, ?_, rfl, I, F, .of_flat2 rfl, fun _ _ => ⟨rfl, fun _ => rfl⟩⟩
        simp [execOp, ho, q2, q3]
      · simp only [Option.some.injEq, Prod.mk.injEq] at h
        obtain ⟨rfl, rfl⟩ := h
        refine ⟨.value (.bool (!b)), _, w, ρ, ?_, rfl, I, F, .of_flat2 rfl, fun _ _ => ⟨rfl, fun _ => rfl⟩⟩
        simp [execOp, ho, q2, q4]
      · simp at h
    · simp at h
  · simp at h

def opNilCheck (σ : St) (x : Operand) : Option (Value × St) :=
  match opnd σ x with
  | some (.pointer (some ad)) => some (.pointer (some ad), σ)
  | some (.func (.func f) as cs) => some (.func (.func f) as cs, σ)
  | _ => none
theorem opNilCheck_ok {σ σ' : St} {o : Oper} {x : Operand} (ho : o.op = .nilCheck x) {v : Value} (h : opNilCheck σ x = some (v, σ')) : StepOK P o σ v σ' := by
  intro ρ0 h0 w0 ρ a w I F
  unfold opNilCheck at h
  split at h
  · rename_i ad hx
    simp only [Option.some.injEq, Prod.mk.injEq] at h
    obtain ⟨rfl, rfl⟩ := h
    have hv := opnd_sound I F hx
    obtain ⟨pl, hk, hv'⟩ := hv.ptr
    refine ⟨.value (a.eval x), _, w, ρ, ?_, rfl, I, F, hv, fun _ _ => ⟨rfl, fun _ => rfl⟩⟩
    simp [execOp, ho, hv']
  · rename_i f as cs hx
    simp only [Option.some.injEq, Prod.mk.injEq] at h
    obtain ⟨rfl, rfl⟩ := h
    have hv := opnd_sound I F hx
    refine ⟨.value (a.eval x), _, w, ρ, ?_, rfl, I, F, hv, fun _ _ => ⟨rfl, fun _ => rfl⟩⟩
    have hv2 := hv.noLoc rfl
    generalize hx' : a.eval x = x' at hv2
    cases hv2
    simp [execOp, ho, hx']
  · simp at h
end
end Go.Am
