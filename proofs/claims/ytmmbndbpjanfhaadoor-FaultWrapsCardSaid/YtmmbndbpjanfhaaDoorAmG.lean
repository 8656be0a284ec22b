/- The abstract machine, part G: values and slices that are built; iterators over strings. -/
import Derived.Test.YtmmbndbpjanfhaaDoorAmF
import Derived.IntWalk
set_option linter.unusedVariables false
set_option linter.unusedSimpArgs false
set_option linter.unusedSectionVars false
namespace Go.Am
open Go

section
variable {P : Program} {ρ0 ρ ρ' : Rho} {h0 : Heap} {w0 w : World} {m : Mem}

theorem foldl_set (vs : List Value) : ∀ (k off : Nat) (C : Array Value), off + k + vs.length ≤ C.size →
    ((vs.zipIdx k).foldl (fun cs (p : Value × Nat) => cs.setIfInBounds (off + p.2) p.1) C) = ⟨C.toList.take (off + k) ++ vs ++ C.toList.drop (off + k + vs.length)⟩ := by
  induction vs with
  | nil => intro k off C h; apply Array.ext'; simp
  | cons v r ih =>
    intro k off C h
    simp only [List.length_cons] at h
    rw [List.zipIdx_cons, List.foldl_cons, ih (k + 1) off _ (by simp; omega)]
    apply Array.ext'
    simp only [Array.toList_setIfInBounds]
    apply List.ext_getElem?
    intro i
    rw [getElem?_splice _ _ _ _ (by simp; omega), getElem?_splice _ _ _ _ (by simp; omega)]
    simp only [List.length_cons, List.getElem?_set]
    by_cases h1 : i < off + k
    · rw [if_pos (by omega), if_neg (by omega), if_pos h1]
    · by_cases h2 : i = off + k
      · subst h2
        rw [if_pos (by omega), if_pos rfl, if_pos (by simp; omega), if_neg (by omega), if_pos (by omega)]
        simp
      · by_cases h3 : i < off + (k + 1) + r.length
        · rw [if_neg (by omega), if_pos h3, if_neg h1, if_pos (by omega)]
          rw [show i - (off + k) = (i - (off + (k + 1))) + 1 by omega, List.getElem?_cons_succ]
        · rw [if_neg (by omega), if_neg h3, if_neg (by omega), if_neg h1, if_neg (by omega)]

/-- cells are laid over a zero value, part by part -/
def fillL (place : Nat → Option (Nat × Nat)) : List Value → List (Nat × Value) → Option (List Value)
  | cs, [] => some cs
  | cs, (i, v) :: r => match place i with
    | some (off, n) => if v.cells.toList.length = n ∧ off + n ≤ cs.length ∧ noLoc v = true then fillL place (setL cs off v.cells.toList) r else none
    | none => none
theorem fillL_ok (place : Nat → Option (Nat × Nat)) : ∀ (ps ps' : List (Nat × Value)) (cs out : List Value) (C : Array Value), fillL place cs ps = some out →
    ps.length = ps'.length → (∀ (k : Nat) (p : Nat × Value), ps[k]? = some p → ∃ p', ps'[k]? = some p' ∧ p'.1 = p.1 ∧ VT ρ p.2 p'.2) →
    cs.length = C.size → (∀ (i : Nat) (v : Value), cs[i]? = some v → ∃ v', C[i]? = some v' ∧ VR ρ v v') →
    ∃ D, Instr.fill place C ps' = some D ∧ out.length = D.size ∧ ∀ (i : Nat) (v : Value), out[i]? = some v → ∃ v', D[i]? = some v' ∧ VR ρ v v' := by
  intro ps
  induction ps with
  | nil =>
    intro ps' cs out C h hl _ hcs hrel
    cases ps' with
    | nil => simp only [fillL, Option.some.injEq] at h; subst h; exact ⟨C, rfl, hcs, hrel⟩
    | cons _ _ => simp at hl
  | cons p r ih =>
    intro ps' cs out C h hl hp hcs hrel
    obtain ⟨i, v⟩ := p
    cases ps' with
    | nil => simp at hl
    | cons p' r' =>
      obtain ⟨i', v'⟩ := p'
      obtain ⟨q, hq, hq1, hq2⟩ := hp 0 (i, v) rfl
      simp only [List.getElem?_cons_zero, Option.some.injEq] at hq
      subst hq
      simp only at hq1 hq2
      subst hq1
      simp only [fillL] at h
      split at h
      · rename_i off n hpl
        split at h
        · rename_i hc
          obtain ⟨hc1, hc2, hc3⟩ := hc
          have hvc := (hq2.noLoc hc3).cells
          have hn : v'.cells.size = n := by rw [← hc1, hvc.1]; simp
          have hsz : ¬ (n < v'.cells.size) := by omega
          have hfold := foldl_set v'.cells.toList 0 off C (by rw [Nat.add_zero, Array.length_toList, hn, ← hcs]; exact hc2)
          simp only [Nat.add_zero] at hfold
          have hz : (v'.cells.zipIdx.foldl (fun cs (p : Value × Nat) => cs.setIfInBounds (off + p.2) p.1) C) =
              ⟨C.toList.take off ++ v'.cells.toList ++ C.toList.drop (off + v'.cells.toList.length)⟩ := by
            rw [← hfold, ← Array.foldl_toList, Array.toList_zipIdx]
          have hlen' : (setL cs off v.cells.toList).length = (⟨C.toList.take off ++ v'.cells.toList ++ C.toList.drop (off + v'.cells.toList.length)⟩ : Array Value).size := by
            have h1 := hvc.1
            simp only [setL, List.length_append, List.length_take, List.length_drop, List.size_toArray, Array.length_toList] at h1 hc1 ⊢
            omega
          have hrel' := splice_rel (ρ := ρ) (o := 0) (C := C) (n := cs.length) hvc.1 (by rw [hc1]; exact hc2) (Nat.le_refl _) (by omega) (by simpa using hrel) hvc.2
          obtain ⟨D, e1, e2, e3⟩ := ih r' (setL cs off v.cells.toList) out ⟨C.toList.take off ++ v'.cells.toList ++ C.toList.drop (off + v'.cells.toList.length)⟩ h (by simpa using hl)
            (fun k p hk => hp (k + 1) p (by simpa using hk)) hlen' (by simpa using hrel')
          refine ⟨D, ?_, e2, e3⟩
          simp only [Instr.fill, hpl]
          have hb : ((decide (v'.cells.size ≠ n)) || (decide (off + v'.cells.size > C.size))) = false := by
            rw [Bool.or_eq_false_iff]; exact ⟨by simp [hn], by simp; omega⟩
          simp only [hb, if_false, Bool.false_eq_true]
          rw [← e1, ← hz]
        · simp at h
      · simp at h

def partsA (σ : St) : List (Nat × Operand) → Option (List (Nat × Value))
  | [] => some []
  | (i, x) :: r => match opnd σ x, partsA σ r with
    | some v, some l => some ((i, v) :: l)
    | _, _ => none
theorem partsA_ok {σ : St} (I : Inv P ρ0 h0 w0 ρ σ.m w) {a : Act} (F : FRel ρ σ.t a.tmps) : ∀ {l : List (Nat × Operand)} {ps : List (Nat × Value)}, partsA σ l = some ps →
    ps.length = (l.map fun (p : Nat × Operand) => (p.1, a.eval p.2)).length ∧
      ∀ (k : Nat) (p : Nat × Value), ps[k]? = some p → ∃ p', (l.map fun (p : Nat × Operand) => (p.1, a.eval p.2))[k]? = some p' ∧ p'.1 = p.1 ∧ VT ρ p.2 p'.2 := by
  intro l
  induction l with
  | nil => intro ps h; simp only [partsA, Option.some.injEq] at h; subst h; simp
  | cons q r ih =>
    intro ps h
    obtain ⟨i, x⟩ := q
    simp only [partsA] at h
    split at h
    · rename_i v l hv hl
      obtain rfl := Option.some.inj h
      obtain ⟨q1, q2⟩ := ih hl
      refine ⟨by simpa using q1, fun k p hk => ?_⟩
      cases k with
      | zero => simp at hk; subst hk; exact ⟨_, rfl, rfl, opnd_sound I F hv⟩
      | succ k => exact q2 k p (by simpa using hk)
    · simp at h

def placesT (P : Program) : List Field → Option (List (Nat × Nat))
  | [] => some []
  | f :: r => match szT P f.type, placesT P r with
    | some n, some l => some ((f.offset, n) :: l)
    | _, _ => none
theorem run_places (w : World) : ∀ (fs : List Field) (l : List (Nat × Nat)), placesT P fs = some l → (fs.mapM (fun f => do pure (f.offset, ← sizeOf f.type) : Field → Sem (Nat × Nat))).run P w = .ok l w := by
  intro fs
  induction fs with
  | nil => intro l h; simp only [placesT, Option.some.injEq] at h; subst h; rfl
  | cons f r ih =>
    intro l h
    simp only [placesT] at h
    split at h
    · rename_i n l' hn hl
      obtain rfl := Option.some.inj h
      have ih' := ih l' hl
      rw [List.mapM_cons]
      simp only [Sem.run_bind, run_sizeOf hn, Result.andThen_ok, Sem.run_pure, ih']
    · simp at h

def opBuild (P : Program) (σ : St) (t : TypeId) (parts : Array (Nat × Operand)) : Option (Value × St) :=
  match P.underlying t with
  | some (.struct fs) => match placesT P fs.toList, zeroT P t, partsA σ parts.toList with
    | some pl, some z, some ps => match fillL (fun i => pl[i]?) z ps with
      | some out => some (.agg ⟨out⟩, σ)
      | none => none
    | _, _, _ => none
  | _ => none
theorem opBuild_ok {σ σ' : St} {o : Oper} {t : TypeId} {parts : Array (Nat × Operand)} (ho : o.op = .build t parts) {v : Value} (h : opBuild P σ t parts = some (v, σ')) : StepOK P o σ v σ' := by
  intro ρ0 h0 w0 ρ a w I F
  unfold opBuild at h
  split at h
  rotate_left
  · simp at h
  rename_i fs hu
  split at h
  rotate_left
  · simp at h
  rename_i pl z ps hpl hz hps
  split at h
  rotate_left
  · simp at h
  rename_i out hout
  simp only [Option.some.injEq, Prod.mk.injEq] at h
  obtain ⟨rfl, rfl⟩ := h
  obtain ⟨zv, hzc, hzf, hzr⟩ := run_zeroValue hz
  obtain ⟨q1, q2⟩ := partsA_ok I F hps
  obtain ⟨D, e1, e2, e3⟩ := fillL_ok _ _ _ _ _ ⟨z⟩ hout q1 q2 (by simp) (flat_self hzf)
  obtain ⟨dl⟩ := D
  refine ⟨.value (.agg ⟨dl⟩), _, w, ρ, ?_, rfl, I, F, .val _ _ (.agg _ _ (by simpa using e2) ((vrs_zip (by simpa using e2)).2 (by simpa using e3))), fun _ _ => ⟨rfl, fun _ => rfl⟩⟩
  have hpl' := run_places w fs.toList pl hpl
  have hmap : (parts.map fun (i, x) => (i, a.eval x)).toList = parts.toList.map fun (p : Nat × Operand) => (p.1, a.eval p.2) := by simp
  have hget : (fun (i : Nat) => (pl.toArray)[i]?) = fun (i : Nat) => pl[i]? := by funext i; simp
  simp only [execOp, ho, Instr.build, Sem.run_bind, hzr, Result.andThen_ok, run_underlying hu, hzc, Array.mapM_eq_mapM_toList, Sem.run_map, hpl', hmap, hget, e1]
  rfl

def opBuildSlice (P : Program) (σ : St) (t : TypeId) (len : Nat) (parts : Array (Nat × Operand)) : Option (Value × St) :=
  match elemT P t with
  | some (e, s) => match zeroT P e, partsA σ parts.toList with
    | some z, some ps =>
      if z.length = s ∧ 0 < s ∧ len * s ≤ 16777216 then
        match fillL (fun i => some (i * s, s)) ((List.range (len * s)).map fun i => z.getD (i % s) undef) ps with
        | some out => some (.slice (some ⟨σ.m.h.n, 0, none⟩) len len, ⟨σ.t, ⟨σ.m.x, σ.m.h.new (.row true e out)⟩⟩)
        | none => none
      else none
    | _, _ => none
  | none => none
theorem opBuildSlice_ok {σ σ' : St} {o : Oper} {t len : Nat} {parts : Array (Nat × Operand)} (ho : o.op = .buildSlice t len parts) {v : Value} (h : opBuildSlice P σ t len parts = some (v, σ')) : StepOK P o σ v σ' := by
  intro ρ0 h0 w0 ρ a w I F
  unfold opBuildSlice at h
  split at h
  rotate_left
  · simp at h
  rename_i e s he
  split at h
  rotate_left
  · simp at h
  rename_i z ps hz hps
  split at h
  rotate_left
  · simp at h
  rename_i hc
  obtain ⟨hzl, hpos, hle⟩ := hc
  split at h
  rotate_left
  · simp at h
  rename_i out hout
  simp only [Option.some.injEq, Prod.mk.injEq] at h
  obtain ⟨rfl, rfl⟩ := h
  obtain ⟨zv, hzc, hzf, hzr⟩ := run_zeroValue hz
  obtain ⟨ht, hs⟩ := elemT_some he
  obtain ⟨q1, q2⟩ := partsA_ok I F hps
  have hs0 : 0 < s := hpos
  have hzz : ∀ i, z.getD (i % s) undef = (⟨z⟩ : Array Value)[i % z.length]! := fun i => by
    have : i % s < z.length := by rw [hzl]; exact Nat.mod_lt _ hs0
    rw [hzl, List.getD_eq_getElem?_getD]
    simp [List.getElem?_eq_getElem this]
  have hflat : ∀ v ∈ (List.range (len * s)).map (fun i => z.getD (i % s) undef), flat1 v = true := fun v hv => by
    rw [List.mem_map] at hv
    obtain ⟨i, _, rfl⟩ := hv
    have : i % s < z.length := by rw [hzl]; exact Nat.mod_lt _ hs0
    rw [List.getD_eq_getElem?_getD, List.getElem?_eq_getElem this]
    exact hzf _ (List.getElem_mem this)
  obtain ⟨D, e1, e2, e3⟩ := fillL_ok (ρ := ρ) _ _ _ _ _ ⟨(List.range (len * s)).map fun i => z.getD (i % s) undef⟩ hout q1 q2 (by simp) (flat_self hflat)
  have hfit : Fits P ρ (.row true e out) (.cells D e (0, 0)) ⟨w.heap.size, 0, D.size, P.cellsOf e⟩ := .row e e out D _ (by rw [e2]; exact Nat.le_refl _) e3
  have hdim : ∀ (l : List (Nat × Value)) (C : Array Value) (D : Array Value), Instr.fill (fun i => some (i * s, s)) C l = some D → D.size = C.size := by
    intro l
    induction l with
    | nil => intro C D h; simp [Instr.fill] at h; rw [h]
    | cons p r ih =>
      intro C D h
      simp only [Instr.fill] at h
      split at h
      · cases h
      · rw [ih _ _ h, ← Array.foldl_toList]
        have : ∀ (l : List (Value × Nat)) (C : Array Value) (k : Nat), (l.foldl (fun cs (p : Value × Nat) => cs.setIfInBounds (k + p.2) p.1) C).size = C.size := by
          intro l
          induction l with
          | nil => intro C k; rfl
          | cons q t ih2 => intro C k; rw [List.foldl_cons, ih2]; simp
        exact this _ _ _
  have hD : D.size = len * s := by rw [hdim _ _ _ e1]; simp
  refine ⟨.value (.slice (some ⟨w.heap.size, 0, none⟩) len len), _, w.alloc (.cells D e), _, ?_, rfl, I.newH hfit rfl, F.mono (fun b pl q => ?_) (fun s => Rho.upd_ne _ _ (by simp)), ?_, fun s' _ => ⟨Rho.upd_ne _ _ (by simp), fun _ => rfl⟩⟩
  · have hbig : ¬ (16777216 < len * s) := by omega
    have hmap : (parts.map fun (i, x) => (i, a.eval x)).toList = parts.toList.map fun (p : Nat × Operand) => (p.1, a.eval p.2) := by simp
    have hrange : (Array.range (len * s)).map (fun i => (⟨z⟩ : Array Value)[i % (⟨z⟩ : Array Value).size]!) = ⟨(List.range (len * s)).map fun i => z.getD (i % s) undef⟩ := by
      apply Array.ext'
      simp only [Array.toList_map, Array.toList_range]
      apply List.map_congr_left
      intro i _
      rw [hzz i]; rfl
    simp only [execOp, ho, Instr.buildSlice, Sem.run_bind, run_underlying ht, Result.andThen_ok, run_sizeOf hs]
    rw [if_neg (by simpa using hbig)]
    by_cases hne : len * s = 0
    · have hrange0 : (Array.range (len * s)).map (fun i => (#[] : Array Value)[i % (#[] : Array Value).size]!) = ⟨(List.range (len * s)).map fun i => z.getD (i % s) undef⟩ := by rw [hne]; simp
      simp only [hne, if_true, Sem.run_bind, Sem.run_pure, Result.andThen_ok]
      rw [hne] at hrange0 e1
      simp only [hrange0, hmap, e1]
      rfl
    · simp only [hne, if_false, Sem.run_bind, Sem.run_pure, hzr, Result.andThen_ok, hzc, hrange, hmap, e1]
      rfl
  · rw [Rho.upd_ne]; exact q
    intro z; simp only [Prod.mk.injEq, true_and] at z; subst z; exact Nat.lt_irrefl _ (I.rel.dom _ _ q)
  · have hcell : P.cellsOf e = s := by
      unfold szT at hs
      cases hi : P.info? e with
      | none => simp [hi] at hs
      | some i => simp [hi] at hs; simp [Program.cellsOf, hi, hs]
    have := VR.sl (ρ := ρ.upd (false, σ.m.h.n) ⟨w.heap.size, 0, D.size, P.cellsOf e⟩) σ.m.h.n 0 len len ⟨w.heap.size, 0, D.size, P.cellsOf e⟩ len (Rho.upd_same _ _ _) (Nat.le_refl _) (by
      simp only [hcell, hD]; omega)
    exact VT.val _ _ this

theorem wrap_i64_in {n : Int} (h0 : 0 ≤ n) (h1 : n < 9223372036854775808) : IntKind.i64.wrap n = n := by
  rw [IntKind.wrap_i64]; omega

def zeroRow (z : List Value) (s n : Nat) : List Value := (List.range (n * s)).map fun i => z.getD (i % s) undef
theorem zeroRow_one (v : Value) (n : Nat) : zeroRow [v] 1 n = List.replicate n v := by
  simp only [zeroRow, Nat.mul_one]
  apply List.ext_getElem
  · simp
  · intro i h1 h2
    simp [Nat.mod_one]
def opMakeSlice (P : Program) (σ : St) (t : TypeId) (x y : Operand) : Option (Value × St) :=
  match opnd σ x, opnd σ y with
  | some (.int _ l), some (.int _ c) =>
    match elemT P t with
    | some (e, s) => match zeroT P e, bytesT P e with
      | some z, some by_ =>
        if z.length = s ∧ 0 < s ∧ 0 < by_ ∧ 0 ≤ l ∧ l ≤ c ∧ c.toNat * by_ ≤ maxA then
          some (.slice (some ⟨σ.m.h.n, 0, none⟩) l.toNat l.toNat, ⟨σ.t, ⟨σ.m.x, σ.m.h.new (.row true e (zeroRow z s c.toNat))⟩⟩)
        else none
      | _, _ => none
    | none => none
  | _, _ => none
theorem opMakeSlice_ok {σ σ' : St} {o : Oper} {t : TypeId} {x y : Operand} (ho : o.op = .makeSlice t x y) {v : Value} (h : opMakeSlice P σ t x y = some (v, σ')) : StepOK P o σ v σ' := by
  intro ρ0 h0 w0 ρ a w I F
  unfold opMakeSlice at h
  split at h
  rotate_left
  · simp at h
  rename_i k1 l k2 c hx hy
  split at h
  rotate_left
  · simp at h
  rename_i e s he
  split at h
  rotate_left
  · simp at h
  rename_i z by_ hz hby
  split at h
  rotate_left
  · simp at h
  rename_i hcond
  obtain ⟨hzl, hs0, hb0, hl0, hlc, hmax⟩ := hcond
  unfold maxA at hmax
  simp only [Option.some.injEq, Prod.mk.injEq] at h
  obtain ⟨rfl, rfl⟩ := h
  obtain ⟨ht, hs⟩ := elemT_some he
  obtain ⟨zv, hzc, hzf, hzr⟩ := run_zeroValue hz
  have hxv := (opnd_sound I F hx).flat2 rfl
  have hyv := (opnd_sound I F hy).flat2 rfl
  have hcb : c.toNat ≤ c.toNat * by_ := Nat.le_mul_of_pos_right _ hb0
  have hwc : IntKind.i64.wrap c = c := wrap_i64_in (by omega) (by omega)
  have hwl : IntKind.i64.wrap l = l := wrap_i64_in (by omega) (by omega)
  have hinfo : ∃ i, P.info? e = some i ∧ i.bytes = by_ := by
    unfold bytesT at hby
    cases hi : P.info? e with
    | none => simp [hi] at hby
    | some i => exact ⟨i, rfl, by simpa [hi] using hby⟩
  obtain ⟨i, hi, rfl⟩ := hinfo
  have hflat : ∀ v ∈ zeroRow z s c.toNat, flat1 v = true := fun v hv => by
    rw [zeroRow, List.mem_map] at hv
    obtain ⟨i, _, rfl⟩ := hv
    have : i % s < z.length := by rw [hzl]; exact Nat.mod_lt _ hs0
    rw [List.getD_eq_getElem?_getD, List.getElem?_eq_getElem this]
    exact hzf _ (List.getElem_mem this)
  have hfit : Fits P ρ (.row true e (zeroRow z s c.toNat)) (.cells ⟨zeroRow z s c.toNat⟩ e (0, 0)) ⟨w.heap.size, 0, (⟨zeroRow z s c.toNat⟩ : Array Value).size, P.cellsOf e⟩ :=
    .row e e _ ⟨zeroRow z s c.toNat⟩ _ (by simp) (flat_self hflat)
  refine ⟨.value (.slice (some ⟨w.heap.size, 0, none⟩) l.toNat c.toNat), _, w.alloc (.cells ⟨zeroRow z s c.toNat⟩ e), _, ?_, rfl, I.newH hfit rfl, F.mono (fun b pl q => ?_) (fun s => Rho.upd_ne _ _ (by simp)), ?_, fun s' _ => ⟨Rho.upd_ne _ _ (by simp), fun _ => rfl⟩⟩
  · have hbi : (i.bytes : Int) * c = ((c.toNat * i.bytes : Nat) : Int) := by
      rw [Int.natCast_mul, Int.toNat_of_nonneg (by omega), Int.mul_comm]
    have hbl : (i.bytes : Int) * c ≤ 140737488355328 := by rw [hbi]; exact Int.ofNat_le.2 hmax
    have hrow : ∀ C : Array Value, (C = if c.toNat * s = 0 then #[] else ⟨z⟩) → (Array.range (c.toNat * s)).map (fun i => C[i % C.size]!) = ⟨zeroRow z s c.toNat⟩ := by
      intro C hC
      apply Array.ext'
      simp only [Array.toList_map, Array.toList_range, zeroRow]
      apply List.map_congr_left
      intro j hj
      rw [List.mem_range] at hj
      rw [hC, if_neg (by omega)]
      have : j % s < z.length := by rw [hzl]; exact Nat.mod_lt _ hs0
      simp [hzl, List.getD_eq_getElem?_getD, List.getElem?_eq_getElem this]
    have hb1 : ¬ (c < 0) := by omega
    have hb2 : ¬ ((i.bytes : Int) * c > 281474976710656) := by omega
    have hb3 : ¬ (l < 0) := by omega
    have hb4 : ¬ (l > c) := by omega
    by_cases hn : c.toNat * s = 0
    · have := hrow #[] (by rw [if_pos hn])
      rw [hn] at this
      simp only [List.size_toArray, List.length_nil] at this
      simp [execOp, ho, Instr.makeSlice, run_underlying ht, hxv, hyv, asInt, asIntOf, typeInfo, hi, hwc, hwl, hb1, hb2, hb3, hb4, run_sizeOf hs, hn, newRow]
      first
        | (congr 2; simpa using this)
        | (congr 2; done)
    · have := hrow ⟨z⟩ (by rw [if_neg hn])
      simp [execOp, ho, Instr.makeSlice, run_underlying ht, hxv, hyv, asInt, asIntOf, typeInfo, hi, hwc, hwl, hb1, hb2, hb3, hb4, run_sizeOf hs, hn, newRow, hzr, hzc]
      first
        | (congr 2; simpa using this)
        | (congr 2; done)
  · rw [Rho.upd_ne]; exact q
    intro z; simp only [Prod.mk.injEq, true_and] at z; subst z; exact Nat.lt_irrefl _ (I.rel.dom _ _ q)
  · have hcell : P.cellsOf e = s := by
      unfold szT at hs
      simp only [hi, Option.map_some, Option.some.injEq] at hs
      simp [Program.cellsOf, hi, hs]
    have := VR.sl (ρ := ρ.upd (false, σ.m.h.n) ⟨w.heap.size, 0, (⟨zeroRow z s c.toNat⟩ : Array Value).size, P.cellsOf e⟩) σ.m.h.n 0 l.toNat l.toNat
      ⟨w.heap.size, 0, (⟨zeroRow z s c.toNat⟩ : Array Value).size, P.cellsOf e⟩ c.toNat (Rho.upd_same _ _ _) (by omega) (by
      simp only [hcell, List.size_toArray, zeroRow, List.length_map, List.length_range]; omega)
    exact VT.val _ _ this

/-! #### iterators over strings -/
def opRange (P : Program) (σ : St) (t : TypeId) (x : Operand) : Option (Value × St) :=
  match P.underlying t, opnd σ x with
  | some .string, some (.string s) => some (.pointer (some ⟨σ.m.h.n, 0, none⟩), ⟨σ.t, ⟨σ.m.x, σ.m.h.new (.obj (.stringIter s 0))⟩⟩)
  | _, _ => none
theorem opRange_ok {σ σ' : St} {o : Oper} {t : TypeId} {x : Operand} (ho : o.op = .range t x) {v : Value} (h : opRange P σ t x = some (v, σ')) : StepOK P o σ v σ' := by
  intro ρ0 h0 w0 ρ a w I F
  unfold opRange at h
  split at h
  rotate_left
  · simp at h
  rename_i s ht hx
  simp only [Option.some.injEq, Prod.mk.injEq] at h
  obtain ⟨rfl, rfl⟩ := h
  have hxv := (opnd_sound I F hx).flat2 rfl
  have hfit : Fits P ρ (.obj (.stringIter s 0)) (.stringIter s 0) ⟨w.heap.size, 0, 0, 0⟩ := .obj _ _ _
  refine ⟨.value (.pointer (some ⟨w.heap.size, 0, none⟩)), _, w.alloc (.stringIter s 0), _, ?_, rfl, I.newH hfit rfl, F.mono (fun b pl q => ?_) (fun s => Rho.upd_ne _ _ (by simp)), ?_, fun s' _ => ⟨Rho.upd_ne _ _ (by simp), fun _ => rfl⟩⟩
  · simp [execOp, ho, Instr.range, run_underlying ht, hxv]
  · rw [Rho.upd_ne]; exact q
    intro z; simp only [Prod.mk.injEq, true_and] at z; subst z; exact Nat.lt_irrefl _ (I.rel.dom _ _ q)
  · have := VT.ofPtr (ρ := ρ.upd (false, σ.m.h.n) ⟨w.heap.size, 0, 0, 0⟩) (ad := ⟨σ.m.h.n, 0, none⟩) (pl := ⟨w.heap.size, 0, 0, 0⟩) (by simp [key, Rho.upd])
    simpa using this

def opNextS (σ : St) (x : Operand) : Option (Value × St) :=
  match opnd σ x with
  | some (.pointer (some ⟨b, 0, none⟩)) => match σ.m.h.f b with
    | .obj (.stringIter s pos) =>
      if pos < s.size then
        some (.tuple #[.bool true, .int .i64 pos, .int .i32 (Utf8.decode s pos).1], ⟨σ.t, ⟨σ.m.x, σ.m.h.set b (.obj (.stringIter s (pos + (Utf8.decode s pos).2)))⟩⟩)
      else some (.tuple #[.bool false], σ)
    | _ => none
  | _ => none
theorem opNextS_ok {σ σ' : St} {o : Oper} {x : Operand} (ho : o.op = .next x true) {v : Value} (h : opNextS σ x = some (v, σ')) : StepOK P o σ v σ' := by
  intro ρ0 h0 w0 ρ a w I F
  unfold opNextS at h
  split at h
  rotate_left
  · simp at h
  rename_i b hx
  split at h
  rotate_left
  · simp at h
  rename_i s pos hb
  obtain ⟨pl, hk, hv⟩ := (opnd_sound I F hx).ptr
  have hk : ρ (false, b) = some pl := hk
  obtain ⟨hobj, ho0⟩ := I.rel.obj b pl _ hk hb
  have hv0 : a.eval x = .pointer (some ⟨pl.B, 0, none⟩) := by simp [hv, ho0]
  have hget : (getObj pl.B).run P w = .ok (.stringIter s pos) w := by simp [getObj, Sem.run, hobj]
  split at h
  · rename_i hlt
    simp only [Option.some.injEq, Prod.mk.injEq] at h
    obtain ⟨rfl, rfl⟩ := h
    refine ⟨.value (.tuple #[.bool true, .int .i64 pos, .int .i32 (Utf8.decode s pos).1]), _, _, ρ, ?_, rfl, I.setObj hk hb (.stringIter s (pos + (Utf8.decode s pos).2)), F, .of_flat2 rfl, fun _ _ => ⟨rfl, fun _ => rfl⟩⟩
    simp [execOp, ho, Instr.next, hv0, hget, hlt, goInt, setObj, Sem.run, hobj]
  · rename_i hge
    simp only [Option.some.injEq, Prod.mk.injEq] at h
    obtain ⟨rfl, rfl⟩ := h
    refine ⟨.value (.tuple #[.bool false]), _, w, ρ, ?_, rfl, I, F, .of_flat2 rfl, fun _ _ => ⟨rfl, fun _ => rfl⟩⟩
    simp [execOp, ho, Instr.next, hv0, hget, hge]
end
end Go.Am
