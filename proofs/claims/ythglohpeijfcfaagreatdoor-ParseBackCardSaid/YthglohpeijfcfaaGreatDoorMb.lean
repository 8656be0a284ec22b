import Derived.Test.YthglohpeijfcfaaGreatDoorMa
import Derived.Laws.BytesString
import Derived.Orders
import Derived.Tactics
import Derived.Laws.Strings
import Derived.Laws.StructEq
set_option linter.unusedVariables false
set_option linter.unusedSimpArgs false
set_option linter.unusedSectionVars false
set_option linter.constructorNameAsVariable false
/- The abstract machine, part G (bytes): a text out of a row of bytes; a text copied into one. -/
namespace Go.Am
open Go
section
variable {P : Program} {ρ0 ρ ρ' : Rho} {h0 : Heap} {w0 w : World} {m : Mem}
def byteV (b : UInt8) : Value := .int .u8 (b.toNat : Int)
def bytesL : List Value → Option (List UInt8)
  | [] => some []
  | .int .u8 n :: r => if 0 ≤ n ∧ n < 256 then (bytesL r).map (fun l => UInt8.ofNat n.toNat :: l) else none
  | _ => none
theorem bytesL_some : ∀ {l : List Value} {bs : List UInt8}, bytesL l = some bs → l = bs.map byteV := by
  intro l
  induction l with
  | nil => intro bs h; simp [bytesL] at h; subst h; rfl
  | cons v r ih =>
    intro bs h
    unfold bytesL at h
    split at h
    · rename_i h0; simp at h0
    · rename_i n r' he
      simp only [List.cons.injEq] at he
      obtain ⟨rfl, rfl⟩ := he
      split at h
      · rename_i hn
        cases hr : bytesL r with
        | none => rw [hr] at h; cases h
        | some l =>
          rw [hr] at h
          simp only [Option.map_some, Option.some.injEq] at h
          subst h
          rw [List.map_cons, ← ih hr]
          congr 1
          unfold byteV
          congr 1
          rw [UInt8.toNat_ofNat']
          omega
      · cases h
    · cases h
theorem bytesL_map (bs : List UInt8) : bytesL (bs.map byteV) = some bs := by
  induction bs with
  | nil => rfl
  | cons b r ih =>
    rw [List.map_cons, byteV, bytesL, if_pos (by have := b.toNat_lt; omega), ih]
    simp
theorem fold_bytes (bs : List UInt8) : ∀ s : ByteArray, (bs.map fun b => (b.toNat : Int)).foldl (fun r n => r.push (UInt8.ofNat n.toNat)) s = ⟨⟨s.data.toList ++ bs⟩⟩ := by
  induction bs with
  | nil => intro s; simp
  | cons b r ih =>
    intro s
    rw [List.map_cons, List.foldl_cons, ih]
    congr 2
    simp [ByteArray.push]
def opBytesStr (P : Program) (σ : St) (s t : TypeId) (x : Operand) : Option (Value × St) := match P.underlying s with
  | some (.slice e) => match P.underlying t, P.underlying e, opnd σ x with
    | some .string, some (.int .u8), some (.slice (some ad) len _) => if 0 < len then match σ.m.cells ad len with
        | some l => match bytesL l with
          | some bs => some (.string ⟨⟨bs⟩⟩, σ)
          | none => none
        | none => none
      else none
    | _, _, _ => none
  | _ => none
theorem opBytesStr_ok {σ σ' : St} {o : Oper} {s t : TypeId} {x : Operand} (ho : o.op = .convert s t x) {v : Value} (h : opBytesStr P σ s t x = some (v, σ')) : StepOK P o σ v σ' := by
  intro ρ0 h0 w0 ρ a w I F
  unfold opBytesStr at h
  split at h
  rotate_left
  · cases h
  rename_i e hs
  split at h
  rotate_left
  · cases h
  rename_i ad len c ht he hx
  split at h
  rotate_left
  · cases h
  rename_i hpos
  split at h
  rotate_left
  · cases h
  rename_i l hl
  split at h
  rotate_left
  · cases h
  rename_i bs hbs
  simp only [Option.some.injEq, Prod.mk.injEq] at h
  obtain ⟨rfl, rfl⟩ := h
  have hv := (opnd_sound I F hx).noLoc rfl
  rcases hv.slice_some with ⟨a', hl0, _⟩ | ⟨b, off, pl, cap, rfl, hk, hc, hn, hv'⟩
  · omega
  · obtain ⟨q1, l', q2, q3, q4⟩ := cells_sound I (ad := ⟨b, off, none⟩) hk hl
    have hll : l' = bs.map byteV := by
      rw [bytesL_some hbs] at q3 q1
      apply List.ext_getElem?
      intro i
      cases hi : (bs.map byteV)[i]? with
      | none =>
        have : bs.length ≤ i := by
          rcases Nat.lt_or_ge i bs.length with z | z
          · rw [List.getElem?_eq_getElem (by simpa using z)] at hi; cases hi
          · exact z
        rw [List.getElem?_eq_none (by rw [q2, ← q1, List.length_map]; exact this)]
      | some u =>
        obtain ⟨v', e1, e2⟩ := q3 i u hi
        rw [e1]
        rw [List.getElem?_map] at hi
        cases hb : bs[i]? with
        | none => rw [hb] at hi; cases hi
        | some b =>
          rw [hb] at hi
          simp only [Option.map_some, Option.some.injEq] at hi
          subst hi
          cases e2
          rfl
    have hrun := run_loadCells_list (P := P) w ⟨pl.B, pl.o + off, none⟩ l' q4
    rw [q2, hll] at hrun
    have hb2 := run_bytesToString (P := P) w ⟨pl.B, pl.o + off, none⟩ len cap (bs.map fun b => (b.toNat : Int)) (by rw [hrun, List.map_map]; rfl)
    rw [fold_bytes] at hb2
    refine ⟨.value (.string ⟨⟨bs⟩⟩), _, w, ρ, ?_, rfl, I, F, .of_flat2 rfl, fun _ _ => ⟨rfl, fun _ => rfl⟩⟩
    simp only [execOp, ho, hv', Sem.run_bind, run_convert_bytes_string w s t e _ _ _ hs he ht, hb2]
    rfl
def opCopyStr (P : Program) (σ : St) (dT : TypeId) (d s : Operand) : Option (Value × St) := match P.underlying dT, opnd σ d, opnd σ s with
  | some (.slice e), some (.slice (some ad) len _), some (.string str) => match szT P e, σ.m.row? (key ad) with
    | some 1, some (true, e', cs) => if 0 < len ∧ str.size ≤ len ∧ ad.off + str.size ≤ cs.length then
        some (.int .i64 (str.size : Int), ⟨σ.t, σ.m.setRow (key ad) e' (setL cs ad.off (str.data.toList.map byteV))⟩) else none
    | _, _ => none
  | _, _, _ => none
theorem opCopyStr_ok {σ σ' : St} {o : Oper} {dT u : TypeId} {d s : Operand} (ho : o.op = .call { callee := .builtin .copy, args := #[d, s], argTypes := #[dT, u] }) {v : Value} (h : opCopyStr P σ dT d s = some (v, σ')) : StepOK P o σ v σ' := by
  intro ρ0 h0 w0 ρ a w I F
  unfold opCopyStr at h
  split at h
  rotate_left
  · cases h
  rename_i e ad len c str hu hd hs
  split at h
  rotate_left
  · cases h
  rename_i e' cs hsz hr
  split at h
  rotate_left
  · cases h
  rename_i hcond
  obtain ⟨hpos, hle, hin⟩ := hcond
  simp only [Option.some.injEq, Prod.mk.injEq] at h
  obtain ⟨rfl, rfl⟩ := h
  have hv := (opnd_sound I F hd).noLoc rfl
  have hsv := (opnd_sound I F hs).flat2 rfl
  rcases hv.slice_some with ⟨a', hl0, _⟩ | ⟨b, off, pl, cap, rfl, hk, hc, hn, hv'⟩
  · omega
  · obtain ⟨C, e2, fz, c1, c2, c3, c4, c5, c6⟩ := I.rel.row _ _ _ _ _ hk hr
    obtain rfl := c2 rfl
    have hbl : (str.data.toList.map byteV).length = str.size := by rw [List.length_map]; rfl
    have hst := run_storeCells_at P pl.B (pl.o + off) e2 (str.data.toList.map byteV) 0 C w c1 (by rw [hbl]; simp only at hin; omega) (fun z hz => by
      obtain ⟨b, _, rfl⟩ := List.mem_map.1 hz
      rfl)
    simp only [Nat.add_zero] at hst
    have hmin : Nat.min str.size len = str.size := Nat.min_eq_left hle
    refine ⟨.value (.int .i64 (str.size : Int)), _, w.setRow pl.B (C.toList.take (pl.o + off) ++ (str.data.toList.map byteV) ++ C.toList.drop (pl.o + off + (str.data.toList.map byteV).length)).toArray, ρ, ?_, rfl, I.putRow hk hr (ds := setL cs off (str.data.toList.map byteV)) (by simp only at hin; unfold setL; simp only [List.length_append, List.length_take, List.length_drop, hbl]; omega)
      (setRow_world w pl.B _) (setRow_size w pl.B _) (fun B hB => setRow_ne w pl.B _ hB) (setRow_eq w pl.B _ c1) ?_ ?_, F, .of_flat2 rfl, fun s' _ => ⟨rfl, fun hn => rfl⟩⟩
    · have hx : (str.extract 0 str.size).data.toList.map (fun b : UInt8 => Value.int IntKind.u8 (b.toNat : Int)) = str.data.toList.map byteV := by
        have : str.extract 0 str.size = str := by simp
        rw [this]; rfl
      have hl1 : (str.extract 0 str.size) = str := by simp
      simp only [execOp, ho, resolve, invoke, builtin, hv', hsv]
      simp [Builtin.copy_, run_underlying hu, Builtin.lenOf, run_sizeOf hsz, Builtin.firstCells, hmin, hv', hsv]
      have htk : List.take str.size (List.map (fun b : UInt8 => Value.int IntKind.u8 (b.toNat : Int)) str.data.toList) = str.data.toList.map byteV := by
        rw [List.take_of_length_le (by rw [List.length_map]; exact Nat.le_refl _)]
        rfl
      rw [htk, hst, hbl]
      simp [Result.andThen, goInt]
    · simp only [List.size_toArray, List.length_append, List.length_take, List.length_drop, Array.length_toList, hbl]
      simp only at hin
      omega
    · exact splice_rel rfl (by rw [hbl]; exact hin) c3 c4 c6 (fun i v hi => by
        rw [List.getElem?_map] at hi
        cases hb : str.data.toList[i]? with
        | none => rw [hb] at hi; cases hi
        | some b =>
          rw [hb] at hi
          simp only [Option.map_some, Option.some.injEq] at hi
          subst hi
          exact ⟨byteV b, by rw [List.getElem?_map, hb]; rfl, .int _ _⟩)
theorem opBytesStr_none {σ : St} {s t : TypeId} {x : Operand} (h : (match P.underlying s with
    | some (.slice _) => false
    | _ => true) = true) : opBytesStr P σ s t x = none := by
  unfold opBytesStr
  split
  · rename_i e he
    rw [he] at h
    cases h
  · rfl
theorem opBytesStr_same {σ σ' : St} {s t : TypeId} {x : Operand} {v : Value} (h : opBytesStr P σ s t x = some (v, σ')) : σ' = σ := by
  unfold opBytesStr at h
  split at h <;> first | (cases h; done) | (split at h <;> first | (cases h; done) | (split at h <;> first | (cases h; done) | (split at h <;> first | (cases h; done) | (split at h <;> first | (cases h; done) | (simp at h; exact h.2.symm)))))
theorem opBytesStr_congr {T T' : Fr} {m : Mem} {s t : TypeId} {x : Operand} (h : opnd ⟨T', m⟩ x = opnd ⟨T, m⟩ x) : opBytesStr P ⟨T', m⟩ s t x = (opBytesStr P ⟨T, m⟩ s t x).map fun p => (p.1, ⟨T', p.2.m⟩) := by
  simp only [opBytesStr, h]
  split <;> first | rfl | (split <;> first | rfl | (split <;> first | rfl | (split <;> first | rfl | (split <;> rfl))))
theorem opCopyStr_congr {T T' : Fr} {m : Mem} {t : TypeId} {x y : Operand} (h : opnd ⟨T', m⟩ x = opnd ⟨T, m⟩ x) (h2 : opnd ⟨T', m⟩ y = opnd ⟨T, m⟩ y) : opCopyStr P ⟨T', m⟩ t x y = (opCopyStr P ⟨T, m⟩ t x y).map fun p => (p.1, ⟨T', p.2.m⟩) := by
  simp only [opCopyStr, h, h2]
  split <;> first | rfl | (split <;> first | rfl | (split <;> rfl))
theorem opCopyStr_g {σ σ' : St} {t : TypeId} {x y : Operand} {v : Value} (h : opCopyStr P σ t x y = some (v, σ')) : σ'.m.h.g = σ.m.h.g := by
  have hset : ∀ (m : Mem) (k : Key) (e : TypeId) (cs : List Value), (m.setRow k e cs).h.g = m.h.g := fun m k e cs => by obtain ⟨t, b⟩ := k; cases t <;> rfl
  unfold opCopyStr at h
  split at h <;> first | (cases h; done) | (split at h <;> first | (cases h; done) | (split at h <;> first | (cases h; done) | (simp at h; rw [← h.2]; exact hset _ _ _ _)))
end
end Go.Am
/- The abstract machine, part H: regions, code, calls. -/
namespace Go.Am
open Go

section
variable {P : Program} {ρ0 ρ ρ' : Rho} {h0 : Heap} {w0 w : World} {m : Mem}

def stepPure (P : Program) (σ : St) (o : Oper) : Option (Value × St) := match pureOp P σ o with
  | some v => some (v, σ)
  | none => none
def stepCall (P : Program) (σ : St) (o : Oper) (c : Call) : Option (Value × St) :=
  match c.callee with
  | .builtin .len => match c.args.toList, c.argTypes.toList with
    | [x], [t] => opLen P σ t x
    | _, _ => none
  | .builtin .append => match c.args.toList, c.argTypes.toList with
    | [s, x], [t, u] => opAppend P σ t u s x
    | _, _ => none
  | .builtin .copy => match c.args.toList, c.argTypes.toList with
    | [d, s], [t, _] => opCopyStr P σ t d s
    | _, _ => none
  | _ => stepPure P σ o
def stepOp (P : Program) (loc : List Nat) (σ : St) (o : Oper) : Option (Value × St) :=
  match o.op with
  | .move x => opMove σ x
  | .assign x => opMove σ x
  | .pick c x y => opPick σ c x y
  | .load t x => opLoad P σ t x
  | .store t x y => opStore P σ t x y
  | .alloc t => opAlloc P loc σ o.dst t
  | .box t x => opBox loc σ o.dst t x
  | .build t parts => opBuild P σ t parts
  | .buildSlice t n parts => opBuildSlice P σ t n parts
  | .fieldAddr s x f => opFieldAddr P σ s x f
  | .field s x f => opField P σ s x f
  | .indexAddr t x i => opIndexAddr P σ t x i
  | .extract x k => opExtract σ x k
  | .makeInterface t x => opMakeIface P σ t x
  | .makeFunc fn a b => opMakeFunc σ fn a b
  | .slice t x lo hi none => match P.underlying t with
    | some .string => stepPure P σ o
    | _ => opSlice P σ t x lo hi
  | .nilCheck x => opNilCheck σ x
  | .makeSlice t a b => opMakeSlice P σ t a b
  | .range t x => opRange P σ t x
  | .next x true => opNextS σ x
  | .makeMap t r => opMakeMap P σ t r
  | .lookup t x i ok => opLookup P σ t x i ok
  | .mapUpdate t x i y => opMapUpdate P σ t x i y
  | .insert t x i y => opMapUpdate P σ t x i y
  | .call c => stepCall P σ o c
  | .binOp op t x y _ => (match opNilC P σ op t x y with
    | some r => some r
    | none => stepPure P σ o)
  | .convert s t x => (match opBytesStr P σ s t x with
    | some r => some r
    | none => stepPure P σ o)
  | _ => stepPure P σ o
theorem pureStep_ok {σ σ' : St} {o : Oper} {v : Value} (h : stepPure P σ o = some (v, σ')) : StepOK P o σ v σ' := by
  unfold stepPure at h
  split at h
  · rename_i u hu
    simp only [Option.some.injEq, Prod.mk.injEq] at h
    obtain ⟨rfl, rfl⟩ := h
    exact pureOp_ok hu
  · simp at h
theorem stepOp_ok {loc : List Nat} {σ σ' : St} {o : Oper} {v : Value} (h : stepOp P loc σ o = some (v, σ')) : StepOK P o σ v σ' := by
  unfold stepOp at h
  split at h
  · exact opMove_ok (.inl ‹_›) h
  · exact opMove_ok (.inr ‹_›) h
  · exact opPick_ok ‹_› h
  · exact opLoad_ok ‹_› h
  · exact opStore_ok ‹_› h
  · exact opAlloc_ok ‹_› h
  · exact opBox_ok ‹_› h
  · exact opBuild_ok ‹_› h
  · exact opBuildSlice_ok ‹_› h
  · exact opFieldAddr_ok ‹_› h
  · exact opField_ok ‹_› h
  · exact opIndexAddr_ok ‹_› h
  · exact opExtract_ok ‹_› h
  · exact opMakeIface_ok ‹_› h
  · exact opMakeFunc_ok ‹_› h
  · rename_i ho
    split at h
    · exact pureStep_ok h
    · exact opSlice_ok ho h
  · exact opNilCheck_ok ‹_› h
  · exact opMakeSlice_ok ‹_› h
  · exact opRange_ok ‹_› h
  · exact opNextS_ok ‹_› h
  · exact opMakeMap_ok ‹_› h
  · exact opLookup_ok ‹_› h
  · exact opMapUpdate_ok (.inl ‹_›) h
  · exact opMapUpdate_ok (.inr ‹_›) h
  · rename_i c ho
    obtain ⟨callee, ⟨args⟩, ⟨tys⟩⟩ := c
    unfold stepCall at h
    simp only at h
    split at h
    · split at h
      · exact opLen_ok ho h
      · simp at h
    · split at h
      · exact opAppend_ok ho h
      · simp at h
    · split at h
      · exact opCopyStr_ok ho h
      · simp at h
    · exact pureStep_ok h
  · rename_i ho
    split at h
    · rename_i r hr; exact opNilC_ok ho (hr.trans h)
    · exact pureStep_ok h
  · rename_i ho
    split at h
    · rename_i r hr; exact opBytesStr_ok ho (hr.trans h)
    · exact pureStep_ok h
  · exact pureStep_ok h

/-! ### calls -/
def Enter (P : Program) (f : FuncId) : Prop := ∃ fn, P.funcs[f]? = some fn ∧ fn.body.isNone = false ∧ (fn.name == "runtime.NumGoroutine") = false
def VRl (ρ : Rho) (l l' : List Value) : Prop := l.length = l'.length ∧ ∀ (i : Nat) (v : Value), l[i]? = some v → ∃ v', l'[i]? = some v' ∧ VR ρ v v'
def ACalls (P : Program) (f : FuncId) (args : List Value) (h : Heap) (post : Value → Heap → Prop) : Prop :=
  Enter P f ∧ ∀ (ρ : Rho) (w : World) (args' : List Value), (∀ s, ρ (true, s) = none) → MRel P ρ ⟨Boxes.nil, h⟩ w → VRl ρ args args' →
    Calls P f ⟨args'⟩ w fun e w' => ∃ v v' h' ρ', e = .returned v' ∧ post v h' ∧ (∀ s, ρ' (true, s) = none) ∧ MRel P ρ' ⟨Boxes.nil, h'⟩ w' ∧ Tr ρ h w ρ' h' w' ∧ VR ρ' v v'
theorem ACalls.mono {f : FuncId} {args : List Value} {h : Heap} {post post' : Value → Heap → Prop} (H : ACalls P f args h post) (hp : ∀ v h', post v h' → post' v h') : ACalls P f args h post' :=
  ⟨H.1, fun ρ w args' hb R V => (H.2 ρ w args' hb R V).mono fun _ _ ⟨v, v', h', ρ', q1, q2, q3⟩ => ⟨v, v', h', ρ', q1, hp _ _ q2, q3⟩⟩

/-- what every call keeps -/
def Nice (h : Heap) (v : Value) (h' : Heap) : Prop := h'.g = h.g ∧ noLoc v = true ∧ h.n ≤ h'.n
theorem VR.isNoLoc {v v' : Value} (h : VR ρ v v') : noLoc v = true := by cases h <;> simp [noLoc, locOf]
def callOf (σ : St) (o : Oper) : Option (FuncId × List Value) :=
  match o.op with
  | .call ⟨.value f, args, _⟩ => match opnd σ f, args.toList.mapM (opnd σ) with
    | some (.func (.func fid) first cap), some l => if l.all noLoc then some (fid, first.toList ++ l ++ cap.toList) else none
    | _, _ => none
  | _ => none

theorem VRl.append {l l' k k' : List Value} (h : VRl ρ l l') (g : VRl ρ k k') : VRl ρ (l ++ k) (l' ++ k') := by
  refine ⟨by simp [h.1, g.1], fun i v hi => ?_⟩
  have := vrs_append (ρ := ρ) [] h.1 g.1 h.2 g.2 i v hi
  simpa using this
theorem callOf_ok {σ : St} {o : Oper} {f : FuncId} {args : List Value} (h : callOf σ o = some (f, args)) (hE : Enter P f) (I : Inv P ρ0 h0 w0 ρ σ.m w) {a : Act} (F : FRel ρ σ.t a.tmps) :
    ∃ args' : List Value, VRl ρ args args' ∧ (execOp a.eval o).run P w = .ok (.enter f ⟨args'⟩) w := by
  unfold callOf at h
  split at h
  rotate_left
  · simp at h
  rename_i fo as ts ho
  split at h
  rotate_left
  · simp at h
  rename_i fid first cap l hf hl
  split at h
  rotate_left
  · simp at h
  rename_i hall
  simp only [Option.some.injEq, Prod.mk.injEq] at h
  obtain ⟨rfl, rfl⟩ := h
  obtain ⟨q1, q2⟩ := mapM_opnds I F hl hall
  have hv := (opnd_sound I F hf).noLoc rfl
  generalize hx' : a.eval fo = x' at hv
  cases hv with
  | func fn as1 as1' cs ds ha hl1 h1 h2 =>
    refine ⟨as1' ++ as.toList.map a.eval ++ ds, VRl.append (VRl.append ⟨ha, (vrs_zip ha).1 h1⟩ ⟨q1, q2⟩) ⟨hl1, (vrs_zip hl1).1 h2⟩, ?_⟩
    obtain ⟨fn, e1, e2, e3⟩ := hE
    have hargs : (as1'.toArray ++ as.map a.eval ++ ds.toArray) = ⟨as1' ++ as.toList.map a.eval ++ ds⟩ := by apply Array.ext'; simp
    simp only [execOp, ho, resolve, hx', Deferred.ofValue, pure_bind, invoke, callFunc, Sem.run_bind, run_program, Result.andThen_ok, e1, e3, e2, Bool.false_eq_true, if_false, Sem.run_pure]
    rw [← hargs]

/-! ### regions -/
def wantedA (ops : Array Oper) (T : Fr) (o : Oper) : Option Bool :=
  match o.guard with
  | none => some true
  | some (j, want) => match (ops[j]?).bind (·.dst) with
    | some d => match T.get d with
      | some (.bool b) => some (b == want)
      | some _ => some false
      | none => none
    | none => some false
def St.putD (σ : St) (d : Option Nat) (v : Value) : St := match d with
  | some i => ⟨σ.t.put i v, σ.m⟩
  | none => σ

def vcOps (P : Program) (loc : List Nat) (ops : Array Oper) (Q : St → Prop) : List Oper → St → Prop
  | [], σ => Q σ
  | o :: r, σ =>
    match wantedA ops σ.t o with
    | none => False
    | some false => vcOps P loc ops Q r (σ.putD o.dst undef)
    | some true =>
      match callOf σ o with
      | some (f, args) => ACalls P f args σ.m.h fun v h' => Nice σ.m.h v h' → vcOps P loc ops Q r (St.putD ⟨σ.t, ⟨σ.m.x, h'⟩⟩ o.dst v)
      | none => match stepOp P loc σ o with
        | some (v, σ') => vcOps P loc ops Q r (σ'.putD o.dst v)
        | none => False

/-- what an abstract state stands for, within a body that began at (ρ0, h0, w0), with n slots -/
def Con (P : Program) (ρ0 : Rho) (h0 : Heap) (w0 : World) (n : Nat) (σ : St) (a : Act) (w : World) : Prop :=
  ∃ ρ, Inv P ρ0 h0 w0 ρ σ.m w ∧ FRel ρ σ.t a.tmps ∧ a.tmps.size = n ∧ a.defers = []

theorem putD_ok {σ : St} {n : Nat} {d : Option Nat} (hd : ∀ i, d = some i → i < n) {a : Act} {v v' : Value} (I : Inv P ρ0 h0 w0 ρ σ.m w) (F : FRel ρ σ.t a.tmps) (hs : a.tmps.size = n) (hdf : a.defers = [])
    (hv : VT ρ v v') : Con P ρ0 h0 w0 n (σ.putD d v) (a.put d v') w := by
  cases d with
  | none => exact ⟨ρ, I, F, hs, hdf⟩
  | some i => exact ⟨ρ, I, F.put (by rw [hs]; exact hd i rfl) hv, by simp [Act.put, hs], hdf⟩

theorem VT.notBool {v v' : Value} (h : VT ρ v v') (hv : ∀ b, v ≠ .bool b) : ∀ b, v' ≠ .bool b := by
  intro b e
  subst e
  cases h with
  | val _ _ h => cases h with | bool b => exact hv b rfl
theorem wantedA_ok {ops : Array Oper} {σ : St} {a : Act} (F : FRel ρ σ.t a.tmps) {o : Oper} {b : Bool} (h : wantedA ops σ.t o = some b) : Region.wanted o (yielded ops a.tmps) = b := by
  unfold wantedA at h
  unfold Region.wanted
  split at h
  · rename_i hg; rw [hg]; simpa using h
  · rename_i j want hg
    rw [hg]
    simp only
    split at h
    · rename_i d hd
      split at h
      · rename_i b' hb'
        obtain ⟨v', q1, q2⟩ := F _ _ hb'
        obtain rfl := q2.flat2 rfl
        simp only [yielded, hd, Option.bind_some, q1]
        simpa using h
      · rename_i u hu hnb
        obtain ⟨v', q1, q2⟩ := F _ _ hnb
        have hnb' := q2.notBool (fun b e => hu b e)
        simp only [yielded, hd, Option.bind_some, q1]
        cases v' <;> first | (simpa using h) | (exact absurd rfl (hnb' _))
      · simp at h
    · rename_i hd
      simp only [yielded, hd, Option.bind_none]
      simpa using h

theorem wp_of_call {o : Oper} {f : FuncId} {args : List Value} {σ : St} {a : Act} {n : Nat} {Q : St → Prop} {K : Act → World → Prop} {Z : Exit → Act → World → Prop} (hc : callOf σ o = some (f, args))
    (H : ACalls P f args σ.m.h fun v h' => Nice σ.m.h v h' → Q (St.putD ⟨σ.t, ⟨σ.m.x, h'⟩⟩ o.dst v)) (hd : ∀ i, o.dst = some i → i < n)
    (I : Inv P ρ0 h0 w0 ρ σ.m w) (F : FRel ρ σ.t a.tmps) (hs : a.tmps.size = n) (hdf : a.defers = [])
    (hK : ∀ σ' a' w', Q σ' → Con P ρ0 h0 w0 n σ' a' w' → K a' w') : o.wp P a w K Z := by
  obtain ⟨args', hV, hrun⟩ := callOf_ok hc H.1 I F
  unfold Oper.wp
  rw [hrun]
  simp only [Oper.upon]
  have hcall := H.2 (heapOnly ρ) w args' (fun s => heapOnly_t ρ s) I.rel.heapOnly ⟨hV.1, fun i v hi => let ⟨v', q1, q2⟩ := hV.2 i v hi; ⟨v', q1, q2.heapOnly⟩⟩
  refine hcall.mono ?_
  rintro e w' ⟨v, v', h', ρ', rfl, hpost, hbox, hR, hT, hv⟩
  simp only
  obtain ⟨J, j1, j2⟩ := I.call hR hT
  refine hK _ _ _ (hpost ⟨hT.hg, hv.isNoLoc, hT.hn⟩) (putD_ok (σ := ⟨σ.t, ⟨σ.m.x, h'⟩⟩) hd J (F.mono j1 j2) hs hdf (.val _ _ (hv.mono fun b pl q => ?_)))
  simp only [Rho.join, Bool.false_eq_true, if_false]; exact q

theorem vcOps_sound {loc : List Nat} {ops : Array Oper} {n : Nat} {Q : St → Prop} {Z : Exit → Act → World → Prop} (hZ : ∀ σ' a' w', Q σ' → Con P ρ0 h0 w0 n σ' a' w' → Z .normal a' w') :
    ∀ (l : List Oper) (σ : St) (a : Act) (w : World), (∀ o ∈ l, ∀ i, o.dst = some i → i < n) → vcOps P loc ops Q l σ → Con P ρ0 h0 w0 n σ a w → wpList P ops Z l a w := by
  intro l
  induction l with
  | nil => intro σ a w _ h C; exact hZ _ _ _ h C
  | cons o r ih =>
    intro σ a w hd h C
    obtain ⟨ρ, I, F, hs, hdf⟩ := C
    have hdo := hd o (by simp)
    have hdr := fun o' ho' => hd o' (List.mem_cons_of_mem _ ho')
    unfold wpList
    simp only [vcOps] at h
    split at h
    · exact h.elim
    · rename_i hw
      rw [if_neg (by rw [wantedA_ok F hw]; simp)]
      exact ih _ _ _ hdr h (putD_ok hdo I F hs hdf (.of_flat2 rfl))
    · rename_i hw
      rw [if_pos (wantedA_ok F hw)]
      refine .inl ?_
      split at h
      · rename_i f args hc
        exact wp_of_call (Q := vcOps P loc ops Q r) hc h hdo I F hs hdf fun σ' a' w' h' C' => ih σ' a' w' hdr h' C'
      · split at h
        · rename_i v σ' hst
          obtain ⟨nx, v', w', ρ', q1, q2, q3, q4, q5, _⟩ := stepOp_ok hst ρ0 h0 w0 ρ a w I F
          unfold Oper.wp
          rw [q1]
          cases nx <;> simp only [outV, Option.some.injEq] at q2 <;> first
            | (subst q2; exact ih _ _ _ hdr h (putD_ok hdo q3 q4 hs hdf q5))
            | (exact absurd q2 (by simp))
        · exact h.elim
end
end Go.Am
/- The abstract machine, part I: regions that draw their order. -/
namespace Go.Am
open Go

section
variable {P : Program} {ρ0 ρ ρ' : Rho} {h0 : Heap} {w0 w : World} {m : Mem}

/-- operations that change no memory -/
def clsN (P : Program) : Op → Bool
  | .move _ | .assign _ | .pick .. | .load .. | .build .. | .fieldAddr .. | .field .. | .indexAddr .. | .extract .. | .makeInterface .. | .makeFunc .. | .slice _ _ _ _ none | .nilCheck _
  | .binOp .. | .unOp .. | .index .. => true
  | .convert s _ _ => match P.underlying s with
    | some (.slice _) => false
    | _ => true
  | .call c => match c.callee with
    | .builtin .len | .builtin .min | .builtin .max => true
    | _ => false
  | _ => false
/-- of these, those that read memory -/
def clsR : Op → Bool
  | .load .. | .slice .. => true
  | _ => false

theorem opnd_congr {T : Fr} {m m' : Mem} (h : m'.h.g = m.h.g) (x : Operand) : opnd ⟨T, m'⟩ x = opnd ⟨T, m⟩ x := by
  cases x <;> simp [opnd, h]
theorem mapM_congr_opnd {f g : Operand → Option Value} : ∀ (l : List Operand), (∀ x ∈ l, f x = g x) → l.mapM f = l.mapM g := by
  intro l
  induction l with
  | nil => intro _; rfl
  | cons x r ih => intro h; rw [List.mapM_cons, List.mapM_cons, h x (by simp), ih fun y hy => h y (by simp [hy])]
theorem partsA_congr {σ τ : St} : ∀ (l : List (Nat × Operand)), (∀ p ∈ l, opnd σ p.2 = opnd τ p.2) → partsA σ l = partsA τ l := by
  intro l
  induction l with
  | nil => intro _; rfl
  | cons p r ih => intro h; obtain ⟨i, x⟩ := p; simp only [partsA, h (i, x) (by simp), ih fun y hy => h y (by simp [hy])]

/-- the value of an operation that changes no memory: what its operands are, and memory where it reads, decide -/
def valN (P : Program) (loc : List Nat) (σ : St) (o : Oper) : Option Value := (stepOp P loc σ o).map (·.1)

theorem pureOp_congr {σ τ : St} {o : Oper} (h : ∀ x ∈ o.op.operands, opnd σ x = opnd τ x) : pureOp P σ o = pureOp P τ o := by
  unfold pureOp
  have h1 : o.op.operands.toList.all (flatO σ) = o.op.operands.toList.all (flatO τ) := by
    rw [Bool.eq_iff_iff, List.all_eq_true, List.all_eq_true]
    constructor
    · intro q x hx; have := q x hx; unfold flatO at this ⊢; rw [← h x (by simpa using hx)]; exact this
    · intro q x hx; have := q x hx; unfold flatO at this ⊢; rw [h x (by simpa using hx)]; exact this
  rw [h1]
  by_cases hs : isSelect o.op = true
  · simp [hs]
  · have : execOp (evO σ) o = execOp (evO τ) o := execOp_congr o (fun cs b e => hs (by simp [e, isSelect])) fun x hx => by simp only [evO, h x hx]
    rw [this]

theorem valN_congr {loc : List Nat} {σ τ : St} {o : Oper} (hn : clsN P o.op = true) (h : ∀ x ∈ o.op.operands, opnd σ x = opnd τ x) (hm : clsR o.op = true → σ.m = τ.m) :
    valN P loc σ o = valN P loc τ o := by
  have hpure := pureOp_congr (P := P) h
  obtain ⟨dst, op, type, pos, after, guard⟩ := o
  unfold valN stepOp
  cases op <;> simp only [clsN, Bool.false_eq_true] at hn <;> simp only [Op.operands] at h <;> simp only [clsR] at hm
  case move x => have := h x (by simp); simp only [opMove, this]; split <;> rfl
  case assign x => have := h x (by simp); simp only [opMove, this]; split <;> rfl
  case pick c x y => have h1 := h c (by simp); have h2 := h x (by simp); have h3 := h y (by simp); simp only [opPick, h1]; split <;> first | rfl | (rename_i b _; cases b <;> simp only [h2, h3, Bool.false_eq_true, if_true, if_false] <;> split <;> rfl)
  case build t ps =>
    have h1 := partsA_congr (σ := σ) (τ := τ) ps.toList (fun p hp => h p.2 (by simp; exact ⟨p.1, by simpa using hp⟩))
    simp only [opBuild, h1]; split <;> first | rfl | (split <;> first | rfl | (split <;> rfl))
  case load t x => have h1 := h x (by simp); have h2 := hm trivial; simp only [opLoad, h1, h2]; split <;> first | rfl | (split <;> first | rfl | (split <;> rfl))
  case nilCheck x => have h1 := h x (by simp); simp only [opNilCheck, h1]; split <;> rfl
  case makeInterface t x => have h1 := h x (by simp); simp only [opMakeIface, h1]; split <;> first | rfl | (split <;> first | rfl | (split <;> rfl))
  case makeFunc fn a b =>
    have h1 := mapM_congr_opnd (f := opnd σ) (g := opnd τ) a.toList (fun x hx => h x (by simp; exact .inl (by simpa using hx)))
    have h2 := mapM_congr_opnd (f := opnd σ) (g := opnd τ) b.toList (fun x hx => h x (by simp; exact .inr (by simpa using hx)))
    simp only [opMakeFunc, h1, h2]; split <;> first | rfl | (split <;> rfl)
  case slice t x lo hi mx =>
    cases mx with
    | some _ => simp at hn
    | none =>
      have h0 := h x (by simp); have h2 := hm trivial
      have hb : ∀ d, boundA σ lo d = boundA τ lo d := fun d => by cases lo with | none => rfl | some i => have := h i (by simp); simp only [boundA, this]
      have hb2 : ∀ d, boundA σ hi d = boundA τ hi d := fun d => by cases hi with | none => rfl | some i => have := h i (by simp); simp only [boundA, this]
      simp only
      split
      · simp only [stepPure, hpure]; split <;> rfl
      · simp only [opSlice, h0, hb, hb2, h2]; split <;> first | rfl | (split <;> first | rfl | (split <;> rfl))
  case fieldAddr s x f => have h1 := h x (by simp); simp only [opFieldAddr, h1]; split <;> rfl
  case field s x f => have h1 := h x (by simp); simp only [opField, h1]; split <;> first | rfl | (split <;> rfl)
  case indexAddr t x i => have h1 := h x (by simp); have h2 := h i (by simp); simp only [opIndexAddr, h1, h2]; split <;> first | rfl | (split <;> first | rfl | (split <;> rfl))
  case extract x k => have h1 := h x (by simp); simp only [opExtract, h1]; split <;> first | rfl | (split <;> rfl)
  case binOp op t x y yt =>
    have h1 := h x (by simp); have h2 := h y (by simp)
    have e : (opNilC P σ op t x y).map (·.1) = (opNilC P τ op t x y).map (·.1) := by
      simp only [opNilC, h1, h2]; split <;> first | rfl | (split <;> first | rfl | (split <;> rfl))
    simp only
    cases q1 : opNilC P σ op t x y <;> cases q2 : opNilC P τ op t x y <;> rw [q1, q2] at e <;> simp at e
    · simp only [stepPure, hpure]; split <;> rfl
    · simp [e]
  case call c =>
    obtain ⟨callee, ⟨args⟩, ⟨tys⟩⟩ := c
    cases callee with
    | value f => simp at hn
    | invoke r mm => simp at hn
    | builtin b =>
      cases b <;> simp at hn <;> simp only [stepCall]
      · split
        · have h1 := h _ (by simp [Call.operands]; rfl); simp only [opLen, h1]; split <;> rfl
        · rfl
      · simp only [stepPure, hpure]; split <;> rfl
      · simp only [stepPure, hpure]; split <;> rfl
  case convert s t x => simp only [opBytesStr_none hn, stepPure, hpure]; split <;> rfl
  all_goals (simp only [stepPure, hpure]; split <;> rfl)

/-- an operation that changes no memory leaves the state -/
theorem stepN_same {loc : List Nat} {σ σ' : St} {o : Oper} {v : Value} (hn : clsN P o.op = true) (h : stepOp P loc σ o = some (v, σ')) : σ' = σ := by
  obtain ⟨dst, op, type, pos, after, guard⟩ := o
  unfold stepOp at h
  have hp : ∀ {o : Oper}, stepPure P σ o = some (v, σ') → σ' = σ := fun {o} h => by
    unfold stepPure at h; split at h <;> simp at h; exact h.2.symm
  cases op <;> simp only [clsN, Bool.false_eq_true] at hn <;> simp only at h
  case move x => simp only [opMove] at h; split at h <;> simp at h; exact h.2.symm
  case assign x => simp only [opMove] at h; split at h <;> simp at h; exact h.2.symm
  case pick c x y => simp only [opPick] at h; split at h <;> first | (simp at h; done) | (split at h <;> simp at h; exact h.2.symm)
  case build t ps => simp only [opBuild] at h; split at h <;> first | (simp at h; done) | (split at h <;> first | (simp at h; done) | (split at h <;> simp at h; exact h.2.symm))
  case load t x => simp only [opLoad] at h; split at h <;> first | (simp at h; done) | (split at h <;> first | (simp at h; done) | (split at h <;> simp at h; exact h.2.symm))
  case nilCheck x => simp only [opNilCheck] at h; split at h <;> simp at h <;> exact h.2.symm
  case makeInterface t x => simp only [opMakeIface] at h; split at h <;> first | (simp at h; done) | (split at h <;> first | (simp at h; done) | (split at h <;> simp at h; exact h.2.symm))
  case makeFunc fn a b => simp only [opMakeFunc] at h; split at h <;> first | (simp at h; done) | (split at h <;> simp at h; exact h.2.symm)
  case slice t x lo hi mx =>
    cases mx with
    | some _ => simp at hn
    | none =>
      simp only at h
      split at h
      · exact hp h
      · simp only [opSlice] at h; split at h <;> first | (simp at h; done) | (split at h <;> first | (simp at h; done) | (simp at h; exact h.2.symm) | (split at h <;> simp at h; exact h.2.symm))
  case fieldAddr s x f => simp only [opFieldAddr] at h; split at h <;> simp at h; exact h.2.symm
  case field s x f => simp only [opField] at h; split at h <;> first | (simp at h; done) | (split at h <;> simp at h; exact h.2.symm)
  case indexAddr t x i => simp only [opIndexAddr] at h; split at h <;> first | (simp at h; done) | (split at h <;> first | (simp at h; done) | (split at h <;> simp at h; exact h.2.symm))
  case binOp op t x y yt =>
    split at h
    · rename_i r hr
      rw [← hr] at h
      simp only [opNilC] at h; split at h <;> first | (simp at h; done) | (split at h <;> first | (simp at h; done) | (split at h <;> simp at h <;> exact h.2.symm))
    · exact hp h
  case extract x k => simp only [opExtract] at h; split at h <;> first | (simp at h; done) | (split at h <;> simp at h; exact h.2.symm)
  case call c =>
    obtain ⟨callee, ⟨args⟩, ⟨tys⟩⟩ := c
    cases callee with
    | value f => simp at hn
    | invoke r mm => simp at hn
    | builtin b =>
      cases b <;> simp at hn <;> simp only [stepCall] at h
      · split at h
        · simp only [opLen] at h; split at h <;> simp at h <;> exact h.2.symm
        · simp at h
      · exact hp h
      · exact hp h
  case convert s t x =>
    split at h
    · rename_i r hr
      rw [← hr] at h
      exact opBytesStr_same h
    · exact hp h
  all_goals (exact hp h)
theorem callOf_N {σ : St} {o : Oper} (hn : clsN P o.op = true) : callOf σ o = none := by
  unfold callOf
  split
  · rename_i ho; rw [ho] at hn; simp only [clsN, Bool.false_eq_true] at hn
  · rfl
end
end Go.Am
/- The abstract machine, part J: an order that is drawn comes to what the text's order comes to. -/
namespace Go.Am
open Go

section
variable {P : Program} {ρ0 ρ ρ' : Rho} {h0 : Heap} {w0 w : World} {m : Mem}

/-- not a variable of this frame that is made -/
def notLoc (loc : List Nat) (o : Oper) : Bool := match o.op with
  | .alloc _ | .box _ _ => match o.dst with
    | some s => !loc.contains s
    | none => true
  | _ => true

theorem newVar_congr {loc : List Nat} {T T' : Fr} {m : Mem} {o : Oper} (hl : (match o.dst with | some s => !loc.contains s | none => true) = true) (e : TypeId) (cs : List Value) :
    St.newVar ⟨T', m⟩ loc o.dst e cs = (St.newVar ⟨T, m⟩ loc o.dst e cs).map fun p => (p.1, ⟨T', p.2.m⟩) := by
  unfold St.newVar
  split
  · rename_i s hs
    rw [hs] at hl
    simp only [Bool.not_eq_true', ] at hl
    simp only [hl, Bool.false_eq_true, if_false, Option.map_some]
  · rfl
theorem srcCells_congr {σ τ : St} {u : TypeId} {sz : Nat} {x : Operand} (h : opnd σ x = opnd τ x) (hm : σ.m = τ.m) : srcCells P σ u sz x = srcCells P τ u sz x := by
  unfold srcCells
  rw [h, hm]
theorem stepW_congr {loc : List Nat} {T T' : Fr} {m : Mem} {o : Oper} (hl : notLoc loc o = true) (h : ∀ x ∈ o.op.operands, opnd ⟨T', m⟩ x = opnd ⟨T, m⟩ x) :
    stepOp P loc ⟨T', m⟩ o = (stepOp P loc ⟨T, m⟩ o).map fun p => (p.1, ⟨T', p.2.m⟩) := by
  by_cases hn : clsN P o.op = true
  · have hv := valN_congr (P := P) (loc := loc) hn h (fun _ => rfl)
    unfold valN at hv
    cases h1 : stepOp P loc ⟨T', m⟩ o with
    | none =>
      rw [h1] at hv
      cases h2 : stepOp P loc ⟨T, m⟩ o with
      | none => rfl
      | some p => rw [h2] at hv; simp at hv
    | some p =>
      rw [h1] at hv
      cases h2 : stepOp P loc ⟨T, m⟩ o with
      | none => rw [h2] at hv; simp at hv
      | some q =>
        rw [h2] at hv
        obtain ⟨v, σ'⟩ := p
        obtain ⟨u, τ'⟩ := q
        simp only [Option.map_some, Option.some.injEq] at hv
        have e1 := stepN_same hn h1
        have e2 := stepN_same hn h2
        subst e1; subst e2; subst hv
        rfl
  · have hpure := pureOp_congr (P := P) h
    obtain ⟨dst, op, type, pos, after, guard⟩ := o
    unfold stepOp
    have hp : stepPure P ⟨T', m⟩ ⟨dst, op, type, pos, after, guard⟩ = (stepPure P ⟨T, m⟩ ⟨dst, op, type, pos, after, guard⟩).map fun p => (p.1, ⟨T', p.2.m⟩) := by
      unfold stepPure; rw [hpure]; split <;> rfl
    cases op <;> simp only [clsN, not_true_eq_false] at hn <;> simp only [Op.operands] at h <;> simp only
    case alloc t => simp only [opAlloc]; split <;> first | rfl | exact newVar_congr (o := ⟨dst, .alloc t, type, pos, after, guard⟩) hl _ _
    case box t x =>
      have h1 := h x (by simp)
      simp only [opBox, h1]
      split <;> first | rfl | (split <;> first | rfl | exact newVar_congr (o := ⟨dst, .box t x, type, pos, after, guard⟩) hl _ _)
    case buildSlice t n ps =>
      have h1 := partsA_congr (σ := ⟨T', m⟩) (τ := ⟨T, m⟩) ps.toList (fun p hp => h p.2 (by simp; exact ⟨p.1, by simpa using hp⟩))
      simp only [opBuildSlice, h1]
      split <;> first | rfl | (split <;> first | rfl | (split <;> first | rfl | (split <;> rfl)))
    case store t x y =>
      have h1 := h x (by simp); have h2 := h y (by simp)
      simp only [opStore, h1, h2]
      split <;> first | rfl | (split <;> first | rfl | (split <;> rfl))
    case makeSlice t x y =>
      have h1 := h x (by simp); have h2 := h y (by simp)
      simp only [opMakeSlice, h1, h2]
      split <;> first | rfl | (split <;> first | rfl | (split <;> first | rfl | (split <;> rfl)))
    case range t x =>
      have h1 := h x (by simp)
      simp only [opRange, h1]
      split <;> rfl
    case next x b =>
      have h1 := h x (by simp)
      cases b
      · exact hp
      · simp only [opNextS, h1]
        split <;> first | rfl | (split <;> first | rfl | (split <;> rfl))
    case slice t x lo hi mx =>
      cases mx with
      | none => simp at hn
      | some _ => exact hp
    case call c =>
      obtain ⟨callee, ⟨args⟩, ⟨tys⟩⟩ := c
      simp only [stepCall]
      cases callee with
      | value f => exact hp
      | invoke r mm => exact hp
      | builtin b =>
        cases b
        case copy =>
          simp only
          split <;> first | rfl | exact opCopyStr_congr (h _ (by simp [Call.operands])) (h _ (by simp [Call.operands]))
        all_goals first
          | exact hp
          | (simp at hn; done)
          | (simp only
             split <;> first | rfl | (
              have h1 := h _ (by simp [Call.operands]; exact .inl rfl)
              have h2 := h _ (by simp [Call.operands]; exact .inr rfl)
              simp only [opAppend, h1, srcCells_congr (P := P) (σ := ⟨T', m⟩) (τ := ⟨T, m⟩) h2 rfl]
              split <;> first | rfl | (split <;> first | rfl | (split <;> first | rfl | (split <;> first | rfl | (split <;> first | rfl | (split <;> rfl)))))))
    case makeMap t r =>
      cases r with
      | none => rfl
      | some x =>
        have h1 := h x (by simp)
        simp only [opMakeMap, h1]
        split <;> rfl
    case lookup t x y b =>
      have h1 := h x (by simp); have h2 := h y (by simp)
      simp only [opLookup, h1, h2]
      split <;> first | rfl | (split <;> first | rfl | (split <;> first | rfl | (split <;> first | rfl | (split <;> rfl))))
    case mapUpdate t x y z =>
      have h1 := h x (by simp); have h2 := h y (by simp); have h3 := h z (by simp)
      simp only [opMapUpdate, h1, h2, h3]
      split <;> first | rfl | (split <;> first | rfl | (split <;> first | rfl | (split <;> first | rfl | (split <;> rfl))))
    case insert t x y z =>
      have h1 := h x (by simp); have h2 := h y (by simp); have h3 := h z (by simp)
      simp only [opMapUpdate, h1, h2, h3]
      split <;> first | rfl | (split <;> first | rfl | (split <;> first | rfl | (split <;> first | rfl | (split <;> rfl))))
    case convert s t x =>
      have h1 := h x (by simp)
      rw [opBytesStr_congr h1]
      cases opBytesStr P ⟨T, m⟩ s t x with
      | some r => rfl
      | none => exact hp
    all_goals exact hp

theorem callOf_congr {T T' : Fr} {m : Mem} {o : Oper} (h : ∀ x ∈ o.op.operands, opnd ⟨T', m⟩ x = opnd ⟨T, m⟩ x) : callOf ⟨T', m⟩ o = callOf ⟨T, m⟩ o := by
  unfold callOf
  split
  · rename_i f args ts ho
    rw [ho] at h
    have h1 := h f (by simp [Op.operands, Call.operands])
    have h2 := mapM_congr_opnd (f := opnd ⟨T', m⟩) (g := opnd ⟨T, m⟩) args.toList (fun x hx => h x (by simp [Op.operands, Call.operands]; exact .inr (by simpa using hx)))
    rw [h1, h2]
  · rfl

/-- no operation turns the number of globals -/
theorem step_g {loc : List Nat} {σ σ' : St} {o : Oper} {v : Value} (h : stepOp P loc σ o = some (v, σ')) : σ'.m.h.g = σ.m.h.g := by
  by_cases hn : clsN P o.op = true
  · rw [stepN_same hn h]
  · obtain ⟨dst, op, type, pos, after, guard⟩ := o
    unfold stepOp at h
    have hp : ∀ {o : Oper}, stepPure P σ o = some (v, σ') → σ'.m.h.g = σ.m.h.g := fun {o} h => by
      unfold stepPure at h; split at h <;> simp at h; rw [h.2]
    have hnv : ∀ {d : Option Nat} {e : TypeId} {cs : List Value}, σ.newVar loc d e cs = some (v, σ') → σ'.m.h.g = σ.m.h.g := fun {d e cs} h => by
      unfold St.newVar at h
      split at h
      · split at h <;> simp at h <;> rw [← h.2] <;> rfl
      · simp at h
    have hset : ∀ (m : Mem) (k : Key) (e : TypeId) (cs : List Value), (m.setRow k e cs).h.g = m.h.g := fun m k e cs => by obtain ⟨t, b⟩ := k; cases t <;> rfl
    cases op <;> simp only [clsN, not_true_eq_false] at hn <;> simp only at h
    case alloc t => simp only [opAlloc] at h; split at h <;> first | (simp at h; done) | exact hnv h
    case box t x => simp only [opBox] at h; split at h <;> first | (simp at h; done) | (split at h <;> first | (simp at h; done) | exact hnv h)
    case buildSlice t n ps =>
      simp only [opBuildSlice] at h
      split at h <;> first | (simp at h; done) | (split at h <;> first | (simp at h; done) | (split at h <;> first | (simp at h; done) | (split at h <;> simp at h; rw [← h.2]; rfl)))
    case store t x y =>
      simp only [opStore] at h
      split at h <;> first | (simp at h; done) | (split at h <;> first | (simp at h; done) | (split at h <;> simp at h; rw [← h.2]; exact hset _ _ _ _))
    case makeSlice t x y =>
      simp only [opMakeSlice] at h
      split at h <;> first | (simp at h; done) | (split at h <;> first | (simp at h; done) | (split at h <;> first | (simp at h; done) | (split at h <;> simp at h; rw [← h.2]; rfl)))
    case range t x => simp only [opRange] at h; split at h <;> simp at h; rw [← h.2]; rfl
    case next x b =>
      cases b
      · exact hp h
      · simp only [opNextS] at h
        split at h <;> first | (simp at h; done) | (split at h <;> first | (simp at h; done) | (split at h <;> simp at h <;> rw [← h.2] <;> rfl))
    case slice t x lo hi mx =>
      cases mx with
      | none => simp at hn
      | some _ => exact hp h
    case call c =>
      obtain ⟨callee, ⟨args⟩, ⟨tys⟩⟩ := c
      simp only [stepCall] at h
      cases callee with
      | value f => exact hp h
      | invoke r mm => exact hp h
      | builtin b =>
        cases b <;> first
          | exact hp h
          | (simp at hn; done)
          | (simp only at h
             split at h <;> first | (simp at h; done) | exact opCopyStr_g h)
          | (simp only at h
             split at h <;> first | (simp at h; done) | (
              simp only [opAppend] at h
              split at h <;> first | (simp at h; done) | (split at h <;> first | (simp at h; done) | (split at h <;> first | (simp at h; done) | (split at h <;> first | (simp at h; done) | (split at h <;> first | (simp at h; done) | (simp at h; rw [← h.2]; done) | (simp at h; rw [← h.2]; rfl) | (split at h <;> first | (simp at h; done) | (simp at h; rw [← h.2]; rfl))))))))
    case makeMap t r =>
      cases r with
      | none => simp only [opMakeMap] at h; simp at h; rw [← h.2]; rfl
      | some x => simp only [opMakeMap] at h; split at h <;> simp at h; rw [← h.2]; rfl
    case lookup t x y b =>
      simp only [opLookup] at h
      split at h <;> first | (simp at h; done) | (split at h <;> first | (simp at h; done) | (split at h <;> first | (simp at h; done) | (split at h <;> first | (simp at h; done) | (split at h <;> first | (simp at h; done) | (simp at h; rw [h.2])))))
    case mapUpdate t x y z =>
      simp only [opMapUpdate] at h
      split at h <;> first | (simp at h; done) | (split at h <;> first | (simp at h; done) | (split at h <;> first | (simp at h; done) | (split at h <;> first | (simp at h; done) | (simp at h; rw [← h.2]; rfl) | (split at h <;> first | (simp at h; done) | (simp at h; rw [← h.2]; rfl)))))
    case insert t x y z =>
      simp only [opMapUpdate] at h
      split at h <;> first | (simp at h; done) | (split at h <;> first | (simp at h; done) | (split at h <;> first | (simp at h; done) | (split at h <;> first | (simp at h; done) | (simp at h; rw [← h.2]; rfl) | (split at h <;> first | (simp at h; done) | (simp at h; rw [← h.2]; rfl)))))
    case convert s t x =>
      split at h
      · rename_i r hr
        rw [← hr] at h
        rw [opBytesStr_same h]
      · exact hp h
    all_goals exact hp h
end
end Go.Am
/- The abstract machine, part K: regions that draw, in the text's order. -/
namespace Go.Am
open Go

section
variable {P : Program} {ρ0 ρ ρ' : Rho} {h0 : Heap} {w0 w : World} {m : Mem}

abbrev HL := List (Nat × (Mem → Option Value) × Value)
def gO (P : Program) (loc : List Nat) (T : Fr) (o : Oper) : Mem → Option Value := fun M => valN P loc ⟨T, M⟩ o
/-- one operation that changes no memory: its value, and what is to be held of it -/
def effN (P : Program) (loc : List Nat) (ops : Array Oper) (hl : HL) (i : Nat) (o : Oper) (σ : St) : Option (Value × HL) :=
  match wantedA ops σ.t o with
  | none => none
  | some false => some (undef, hl)
  | some true => match valN P loc σ o with
    | some v => some (v, if clsR o.op then (i, gO P loc σ.t o, v) :: hl else hl)
    | none => none
def okHL (B : Nat → Nat → Bool) (i : Nat) (hl : HL) (M : Mem) : Prop := ∀ e ∈ hl, B i e.1 = false → e.2.1 M = some e.2.2
def vcH (P : Program) (loc : List Nat) (ops : Array Oper) (B : Nat → Nat → Bool) (Q : St → Prop) : HL → List (Nat × Oper) → St → Prop
  | _, [], σ => Q σ
  | hl, (i, o) :: r, σ =>
    if clsN P o.op then match effN P loc ops hl i o σ with
      | some (v, hl') => vcH P loc ops B Q hl' r (σ.putD o.dst v)
      | none => False
    else match wantedA ops σ.t o with
      | none => False
      | some false => vcH P loc ops B Q hl r (σ.putD o.dst undef)
      | some true => match callOf σ o with
        | some (f, args) => ACalls P f args σ.m.h fun v h' => Nice σ.m.h v h' → okHL B i hl ⟨σ.m.x, h'⟩ ∧ vcH P loc ops B Q hl r (St.putD ⟨σ.t, ⟨σ.m.x, h'⟩⟩ o.dst v)
        | none => match stepOp P loc σ o with
          | some (v, σ') => okHL B i hl σ'.m ∧ vcH P loc ops B Q hl r (σ'.putD o.dst v)
          | none => False

theorem effN_mono {loc : List Nat} {ops : Array Oper} {hl hl' : HL} {i : Nat} {o : Oper} {σ : St} {v : Value} {k : HL} (hs : ∀ e ∈ hl', e ∈ hl) (h : effN P loc ops hl i o σ = some (v, k)) :
    ∃ k', effN P loc ops hl' i o σ = some (v, k') ∧ ∀ e ∈ k', e ∈ k := by
  unfold effN at h ⊢
  split at h
  · simp at h
  · simp only [Option.some.injEq, Prod.mk.injEq] at h; obtain ⟨rfl, rfl⟩ := h; exact ⟨hl', rfl, hs⟩
  · split at h
    · simp only [Option.some.injEq, Prod.mk.injEq] at h
      obtain ⟨rfl, rfl⟩ := h
      refine ⟨_, rfl, ?_⟩
      split
      · intro e he; rcases List.mem_cons.1 he with q | q
        · rw [q]; simp
        · exact List.mem_cons_of_mem _ (hs e q)
      · exact hs
    · simp at h
theorem vcH_mono {loc : List Nat} {ops : Array Oper} {B : Nat → Nat → Bool} {Q : St → Prop} : ∀ (l : List (Nat × Oper)) (hl hl' : HL) (σ : St), (∀ e ∈ hl', e ∈ hl) → vcH P loc ops B Q hl l σ → vcH P loc ops B Q hl' l σ := by
  intro l
  induction l with
  | nil => intro hl hl' σ _ h; exact h
  | cons p r ih =>
    intro hl hl' σ hs h
    obtain ⟨i, o⟩ := p
    simp only [vcH] at h ⊢
    split at h
    · rename_i hn
      rw [if_pos hn]
      split at h
      · rename_i v k hk
        obtain ⟨k', e1, e2⟩ := effN_mono hs hk
        rw [e1]
        exact ih _ _ _ e2 h
      · exact h.elim
    · rename_i hn
      rw [if_neg hn]
      split at h
      · exact h.elim
      · rename_i hw; exact ih _ _ _ hs h
      · rename_i hw
        split at h
        · rename_i f args hc
          exact h.mono fun v h' q hn => ⟨fun e he => (q hn).1 e (hs e he), ih _ _ _ hs (q hn).2⟩
        · rename_i hc
          split at h
          · rename_i v σ' hst; exact ⟨fun e he => h.1 e (hs e he), ih _ _ _ hs h.2⟩
          · exact h.elim

/-- what o looks at is not what d writes -/
theorem looks_opnd {ops : Array Oper} {σ : St} {d : Option Nat} {o : Oper} (h : ∀ i, d = some i → i ∉ o.looksAt ops) (v : Value) : ∀ x ∈ o.op.operands, opnd (σ.putD d v) x = opnd σ x := by
  intro x hx
  cases d with
  | none => rfl
  | some i =>
    cases x with
    | tmp t =>
      have : ¬ i = t := fun e => h i rfl (by
        subst e
        exact List.mem_append_left _ (List.mem_filterMap.2 ⟨.tmp i, by simpa using hx, rfl⟩))
      simp [opnd, St.putD, Fr.get, Fr.put, this]
    | _ => rfl
theorem looks_wanted {ops : Array Oper} {T : Fr} {m : Mem} {d : Option Nat} {o : Oper} (h : ∀ i, d = some i → i ∉ o.looksAt ops) (v : Value) : wantedA ops (St.putD ⟨T, m⟩ d v).t o = wantedA ops T o := by
  cases d with
  | none => rfl
  | some i =>
    unfold wantedA
    cases hg : o.guard with
    | none => rfl
    | some gw =>
      obtain ⟨g, want⟩ := gw
      simp only
      cases ht : (ops[g]?).bind (·.dst) with
      | none => rfl
      | some t =>
        have : ¬ i = t := fun e => h i rfl (by subst e; simp [Oper.looksAt, hg, ht])
        simp [St.putD, Fr.get, Fr.put, this]
theorem putD_comm (σ : St) {d e : Option Nat} (v u : Value) (h : ∀ i, d = some i → e ≠ some i) : (σ.putD d v).putD e u = (σ.putD e u).putD d v := by
  cases d with
  | none => rfl
  | some i =>
    cases e with
    | none => rfl
    | some j =>
      have hne : ¬ i = j := fun q => h i rfl (by rw [q])
      simp only [St.putD]
      congr 1
      funext k
      simp only [Fr.put]
      by_cases h1 : j = k
      · subst h1; simp [hne]
      · simp [h1]
theorem putD_m (σ : St) (d : Option Nat) (v : Value) : (σ.putD d v).m = σ.m := by cases d <;> rfl
theorem putD_mk (T : Fr) (M M' : Mem) (d : Option Nat) (v : Value) : (St.putD ⟨T, M⟩ d v).t = (St.putD ⟨T, M'⟩ d v).t := by cases d <;> rfl

/-- the effect of an operation of class N where another one that it does not look at stands ahead of it -/
theorem effN_congr {loc : List Nat} {ops : Array Oper} {hl : HL} {i : Nat} {o : Oper} (hn : clsN P o.op = true) {σ τ : St} (hw : wantedA ops σ.t o = wantedA ops τ.t o)
    (ho : ∀ M, ∀ x ∈ o.op.operands, opnd ⟨σ.t, M⟩ x = opnd ⟨τ.t, M⟩ x) (hv : wantedA ops τ.t o = some true → valN P loc σ o = valN P loc τ o) :
    effN P loc ops hl i o σ = effN P loc ops hl i o τ := by
  unfold effN
  rw [hw]
  have hg : gO P loc σ.t o = gO P loc τ.t o := by
    funext M
    exact valN_congr hn (ho M) (fun _ => rfl)
  split
  · rfl
  · rfl
  · rename_i hw'
    rw [hv hw', hg]

theorem vcH_swap {loc : List Nat} {ops : Array Oper} {B : Nat → Nat → Bool} {Q : St → Prop} {i j : Nat} {oi oj : Oper} {r : List (Nat × Oper)} (hj : clsN P oj.op = true) (hB : B i j = false)
    (a1 : ∀ d, oj.dst = some d → d ∉ oi.looksAt ops) (a2 : ∀ d, oj.dst = some d → oi.dst ≠ some d) (a3 : ∀ d, oi.dst = some d → d ∉ oj.looksAt ops) (hnl : notLoc loc oi = true)
    {hl : HL} {σ : St} (h : vcH P loc ops B Q hl ((j, oj) :: (i, oi) :: r) σ) : vcH P loc ops B Q hl ((i, oi) :: (j, oj) :: r) σ := by
  obtain ⟨T, M⟩ := σ
  simp only [vcH] at h
  rw [if_pos hj] at h
  split at h
  rotate_left
  · exact h.elim
  rename_i u hl1 hej
  have hopi : ∀ M', ∀ x ∈ oi.op.operands, opnd (St.putD ⟨T, M'⟩ oj.dst u) x = opnd ⟨T, M'⟩ x := fun M' => looks_opnd a1 u
  have hwi : wantedA ops (St.putD ⟨T, M⟩ oj.dst u).t oi = wantedA ops T oi := looks_wanted (m := M) a1 u
  have hst : ∀ M', St.putD ⟨T, M'⟩ oj.dst u = ⟨(St.putD ⟨T, M⟩ oj.dst u).t, M'⟩ := fun M' => by cases oj.dst <;> rfl
  -- what is held of j, if anything
  have hl1s : ∀ e ∈ hl, e ∈ hl1 := by
    unfold effN at hej
    split at hej
    · simp at hej
    · simp only [Option.some.injEq, Prod.mk.injEq] at hej; rw [← hej.2]; exact fun e he => he
    · split at hej
      · simp only [Option.some.injEq, Prod.mk.injEq] at hej
        rw [← hej.2]
        split
        · exact fun e he => List.mem_cons_of_mem _ he
        · exact fun e he => he
      · simp at hej
  -- j behind i, in whatever memory i leaves where what is held of j holds
  have jafter : ∀ (vi : Value) (M' : Mem), M'.h.g = M.h.g → okHL B i hl1 M' → effN P loc ops hl j oj (St.putD ⟨T, M'⟩ oi.dst vi) = some (u, hl1) := by
    intro vi M' hg hok
    have hwj : wantedA ops (St.putD ⟨T, M'⟩ oi.dst vi).t oj = wantedA ops T oj := looks_wanted (m := M') a3 vi
    have hoj : ∀ M1, ∀ x ∈ oj.op.operands, opnd ⟨(St.putD ⟨T, M'⟩ oi.dst vi).t, M1⟩ x = opnd ⟨T, M1⟩ x := fun M1 x hx => by
      have := looks_opnd (σ := ⟨T, M1⟩) a3 vi x hx
      rw [← this, putD_mk T M' M1]
      cases oi.dst <;> rfl
    rw [← hej]
    refine effN_congr hj hwj hoj fun hwt => ?_
    by_cases hr : clsR oj.op = true
    · -- it reads: what is held of it
      unfold effN at hej
      rw [hwt] at hej
      simp only [hr, if_true] at hej
      split at hej
      rotate_left
      · simp at hej
      rename_i v hv
      simp only [Option.some.injEq, Prod.mk.injEq] at hej
      obtain ⟨rfl, rfl⟩ := hej
      have := hok (j, gO P loc T oj, v) (by simp) hB
      simp only [gO] at this
      rw [hv, ← this]
      have hm : (St.putD ⟨T, M'⟩ oi.dst vi) = ⟨(St.putD ⟨T, M'⟩ oi.dst vi).t, M'⟩ := by cases oi.dst <;> rfl
      rw [hm]
      exact valN_congr hj (hoj M') (fun _ => rfl)
    · have hm : (St.putD ⟨T, M'⟩ oi.dst vi) = ⟨(St.putD ⟨T, M'⟩ oi.dst vi).t, M'⟩ := by cases oi.dst <;> rfl
      rw [hm]
      refine valN_congr hj (fun x hx => ?_) (fun q => absurd q hr)
      rw [hoj M' x hx]
      exact opnd_congr hg x
  have hcomm : ∀ (vi : Value) (M' : Mem), St.putD (St.putD ⟨T, M'⟩ oi.dst vi) oj.dst u = St.putD ⟨(St.putD ⟨T, M⟩ oj.dst u).t, M'⟩ oi.dst vi := fun vi M' => by
    rw [← hst M']
    exact (putD_comm _ u vi a2).symm
  simp only [vcH]
  by_cases hi : clsN P oi.op = true
  · -- neither changes memory
    rw [if_pos hi] at h ⊢
    split at h
    rotate_left
    · exact h.elim
    rename_i vi hl2 hei
    have hei' : effN P loc ops hl1 i oi ⟨T, M⟩ = some (vi, hl2) := by
      rw [← hei]
      refine (effN_congr hi hwi (fun M1 x hx => ?_) fun _ => ?_).symm
      · have := hopi M1 x hx; rw [hst M1] at this; exact this
      · rw [hst M]
        exact valN_congr hi (fun x hx => by have := hopi M x hx; rw [hst M] at this; exact this) (fun _ => rfl)
    -- the held ones in the other order
    have hcase : ∃ k, effN P loc ops hl i oi ⟨T, M⟩ = some (vi, k) ∧ ∃ k2, effN P loc ops k j oj (St.putD ⟨T, M⟩ oi.dst vi) = some (u, k2) ∧ ∀ e ∈ k2, e ∈ hl2 := by
      have hwj : wantedA ops (St.putD ⟨T, M⟩ oi.dst vi).t oj = wantedA ops T oj := looks_wanted (m := M) a3 vi
      have hoj : ∀ M1, ∀ x ∈ oj.op.operands, opnd ⟨(St.putD ⟨T, M⟩ oi.dst vi).t, M1⟩ x = opnd ⟨T, M1⟩ x := fun M1 x hx => by
        have := looks_opnd (σ := ⟨T, M1⟩) a3 vi x hx
        rw [← this, putD_mk T M M1]
        cases oi.dst <;> rfl
      have hjv : ∀ k, effN P loc ops k j oj (St.putD ⟨T, M⟩ oi.dst vi) = effN P loc ops k j oj ⟨T, M⟩ := fun k => by
        refine effN_congr hj hwj hoj fun _ => ?_
        have hm : (St.putD ⟨T, M⟩ oi.dst vi) = ⟨(St.putD ⟨T, M⟩ oi.dst vi).t, M⟩ := by cases oi.dst <;> rfl
        rw [hm]
        exact valN_congr hj (hoj M) (fun _ => rfl)
      simp only [hjv]
      unfold effN at hej hei' ⊢
      split at hej
      · simp at hej
      · simp only [Option.some.injEq, Prod.mk.injEq] at hej
        obtain ⟨rfl, rfl⟩ := hej
        rename_i hwjf
        simp only at hwjf
        refine ⟨hl2, hei', hl2, rfl, fun e he => he⟩
      · rename_i hwjt
        simp only at hwjt
        split at hej
        rotate_left
        · simp at hej
        rename_i vj hvj
        simp only [Option.some.injEq, Prod.mk.injEq] at hej
        obtain ⟨rfl, rfl⟩ := hej
        split at hei'
        · simp at hei'
        · simp only [Option.some.injEq, Prod.mk.injEq] at hei'
          obtain ⟨rfl, rfl⟩ := hei'
          exact ⟨hl, rfl, _, rfl, fun e he => he⟩
        · split at hei'
          rotate_left
          · simp at hei'
          simp only [Option.some.injEq, Prod.mk.injEq] at hei'
          obtain ⟨rfl, rfl⟩ := hei'
          refine ⟨_, rfl, _, rfl, fun e he => ?_⟩
          by_cases r1 : clsR oi.op = true <;> by_cases r2 : clsR oj.op = true <;> simp only [r1, r2, if_true, if_false, Bool.false_eq_true] at he ⊢
          · simp only [List.mem_cons] at he ⊢
            rcases he with q | q | q
            · exact .inr (.inl q)
            · exact .inl q
            · exact .inr (.inr q)
          · exact he
          · exact he
          · exact he
    obtain ⟨k, e1, k2, e2, e3⟩ := hcase
    rw [e1]
    simp only
    rw [if_pos hj, e2]
    simp only
    rw [hcomm vi M, ← hst M]
    exact vcH_mono _ _ _ _ e3 h
  · rw [if_neg hi] at h ⊢
    rw [hwi] at h
    split at h
    · exact h.elim
    · rename_i hw
      rw [if_pos hj]
      -- not wanted: nothing is done
      have hwj : wantedA ops (St.putD ⟨T, M⟩ oi.dst undef).t oj = wantedA ops T oj := looks_wanted (m := M) a3 undef
      have hoj : ∀ M1, ∀ x ∈ oj.op.operands, opnd ⟨(St.putD ⟨T, M⟩ oi.dst undef).t, M1⟩ x = opnd ⟨T, M1⟩ x := fun M1 x hx => by
        have := looks_opnd (σ := ⟨T, M1⟩) a3 undef x hx
        rw [← this, putD_mk T M M1]
        cases oi.dst <;> rfl
      have hjv : effN P loc ops hl j oj (St.putD ⟨T, M⟩ oi.dst undef) = some (u, hl1) := by
        rw [← hej]
        refine effN_congr hj hwj hoj fun _ => ?_
        have hm : (St.putD ⟨T, M⟩ oi.dst undef) = ⟨(St.putD ⟨T, M⟩ oi.dst undef).t, M⟩ := by cases oi.dst <;> rfl
        rw [hm]
        exact valN_congr hj (hoj M) (fun _ => rfl)
      rw [hjv]
      simp only
      rw [hcomm undef M, ← hst M]
      exact h
    · rename_i hw
      have hci : callOf (St.putD ⟨T, M⟩ oj.dst u) oi = callOf ⟨T, M⟩ oi := by rw [hst M]; exact callOf_congr fun x hx => by have := hopi M x hx; rw [hst M] at this; exact this
      rw [hci] at h
      split at h
      · rename_i f args hc
        rw [putD_m] at h
        refine h.mono fun v h' q hn => ?_
        obtain ⟨q1, q2⟩ := q hn
        refine ⟨fun e he => q1 e (hl1s e he), ?_⟩
        rw [if_pos hj, jafter v ⟨M.x, h'⟩ hn.1 q1]
        simp only
        rw [hcomm v]
        exact q2
      · rename_i hc
        have hsi := stepW_congr (P := P) (loc := loc) (T := T) (T' := (St.putD ⟨T, M⟩ oj.dst u).t) (m := M) hnl (fun x hx => by have := hopi M x hx; rw [hst M] at this; exact this)
        rw [hst M, hsi] at h
        split at h
        rotate_left
        · exact h.elim
        rename_i v σ' hs
        cases hs2 : stepOp P loc ⟨T, M⟩ oi with
        | none => rw [hs2] at hs; simp at hs
        | some p =>
          obtain ⟨v2, σ2⟩ := p
          rw [hs2] at hs
          simp only [Option.map_some, Option.some.injEq, Prod.mk.injEq] at hs
          obtain ⟨rfl, rfl⟩ := hs
          have hg := step_g hs2
          have ht : σ2.t = T := by
            have := stepW_congr (P := P) (loc := loc) (T := T) (T' := T) (m := M) hnl (fun x hx => rfl)
            rw [hs2] at this
            simp only [Option.map_some, Option.some.injEq, Prod.mk.injEq, true_and] at this
            rw [this]
          obtain ⟨T2, M2⟩ := σ2
          simp only at ht hg h ⊢
          subst ht
          refine ⟨fun e he => h.1 e (hl1s e he), ?_⟩
          rw [if_pos hj, jafter v2 M2 hg h.1]
          simp only
          rw [hcomm v2]
          exact h.2
end
end Go.Am
/- The abstract machine, part L: a drawn region, sound. -/
namespace Go.Am
open Go

section
variable {P : Program} {ρ0 ρ ρ' : Rho} {h0 : Heap} {w0 w : World} {m : Mem}

/-- what may be told behind another one as well -/
def moves (P : Program) (ops : Array Oper) (p q : Nat × Oper) : Prop :=
  clsN P p.2.op = true ∧ (∀ d, p.2.dst = some d → d ∉ q.2.looksAt ops) ∧ (∀ d, p.2.dst = some d → q.2.dst ≠ some d) ∧ (∀ d, q.2.dst = some d → d ∉ p.2.looksAt ops)
/-- what holds of an operation that stands ahead of another one in the list -/
def aheadOK (P : Program) (ops : Array Oper) (B : Nat → Nat → Bool) (Wl : List Nat) (p q : Nat × Oper) : Prop :=
  p.1 ≠ q.1 ∧ (B q.1 p.1 = false → (clsN P p.2.op = false ∧ clsN P q.2.op = false) ∨ moves P ops p q ∨ ∃ r, r ≠ q.1 ∧ B q.1 r = true ∧ [p.1, r].Sublist Wl)
theorem suf_in {A S : List Nat} {p r : Nat} (hn : (A ++ S).Nodup) (hp : p ∈ S) (h : [p, r].Sublist (A ++ S)) : r ∈ S := by
  obtain ⟨l1, l2, e, h1, h2⟩ := List.sublist_append_iff.1 h
  cases l1 with
  | nil => rw [List.nil_append] at e; exact h2.subset (by rw [← e]; simp)
  | cons a t =>
    rw [List.cons_append, List.cons.injEq] at e
    have : a ∈ A := h1.subset (by simp)
    exact absurd e.1.symm ((List.nodup_append.1 hn).2.2 a this p hp)

theorem vcH_N {loc : List Nat} {ops : Array Oper} {B : Nat → Nat → Bool} {Q : St → Prop} {hl : HL} {i : Nat} {o : Oper} {r : List (Nat × Oper)} {σ : St} (hn : clsN P o.op = true) :
    vcH P loc ops B Q hl ((i, o) :: r) σ ↔ ∃ v hl', effN P loc ops hl i o σ = some (v, hl') ∧ vcH P loc ops B Q hl' r (σ.putD o.dst v) := by
  rw [vcH, if_pos hn]
  constructor
  · intro h
    split at h
    · rename_i v k hk; exact ⟨v, k, hk, h⟩
    · exact h.elim
  · rintro ⟨v, k, h1, h2⟩
    rw [h1]; exact h2
theorem vcH_front {loc : List Nat} {ops : Array Oper} {B : Nat → Nat → Bool} {Q : St → Prop} {q : Nat × Oper} {post : List (Nat × Oper)} (hnl : notLoc loc q.2 = true) : ∀ (pre : List (Nat × Oper)) (hl : HL) (σ : St),
    (∀ p ∈ pre, moves P ops p q ∧ B q.1 p.1 = false) → vcH P loc ops B Q hl (pre ++ q :: post) σ → vcH P loc ops B Q hl (q :: (pre ++ post)) σ := by
  intro pre
  induction pre with
  | nil => intro hl σ _ h; exact h
  | cons p r ih =>
    intro hl σ hp h
    obtain ⟨j, oj⟩ := p
    obtain ⟨i, oi⟩ := q
    obtain ⟨⟨hj, a1, a2, a3⟩, hB⟩ := hp (j, oj) (by simp)
    refine vcH_swap hj hB a1 a2 a3 hnl ?_
    simp only [List.cons_append] at h
    rw [vcH_N hj] at h ⊢
    obtain ⟨v, k, h1, h2⟩ := h
    exact ⟨v, k, h1, ih _ _ (fun p hp' => hp p (List.mem_cons_of_mem _ hp')) h2⟩

/-- a call, with all that is known behind it -/
theorem wp_call_core {o : Oper} {f : FuncId} {args : List Value} {σ : St} {a : Act} {post : Value → Heap → Prop} {K : Act → World → Prop} {Z : Exit → Act → World → Prop} (hc : callOf σ o = some (f, args))
    (H : ACalls P f args σ.m.h post) (I : Inv P ρ0 h0 w0 ρ σ.m w) (F : FRel ρ σ.t a.tmps)
    (hK : ∀ v h' ρ' v' w', post v h' → Nice σ.m.h v h' → Inv P ρ0 h0 w0 ρ' ⟨σ.m.x, h'⟩ w' → (∀ b pl, ρ (false, b) = some pl → ρ' (false, b) = some pl) → (∀ s, ρ' (true, s) = ρ (true, s)) → VR ρ' v v' → K (a.put o.dst v') w') : o.wp P a w K Z := by
  obtain ⟨args', hV, hrun⟩ := callOf_ok hc H.1 I F
  unfold Oper.wp
  rw [hrun]
  simp only [Oper.upon]
  have hcall := H.2 (heapOnly ρ) w args' (fun s => heapOnly_t ρ s) I.rel.heapOnly ⟨hV.1, fun i v hi => let ⟨v', q1, q2⟩ := hV.2 i v hi; ⟨v', q1, q2.heapOnly⟩⟩
  refine hcall.mono ?_
  rintro e w' ⟨v, v', h', ρ', rfl, hpost, hbox, hR, hT, hv⟩
  simp only
  obtain ⟨J, j1, j2⟩ := I.call hR hT
  exact hK v h' _ v' w' hpost ⟨hT.hg, hv.isNoLoc, hT.hn⟩ J j1 j2 (hv.mono fun b pl q => by simp only [Rho.join, Bool.false_eq_true, if_false]; exact q)

/-- boxes that are to be made yet: the operation's number, the slot, the type, the zero value's cells -/
structure Pend where
  i : Nat
  s : Nat
  e : TypeId
  z : List Value
def hideP (pd : List Pend) (T : Fr) : Fr := fun j => if pd.any (fun p => p.s == j) then none else T j
theorem hideP_in {pd : List Pend} {T : Fr} {j : Nat} (h : ∃ p ∈ pd, p.s = j) : hideP pd T j = none := by
  unfold hideP
  rw [if_pos]
  obtain ⟨p, q1, q2⟩ := h
  exact List.any_eq_true.2 ⟨p, q1, by simp [q2]⟩
theorem hideP_out {pd : List Pend} {T : Fr} {j : Nat} (h : ∀ p ∈ pd, p.s ≠ j) : hideP pd T j = T j := by
  unfold hideP
  rw [if_neg]
  intro q
  obtain ⟨p, q1, q2⟩ := List.any_eq_true.1 q
  exact h p q1 (by simpa using q2)

structure PendOK (P : Program) (loc : List Nat) (ops : Array Oper) (p : Pend) : Prop where
  op : ∃ o, ops[p.i]? = some o ∧ o.op = .alloc p.e ∧ o.dst = some p.s ∧ o.guard = none
  zero : zeroT P p.e = some p.z

def ConD (P : Program) (ρ0 : Rho) (h0 : Heap) (w0 : World) (n : Nat) (pd : List Pend) (σ : St) (a : Act) (w : World) : Prop :=
  ∃ ρ, Inv P ρ0 h0 w0 ρ σ.m w ∧ FRel ρ (hideP pd σ.t) a.tmps ∧ a.tmps.size = n ∧ a.defers = [] ∧
    ∀ p ∈ pd, ρ (true, p.s) = none ∧ σ.m.x p.s = some (p.e, p.z) ∧ σ.t p.s = some (.pointer (some ⟨p.s, 0, some 0⟩))

theorem hideP_put {pd : List Pend} {T : Fr} {m : Mem} {d : Option Nat} (h : ∀ i, d = some i → ∀ p ∈ pd, p.s ≠ i) (v : Value) : hideP pd (St.putD ⟨T, m⟩ d v).t = (St.putD ⟨hideP pd T, m⟩ d v).t := by
  cases d with
  | none => rfl
  | some i =>
    funext j
    simp only [St.putD]
    by_cases hj : ∃ p ∈ pd, p.s = j
    · have hne : ¬ i = j := fun q => by obtain ⟨p, q1, q2⟩ := hj; exact h i rfl p q1 (q2.trans q.symm)
      rw [hideP_in hj]
      simp only [Fr.put, hne, if_false]
      rw [hideP_in hj]
    · have hj' : ∀ p ∈ pd, p.s ≠ j := fun p hp q => hj ⟨p, hp, q⟩
      rw [hideP_out hj']
      simp only [Fr.put]
      split
      · rfl
      · rw [hideP_out hj']

/-- one more operation of the list, behind which the boxes that are pending are pending still -/
theorem conD_put {n : Nat} {pd : List Pend} {T : Fr} {M : Mem} {a : Act} {d : Option Nat} {v v' : Value} (I : Inv P ρ0 h0 w0 ρ M w) (F : FRel ρ (hideP pd T) a.tmps) (hs : a.tmps.size = n) (hdf : a.defers = [])
    (hd : ∀ i, d = some i → i < n) (hdp : ∀ i, d = some i → ∀ p ∈ pd, p.s ≠ i) (hv : VT ρ v v')
    (hp : ∀ p ∈ pd, ρ (true, p.s) = none ∧ M.x p.s = some (p.e, p.z) ∧ T p.s = some (.pointer (some ⟨p.s, 0, some 0⟩))) :
    ConD P ρ0 h0 w0 n pd (St.putD ⟨T, M⟩ d v) (a.put d v') w := by
  refine ⟨ρ, by rw [putD_m]; exact I, ?_, by cases d <;> simp [Act.put, hs], by cases d <;> exact hdf, fun p hpp => ?_⟩
  · rw [hideP_put hdp]
    cases d with
    | none => exact F
    | some i => exact F.put (by rw [hs]; exact hd i rfl) hv
  · obtain ⟨q1, q2, q3⟩ := hp p hpp
    refine ⟨q1, by rw [putD_m]; exact q2, ?_⟩
    cases d with
    | none => exact q3
    | some i =>
      have : ¬ i = p.s := fun e => hdp i rfl p hpp e.symm
      simp only [St.putD, Fr.put, this, if_false]
      exact q3

/-- the list's operations, and the boxes, are those that are left of the order that is drawn; those that change memory (W) stand in its order -/
structure Left (P : Program) (loc : List Nat) (ops : Array Oper) (B : Nat → Nat → Bool) (W : Nat → Bool) (Wl : List Nat) (n : Nat) (L : List Nat) (pd : List Pend) (rem : List (Nat × Oper)) : Prop where
  left : ∀ i, i ∈ L ↔ (∃ p ∈ pd, p.i = i) ∨ ∃ q ∈ rem, q.1 = i
  nodup : L.Nodup
  cons : L.Pairwise fun x y => B x y = false
  ord : (rem.map (·.1)).filter W = L.filter W
  wr : ∀ q ∈ rem, W q.1 = !clsN P q.2.op
  wp : ∀ p ∈ pd, W p.i = false
  suf : (L.filter W).IsSuffix Wl
  wnd : Wl.Nodup
  wW : ∀ x ∈ Wl, W x = true
  pair : rem.Pairwise (aheadOK P ops B Wl)
  remOK : ∀ q ∈ rem, ops[q.1]? = some q.2 ∧ notLoc loc q.2 = true ∧ (∀ i, q.2.dst = some i → i < n) ∧
    ∀ p ∈ pd, B q.1 p.i = false → p.s ∉ q.2.looksAt ops ∧ q.2.dst ≠ some p.s
  pend : ∀ p ∈ pd, PendOK P loc ops p ∧ p.s < n
  pendpair : pd.Pairwise fun p q => p.i ≠ q.i ∧ p.s ≠ q.s
  apartI : ∀ p ∈ pd, ∀ q ∈ rem, p.i ≠ q.1

/-- what is left when one of them has been done -/
theorem Left.next {loc : List Nat} {ops : Array Oper} {B : Nat → Nat → Bool} {W : Nat → Bool} {Wl : List Nat} {n : Nat} {i : Nat} {l : List Nat} {pd pd' : List Pend} {rem rem' : List (Nat × Oper)} (L : Left P loc ops B W Wl n (i :: l) pd rem)
    (hpd : pd'.Sublist pd) (hrem : rem'.Sublist rem)
    (hl : ∀ j, j ≠ i → ((∃ p ∈ pd, p.i = j) ∨ ∃ q ∈ rem, q.1 = j) → ((∃ p ∈ pd', p.i = j) ∨ ∃ q ∈ rem', q.1 = j)) (hi2 : ¬ ((∃ p ∈ pd', p.i = i) ∨ ∃ q ∈ rem', q.1 = i))
    (ho : (rem'.map (·.1)).filter W = l.filter W) :
    Left P loc ops B W Wl n l pd' rem' := by
  have hnd := List.nodup_cons.1 L.nodup
  refine ⟨fun j => ⟨fun hj => hl j (fun e => hnd.1 (e ▸ hj)) ((L.left j).1 (List.mem_cons_of_mem _ hj)), fun hj => ?_⟩, hnd.2, (List.pairwise_cons.1 L.cons).2, ho, fun q hq => L.wr q (hrem.subset hq), fun p hp => L.wp p (hpd.subset hp), ?_, L.wnd, L.wW, L.pair.sublist hrem, fun q hq => ?_,
    fun p hp => L.pend p (hpd.subset hp), L.pendpair.sublist hpd, fun p hp q hq => L.apartI p (hpd.subset hp) q (hrem.subset hq)⟩
  · have hji : j ≠ i := fun e => hi2 (e ▸ hj)
    have : j ∈ i :: l := (L.left j).2 (by
      rcases hj with ⟨p, q1, q2⟩ | ⟨q, q1, q2⟩
      · exact .inl ⟨p, hpd.subset q1, q2⟩
      · exact .inr ⟨q, hrem.subset q1, q2⟩)
    rcases List.mem_cons.1 this with e | e
    · exact absurd e hji
    · exact e
  · have := L.suf
    rw [List.filter_cons] at this
    split at this
    · exact (List.suffix_cons _ _).trans this
    · exact this
  · obtain ⟨q1, q2, q3, q4⟩ := L.remOK q (hrem.subset hq)
    exact ⟨q1, q2, q3, fun p hp => q4 p (hpd.subset hp)⟩

theorem draw_list {loc : List Nat} {ops : Array Oper} {B : Nat → Nat → Bool} {W : Nat → Bool} {Wl : List Nat} {Q : St → Prop} {Z : Exit → Act → World → Prop} {n : Nat} (hZ : ∀ σ' a' w', Q σ' → Con P ρ0 h0 w0 n σ' a' w' → Z .normal a' w') :
    ∀ (l : List Nat) (pd : List Pend) (rem : List (Nat × Oper)) (hl : HL) (σ : St) (a : Act) (w : World), Left P loc ops B W Wl n l pd rem →
      vcH P loc ops B Q hl rem σ → ConD P ρ0 h0 w0 n pd σ a w → wpOps P ops Z l a w := by
  intro l
  induction l with
  | nil =>
    intro pd rem hl σ a w L h C
    have hpd : pd = [] := List.eq_nil_iff_forall_not_mem.2 fun p hp => by have := (L.left p.i).2 (.inl ⟨p, hp, rfl⟩); simp at this
    have hrem : rem = [] := List.eq_nil_iff_forall_not_mem.2 fun q hq => by have := (L.left q.1).2 (.inr ⟨q, hq, rfl⟩); simp at this
    subst hpd; subst hrem
    obtain ⟨ρ, I, F, hs, hd, _⟩ := C
    exact hZ σ a w h ⟨ρ, I, F, hs, hd⟩
  | cons i l ih =>
    intro pd rem hl σ a w L h C
    rw [wpOps_cons]
    have hnd := List.nodup_cons.1 L.nodup
    have hnl : ∀ k, ((∃ p ∈ pd, p.i = k) ∨ ∃ q ∈ rem, q.1 = k) → k ≠ i → B i k = false := fun k hk hki => by
      rcases List.mem_cons.1 ((L.left k).2 hk) with e | e
      · exact absurd e hki
      · exact (List.pairwise_cons.1 L.cons).1 k e
    obtain ⟨ρ, I, F, hs, hdf, hp⟩ := C
    rcases (L.left i).1 (by simp) with ⟨p, hpm, hpi⟩ | ⟨q, hqm, hqi⟩
    · -- a box is made
      subst hpi
      obtain ⟨⟨⟨oi, hoi, c2, c3, c4⟩, hzero⟩, hsn⟩ := L.pend p hpm
      obtain ⟨zv, hzc, hzf, hzr⟩ := run_zeroValue hzero
      obtain ⟨l1, l2, hsplit⟩ := List.append_of_mem hpm
      have hdis : ∀ p' ∈ l1 ++ l2, p'.i ≠ p.i ∧ p'.s ≠ p.s := by
        intro p' hp'
        have hpw := L.pendpair
        rw [hsplit, List.pairwise_append] at hpw
        rcases List.mem_append.1 hp' with q | q
        · exact hpw.2.2 p' q p (by simp)
        · have := (List.pairwise_cons.1 hpw.2.1).1 p' q
          exact ⟨fun e => this.1 e.symm, fun e => this.2 e.symm⟩
      have hsub : (l1 ++ l2).Sublist pd := by rw [hsplit]; exact List.Sublist.append (List.Sublist.refl _) (List.sublist_cons_self _ _)
      obtain ⟨hpn, hpx, hpt⟩ := hp p hpm
      have hfit : Fits P ρ (.row true p.e p.z) (.cells ⟨p.z⟩ p.e (0, 0)) ⟨w.heap.size, 0, (⟨p.z⟩ : Array Value).size, P.cellsOf p.e⟩ := .row p.e p.e p.z ⟨p.z⟩ _ (by simp) (flat_self hzf)
      have J := I.newB p.s hfit rfl
      have hsame : (⟨σ.m.x.set p.s (p.e, p.z), σ.m.h⟩ : Mem) = σ.m := by
        obtain ⟨T, x, hh⟩ := σ
        simp only at hpx ⊢
        congr 1
        funext j
        simp only [Boxes.set]
        split
        · rename_i e; subst e; exact hpx.symm
        · rfl
      rw [hsame] at J
      simp only [wpOp, hoi]
      rw [if_pos (by simp [Region.wanted, c4])]
      refine .inl ?_
      unfold Oper.wp
      have hrun : (execOp a.eval oi).run P w = .ok (.value (.pointer (some ⟨w.heap.size, 0, none⟩))) (w.alloc (.cells ⟨p.z⟩ p.e)) := by
        simp [execOp, c2, Instr.alloc, hzr, newVar, newRow, hzc]
      rw [hrun]
      simp only [Oper.upon, c3]
      refine ih (l1 ++ l2) rem hl σ _ _
        (L.next hsub (List.Sublist.refl _) (fun j hj hjl => ?_) (fun hj => ?_) (by rw [L.ord, List.filter_cons, if_neg (by rw [L.wp p hpm]; simp)])) h ?_
      · rcases hjl with ⟨p', q1, q2⟩ | q
        · rw [hsplit] at q1
          simp only [List.mem_append, List.mem_cons] at q1
          rcases q1 with z | z | z
          · exact .inl ⟨p', by simp [z], q2⟩
          · subst z; exact absurd q2.symm hj
          · exact .inl ⟨p', by simp [z], q2⟩
        · exact .inr q
      · rcases hj with ⟨p', q1, q2⟩ | ⟨q, q1, q2⟩
        · exact (hdis p' q1).1 q2
        · exact L.apartI p hpm q q1 q2.symm
      · refine ⟨_, J, ?_, by simp [Act.put, hs], hdf, fun p' hp' => ?_⟩
        · intro j u hj
          simp only [Fr.get] at hj
          by_cases hjs : j = p.s
          · subst hjs
            rw [hideP_out (fun p' hp' => (hdis p' hp').2)] at hj
            rw [hpt] at hj
            obtain rfl := Option.some.inj hj
            refine ⟨.pointer (some ⟨w.heap.size, 0, none⟩), by simp only [Act.put]; rw [Array.getElem?_setIfInBounds_self_of_lt (by rw [hs]; exact hsn)], ?_⟩
            have := VT.ofPtr (ρ := ρ.upd (true, p.s) ⟨w.heap.size, 0, (⟨p.z⟩ : Array Value).size, P.cellsOf p.e⟩) (ad := ⟨p.s, 0, some 0⟩) (pl := ⟨w.heap.size, 0, (⟨p.z⟩ : Array Value).size, P.cellsOf p.e⟩) (by simp [key, Rho.upd])
            simpa using this
          · have hj' : hideP pd σ.t j = some u := by
              rw [← hj]
              by_cases hex : ∃ p' ∈ l1 ++ l2, p'.s = j
              · rw [hideP_in hex, hideP_in]
                obtain ⟨p', q1, q2⟩ := hex
                exact ⟨p', hsub.subset q1, q2⟩
              · have hno : ∀ p' ∈ l1 ++ l2, p'.s ≠ j := fun p' hp' e => hex ⟨p', hp', e⟩
                rw [hideP_out hno, hideP_out]
                intro p' hp'
                rw [hsplit] at hp'
                simp only [List.mem_append, List.mem_cons] at hp'
                rcases hp' with z | z | z
                · exact hno p' (by simp [z])
                · subst z; exact fun e => hjs e.symm
                · exact hno p' (by simp [z])
            obtain ⟨u', q1, q2⟩ := F j u hj'
            refine ⟨u', by simp only [Act.put]; rw [Array.getElem?_setIfInBounds_ne (Ne.symm hjs)]; exact q1, ?_⟩
            cases q2 with
            | val _ _ q2 => exact .val _ _ (q2.mono fun b pl z => by rw [Rho.upd_ne _ _ (by simp)]; exact z)
            | loc s2 off x pl z =>
              have : s2 ≠ p.s := fun e => by subst e; rw [hpn] at z; cases z
              exact .loc s2 off x pl (by rw [Rho.upd_ne _ _ (by simpa using this)]; exact z)
        · obtain ⟨q1, q2, q3⟩ := hp p' (hsub.subset hp')
          exact ⟨by rw [Rho.upd_ne _ _ (by simpa using (hdis p' hp').2)]; exact q1, q2, q3⟩
    · -- one of the list
      obtain ⟨qi, oi⟩ := q
      simp only at hqi; subst hqi
      obtain ⟨r1, r2, r3, r4⟩ := L.remOK (qi, oi) hqm
      simp only at r1 r2 r3 r4
      have hoi := r1
      obtain ⟨pre, post, hsplit⟩ := List.append_of_mem hqm
      have hpair := L.pair
      rw [hsplit, List.pairwise_append] at hpair
      have hord := L.ord
      rw [hsplit, List.map_append, List.map_cons, List.filter_append, List.filter_cons] at hord
      have hwq := L.wr (qi, oi) hqm
      simp only at hwq hord
      have hpreN : W qi = true → ∀ p ∈ pre, clsN P p.2.op = true := fun hw p hp' => by
        rw [List.filter_cons, if_pos hw, if_pos hw] at hord
        have hpw := L.wr p (by rw [hsplit]; simp [hp'])
        cases hn : clsN P p.2.op with
        | true => rfl
        | false =>
          exfalso
          rw [hn] at hpw
          cases hf : (pre.map (·.1)).filter W with
          | nil =>
            have : p.1 ∈ (pre.map (·.1)).filter W := List.mem_filter.2 ⟨List.mem_map.2 ⟨p, hp', rfl⟩, hpw⟩
            rw [hf] at this; simp at this
          | cons y ys =>
            rw [hf, List.cons_append, List.cons.injEq] at hord
            have : y ∈ (pre.map (·.1)).filter W := by rw [hf]; simp
            obtain ⟨p2, q1, q2⟩ := List.mem_map.1 (List.mem_filter.1 this).1
            have := (hpair.2.2 p2 q1 (qi, oi) (by simp)).1
            exact this (by rw [q2]; exact hord.1)
      have hpre : ∀ p ∈ pre, moves P ops p (qi, oi) ∧ B qi p.1 = false := fun p hp' => by
        have ha := hpair.2.2 p hp' (qi, oi) (by simp)
        have hB := hnl p.1 (.inr ⟨p, by rw [hsplit]; simp [hp'], rfl⟩) ha.1
        refine ⟨?_, hB⟩
        rcases ha.2 hB with ⟨z1, z2⟩ | z | ⟨r, z1, z2, z3⟩
        · simp only at z2
          have := hpreN (by rw [hwq, z2]; rfl) p hp'
          rw [z1] at this; cases this
        · exact z
        · exfalso
          have hpL : p.1 ∈ (qi :: l).filter W := List.mem_filter.2 ⟨(L.left p.1).2 (.inr ⟨p, by rw [hsplit]; simp [hp'], rfl⟩), L.wW _ (z3.subset (by simp))⟩
          obtain ⟨A, hA⟩ := L.suf
          have hr := suf_in (by rw [hA]; exact L.wnd) hpL (by rw [hA]; exact z3)
          rcases List.mem_cons.1 (List.mem_filter.1 hr).1 with e | e
          · exact z1 e
          · have := (List.pairwise_cons.1 L.cons).1 r e
            simp only at z2
            rw [z2] at this; cases this
      have hord' : ((pre ++ post).map (·.1)).filter W = l.filter W := by
        rw [List.map_append, List.filter_append]
        by_cases hw : W qi = true
        · have hnil : (pre.map (·.1)).filter W = [] := List.eq_nil_iff_forall_not_mem.2 fun y hy => by
            obtain ⟨p2, q1, q2⟩ := List.mem_map.1 (List.mem_filter.1 hy).1
            have h1 := L.wr p2 (by rw [hsplit]; simp [q1])
            rw [hpreN hw p2 q1, q2, (List.mem_filter.1 hy).2] at h1
            cases h1
          rw [List.filter_cons, if_pos hw, if_pos hw, hnil, List.nil_append, List.cons.injEq] at hord
          rw [hnil, List.nil_append]; exact hord.2
        · rw [List.filter_cons, if_neg hw, if_neg hw] at hord; exact hord
      rw [hsplit] at h
      replace h := vcH_front r2 pre hl σ hpre h
      have hsub : (pre ++ post).Sublist rem := by rw [hsplit]; exact List.Sublist.append (List.Sublist.refl _) (List.sublist_cons_self _ _)
      have hne : ∀ q' ∈ pre ++ post, q'.1 ≠ qi := by
        intro q' hq'
        rcases List.mem_append.1 hq' with z | z
        · exact (hpair.2.2 q' z (qi, oi) (by simp)).1
        · exact fun e => ((List.pairwise_cons.1 hpair.2.1).1 q' z).1 e.symm
      have L' : Left P loc ops B W Wl n l pd (pre ++ post) := L.next (List.Sublist.refl _) hsub
        (fun j hj hjl => by
          rcases hjl with q | ⟨q', q1, q2⟩
          · exact .inl q
          · rw [hsplit] at q1
            simp only [List.mem_append, List.mem_cons] at q1
            rcases q1 with z | z | z
            · exact .inr ⟨q', by simp [z], q2⟩
            · subst z; exact absurd q2.symm hj
            · exact .inr ⟨q', by simp [z], q2⟩)
        (fun hj => by
          rcases hj with ⟨p, q1, q2⟩ | ⟨q', q1, q2⟩
          · exact L.apartI p q1 (qi, oi) hqm q2
          · exact hne q' q1 q2)
        hord'
      -- what is pending is not looked at
      have hpl : ∀ p ∈ pd, p.s ∉ oi.looksAt ops ∧ oi.dst ≠ some p.s := fun p hpm => r4 p hpm (hnl p.i (.inl ⟨p, hpm, rfl⟩) (L.apartI p hpm (qi, oi) hqm))
      have hopnd : ∀ M, ∀ x ∈ oi.op.operands, opnd ⟨hideP pd σ.t, M⟩ x = opnd ⟨σ.t, M⟩ x := fun M x hx => by
        cases x with
        | tmp t =>
          have : ∀ p ∈ pd, p.s ≠ t := fun p hpm e => (hpl p hpm).1 (by
            subst e
            exact List.mem_append_left _ (List.mem_filterMap.2 ⟨.tmp p.s, by simpa using hx, rfl⟩))
          simp only [opnd, Fr.get]
          exact hideP_out this
        | _ => rfl
      have hwant : wantedA ops (hideP pd σ.t) oi = wantedA ops σ.t oi := by
        unfold wantedA
        cases hg : oi.guard with
        | none => rfl
        | some gw =>
          obtain ⟨g, want⟩ := gw
          simp only
          cases ht : (ops[g]?).bind (·.dst) with
          | none => rfl
          | some t =>
            have : ∀ p ∈ pd, p.s ≠ t := fun p hpm e => (hpl p hpm).1 (by subst e; simp [Oper.looksAt, hg, ht])
            simp only [Fr.get]
            rw [hideP_out this]
      have hdp : ∀ i, oi.dst = some i → ∀ p ∈ pd, p.s ≠ i := fun i hdi p hpm e => (hpl p hpm).2 (by rw [hdi, e])
      obtain ⟨T, M⟩ := σ
      simp only at I F hp h hopnd hwant
      have skip : ∀ (hl' : HL), wantedA ops T oi = some false → vcH P loc ops B Q hl' (pre ++ post) (St.putD ⟨T, M⟩ oi.dst undef) → wpOp P ops Z qi (wpOps P ops Z l) a w := by
        intro hl' hw h'
        simp only [wpOp, hoi]
        rw [if_neg (by rw [wantedA_ok (σ := ⟨hideP pd T, M⟩) F (hwant.trans hw)]; simp)]
        exact ih pd (pre ++ post) hl' _ _ _ L' h' (conD_put I F hs hdf r3 hdp (.of_flat2 rfl) hp)
      have act : ∀ (hl' : HL) (v : Value) (M' : Mem), wantedA ops T oi = some true → stepOp P loc ⟨T, M⟩ oi = some (v, ⟨T, M'⟩) → vcH P loc ops B Q hl' (pre ++ post) (St.putD ⟨T, M'⟩ oi.dst v) →
          wpOp P ops Z qi (wpOps P ops Z l) a w := by
        intro hl' v M' hw hst h'
        have hst' : stepOp P loc ⟨hideP pd T, M⟩ oi = some (v, ⟨hideP pd T, M'⟩) := by
          rw [stepW_congr (T := T) r2 (hopnd M), hst]; rfl
        simp only [wpOp, hoi]
        rw [if_pos (wantedA_ok (σ := ⟨hideP pd T, M⟩) F (hwant.trans hw))]
        refine .inl ?_
        obtain ⟨nx, v', w', ρ', c1, c2, c3, c4, c5, c6⟩ := stepOp_ok hst' ρ0 h0 w0 ρ a w I F
        unfold Oper.wp
        rw [c1]
        have hp' : ∀ p ∈ pd, ρ' (true, p.s) = none ∧ M'.x p.s = some (p.e, p.z) ∧ T p.s = some (.pointer (some ⟨p.s, 0, some 0⟩)) := fun p hpm => by
          obtain ⟨q1, q2, q3⟩ := hp p hpm
          obtain ⟨z1, z2⟩ := c6 p.s (fun d hd => fun e => hdp d hd p hpm e.symm)
          exact ⟨by rw [z1]; exact q1, by rw [z2 q1]; exact q2, q3⟩
        cases nx <;> simp only [outV, Option.some.injEq] at c2 <;> first
          | (subst c2; exact ih pd (pre ++ post) hl' _ _ _ L' h' (conD_put c3 c4 hs hdf r3 hdp c5 hp'))
          | (exact absurd c2 (by simp))
      have tsame : ∀ {v : Value} {σ' : St}, stepOp P loc ⟨T, M⟩ oi = some (v, σ') → σ'.t = T := fun {v σ'} hst => by
        have := stepW_congr (P := P) (loc := loc) (T := T) (T' := T) (m := M) r2 (fun x hx => rfl)
        rw [hst] at this
        simp only [Option.map_some, Option.some.injEq, Prod.mk.injEq, true_and] at this
        rw [this]
      by_cases hn : clsN P oi.op = true
      · obtain ⟨v, hl', h1, h2⟩ := (vcH_N hn).1 h
        unfold effN at h1
        simp only at h1
        split at h1
        · simp at h1
        · rename_i hw
          simp only [Option.some.injEq, Prod.mk.injEq] at h1
          obtain ⟨rfl, rfl⟩ := h1
          exact skip _ hw h2
        · rename_i hw
          split at h1
          rotate_left
          · simp at h1
          rename_i u hu
          simp only [Option.some.injEq, Prod.mk.injEq] at h1
          obtain ⟨rfl, rfl⟩ := h1
          unfold valN at hu
          cases hst : stepOp P loc ⟨T, M⟩ oi with
          | none => rw [hst] at hu; simp at hu
          | some pr =>
            obtain ⟨u2, σ2⟩ := pr
            rw [hst] at hu
            simp only [Option.map_some, Option.some.injEq] at hu
            subst hu
            have e := stepN_same hn hst
            subst e
            exact act _ _ M hw hst h2
      · rw [vcH, if_neg hn] at h
        simp only at h
        split at h
        · exact h.elim
        · rename_i hw; exact skip _ hw h
        · rename_i hw
          split at h
          · rename_i f args hc
            have hc' : callOf ⟨hideP pd T, M⟩ oi = some (f, args) := by rw [callOf_congr (hopnd M)]; exact hc
            simp only [wpOp, hoi]
            rw [if_pos (wantedA_ok (σ := ⟨hideP pd T, M⟩) F (hwant.trans hw))]
            refine .inl (wp_call_core (σ := ⟨hideP pd T, M⟩) hc' h I F fun v h' ρ' v' w' hpost hnice J j1 j2 hv => ?_)
            obtain ⟨_, h2⟩ := hpost hnice
            exact ih pd (pre ++ post) hl _ _ _ L' h2 (conD_put J (F.mono j1 j2) hs hdf r3 hdp (.val _ _ hv) fun p hpm => by
              obtain ⟨q1, q2, q3⟩ := hp p hpm
              exact ⟨by rw [j2]; exact q1, q2, q3⟩)
          · split at h
            rotate_left
            · exact h.elim
            rename_i v σ' hst
            obtain ⟨T', M'⟩ := σ'
            have ht := tsame hst
            simp only at ht
            subst ht
            exact act _ v M' hw hst h.2
end
end Go.Am
/- The abstract machine, part M: code. -/
namespace Go.Am
open Go

section
variable {P : Program} {ρ0 ρ ρ' : Rho} {h0 : Heap} {w0 w : World} {m : Mem}

/-! ### what is said of a function's code beside it -/
/-- of a region that draws: its boxes, the order in which it is told, who stands behind whom, further orders: one for each order of those that change memory -/
structure DrawInfo where
  bx : List Nat
  perm : List Nat
  M : List (List Nat)
  alts : List (List Nat)
def DrawInfo.perms (d : DrawInfo) : List (List Nat) := d.perm :: d.alts
structure Cfg where
  loc : List Nat
  keep : Nat → List Nat
  draw : Nat → DrawInfo

def DrawInfo.B (d : DrawInfo) (i j : Nat) : Bool := (d.M.getD i []).contains j
def mkPend (P : Program) (ops : Array Oper) (i : Nat) : Pend :=
  match ops[i]? with
  | some ⟨some s, .alloc e, _, _, _, _⟩ => ⟨i, s, e, (zeroT P e).getD []⟩
  | _ => ⟨i, 0, 0, []⟩
def pendL (P : Program) (ops : Array Oper) (d : DrawInfo) : List Pend := d.bx.map (mkPend P ops)
def remP (ops : Array Oper) (pm : List Nat) : List (Nat × Oper) := pm.map fun i => (i, ops.getD i default)

def movesB (P : Program) (ops : Array Oper) (p q : Nat × Oper) : Bool := clsN P p.2.op &&
    (match p.2.dst with | some d => !(q.2.looksAt ops).contains d && q.2.dst != some d | none => true) &&
    (match q.2.dst with | some d => !(p.2.looksAt ops).contains d | none => true)
def aheadB (P : Program) (ops : Array Oper) (B : Nat → Nat → Bool) (Wl : List Nat) (p q : Nat × Oper) : Bool :=
  p.1 != q.1 && (B q.1 p.1 || (!clsN P p.2.op && !clsN P q.2.op) || movesB P ops p q || Wl.any fun r => r != q.1 && B q.1 r && [p.1, r].isSublist Wl)
theorem aheadB_ok {ops : Array Oper} {B : Nat → Nat → Bool} {Wl : List Nat} {p q : Nat × Oper} (h : aheadB P ops B Wl p q = true) : aheadOK P ops B Wl p q := by
  unfold aheadB at h
  rw [Bool.and_eq_true, bne_iff_ne] at h
  refine ⟨h.1, fun hB => ?_⟩
  have h2 := h.2
  rw [hB, Bool.false_or, Bool.or_eq_true, Bool.or_eq_true] at h2
  rcases h2 with (h2 | h2) | h2
  · rw [Bool.and_eq_true, Bool.not_eq_true', Bool.not_eq_true'] at h2
    exact .inl h2
  rotate_left
  · obtain ⟨r, _, hr⟩ := List.any_eq_true.1 h2
    rw [Bool.and_eq_true, Bool.and_eq_true, bne_iff_ne] at hr
    exact .inr (.inr ⟨r, hr.1.1, hr.1.2, List.isSublist_iff_sublist.1 hr.2⟩)
  refine .inr (.inl ?_)
  unfold movesB at h2
  rw [Bool.and_eq_true, Bool.and_eq_true] at h2
  obtain ⟨⟨a1, a2⟩, a3⟩ := h2
  refine ⟨a1, fun d hd => ?_, fun d hd => ?_, fun d hd => ?_⟩
  · rw [hd] at a2; simp only [Bool.and_eq_true, Bool.not_eq_true'] at a2
    intro hm; have := a2.1; rw [List.contains_eq_mem, decide_eq_false_iff_not] at this; exact this hm
  · rw [hd] at a2; simp only [Bool.and_eq_true, bne_iff_ne] at a2; exact a2.2
  · rw [hd] at a3; simp only [Bool.not_eq_true'] at a3
    intro hm; rw [List.contains_eq_mem, decide_eq_false_iff_not] at a3; exact a3 hm
def pairB {α : Type} (f : α → α → Bool) : List α → Bool
  | [] => true
  | x :: r => r.all (f x) && pairB f r
theorem pairB_ok {α : Type} {f : α → α → Bool} {R : α → α → Prop} (hf : ∀ x y, f x y = true → R x y) : ∀ l : List α, pairB f l = true → l.Pairwise R := by
  intro l
  induction l with
  | nil => intro _; exact .nil
  | cons x r ih =>
    intro h
    rw [pairB, Bool.and_eq_true] at h
    exact .cons (fun y hy => hf x y (List.all_eq_true.1 h.1 y hy)) (ih h.2)

def pendB (P : Program) (loc : List Nat) (ops : Array Oper) (n : Nat) (p : Pend) : Bool :=
  match ops[p.i]? with
  | some o => (match o.op with | .alloc e => e == p.e | _ => false) && o.dst == some p.s && o.guard.isNone && loc.contains p.s && decide (p.s < n) && (zeroT P p.e).isSome
  | none => false
/-- those that change memory and are no boxes -/
def wB (P : Program) (ops : Array Oper) (d : DrawInfo) (i : Nat) : Bool := !d.bx.contains i && !clsN P (ops.getD i default).op
/-- all orders of X that are let in -/
def exts (B : Nat → Nat → Bool) : Nat → List Nat → List (List Nat)
  | 0, _ => [[]]
  | n + 1, X => if X.isEmpty then [[]] else X.flatMap fun x => if (X.erase x).all (fun y => !B x y) then (exts B n (X.erase x)).map (x :: ·) else []
def edgesB (ops : Array Oper) (d : DrawInfo) : Bool :=
  (List.range ops.size).all (fun i => match ops[i]? with
    | some o => (d.M.getD i []).all (fun j => decide (j < ops.size) && o.after.toList.any fun e => Region.binds .any e && decide (e.on < ops.size) && (e.on == j || d.B e.on j)) &&
        o.after.toList.all (fun e => !Region.binds .any e || decide (e.on < i))
    | none => false)
def drawOK1 (P : Program) (loc : List Nat) (n : Nat) (ops : Array Oper) (d : DrawInfo) (pm : List Nat) : Bool :=
  let pd := pendL P ops d
  let rem := remP ops pm
  let N := ops.size
  (List.range N).all (fun i => d.bx.contains i || pm.contains i) && d.bx.all (fun i => decide (i < N)) && pm.all (fun i => decide (i < N)) &&
  pairB (aheadB P ops d.B (pm.filter (wB P ops d))) rem &&
  rem.all (fun q => notLoc loc q.2 && (match q.2.dst with | some i => decide (i < n) | none => true) &&
    pd.all (fun p => d.B q.1 p.i || (!(q.2.looksAt ops).contains p.s && q.2.dst != some p.s))) &&
  pd.all (pendB P loc ops n) && pairB (fun p q => p.i != q.i && p.s != q.s) pd && pd.all (fun p => rem.all fun q => p.i != q.1)
def drawOK (P : Program) (loc : List Nat) (n : Nat) (ops : Array Oper) (d : DrawInfo) : Bool :=
  edgesB ops d && d.perms.all (drawOK1 P loc n ops d) &&
  (exts d.B ops.size ((List.range ops.size).filter (wB P ops d))).all (fun e => d.perms.any fun pm => pm.filter (wB P ops d) == e)

/-! ### the orders that are drawn -/
theorem ready_spec {ops : Array Oper} {listed : Array Bool} {i : Nat} : i ∈ Region.ready .any ops listed ↔
    i < ops.size ∧ listed.getD i true = false ∧ ∃ o, ops[i]? = some o ∧ ∀ e ∈ o.after, Region.binds .any e = true → listed.getD e.on false = true := by
  unfold Region.ready
  rw [List.mem_filter, List.mem_range]
  constructor
  · rintro ⟨h1, h2⟩
    rw [Bool.and_eq_true] at h2
    obtain ⟨h2, h3⟩ := h2
    refine ⟨h1, by simpa using h2, ops[i], by simp [h1], ?_⟩
    simp only [Array.getElem?_eq_getElem h1, Option.map_some, Option.getD_some] at h3
    rw [Array.all_eq_true_iff_forall_mem] at h3
    intro e he hb
    have := h3 e he
    rw [hb] at this
    simpa using this
  · rintro ⟨h1, h2, o, h3, h4⟩
    refine ⟨h1, ?_⟩
    rw [Bool.and_eq_true]
    refine ⟨by rw [h2]; rfl, ?_⟩
    rw [h3]
    simp only [Option.map_some, Option.getD_some]
    rw [Array.all_eq_true_iff_forall_mem]
    intro e he
    cases hb : Region.binds .any e with
    | false => rfl
    | true => rw [h4 e he hb]; rfl
theorem getD_set (l : Array Bool) (i j : Nat) (h : i < l.size) : (l.setIfInBounds i true).getD j true = if i = j then true else l.getD j true := by
  simp only [Array.getD_eq_getD_getElem?]
  by_cases hij : i = j
  · subst hij; rw [Array.getElem?_setIfInBounds_self_of_lt h]; simp
  · rw [Array.getElem?_setIfInBounds_ne hij, if_neg hij]

structure EdgesOK (ops : Array Oper) (B : Nat → Nat → Bool) : Prop where
  edge : ∀ i j, B i j = true → i < ops.size → j < ops.size ∧ ∃ o, ops[i]? = some o ∧ ∃ e ∈ o.after, Region.binds .any e = true ∧ e.on < ops.size ∧ (e.on = j ∨ B e.on j = true)
  back : ∀ i o, ops[i]? = some o → ∀ e ∈ o.after, Region.binds .any e = true → e.on < i
theorem edgesB_ok {ops : Array Oper} {d : DrawInfo} (h : edgesB ops d = true) : EdgesOK ops d.B := by
  unfold edgesB at h
  refine ⟨fun i j hB hi => ?_, fun i o ho e he hb => ?_⟩
  · have := List.all_eq_true.1 h i (List.mem_range.2 hi)
    rw [Array.getElem?_eq_getElem hi] at this
    simp only [Bool.and_eq_true] at this
    have hj := List.all_eq_true.1 this.1 j (by simpa [DrawInfo.B] using hB)
    rw [Bool.and_eq_true] at hj
    obtain ⟨e, he, hb⟩ := List.any_eq_true.1 hj.2
    simp only [Bool.and_eq_true, Bool.or_eq_true, beq_iff_eq, decide_eq_true_eq] at hb
    exact ⟨of_decide_eq_true hj.1, ops[i], by simp [hi], e, by simpa using he, hb.1.1, hb.1.2, hb.2⟩
  · have hi : i < ops.size := by rcases Nat.lt_or_ge i ops.size with z | z; exact z; rw [Array.getElem?_eq_none z] at ho; cases ho
    have := List.all_eq_true.1 h i (List.mem_range.2 hi)
    rw [ho] at this
    simp only [Bool.and_eq_true] at this
    have h2 := List.all_eq_true.1 this.2 e (by simpa using he)
    rw [hb] at h2
    simpa using h2
theorem ready_some {ops : Array Oper} {B : Nat → Nat → Bool} {listed : Array Bool} (E : EdgesOK ops B) (hs : listed.size = ops.size) : ∀ k i, i ≤ k → i < ops.size → listed.getD i true = false → ∃ i, i ∈ Region.ready .any ops listed := by
  intro k
  induction k with
  | zero =>
    intro i hik hi hl
    have : i = 0 := by omega
    subst this
    refine ⟨0, ready_spec.2 ⟨hi, hl, ops[0], by simp [hi], fun e he hb => ?_⟩⟩
    exact absurd (E.back 0 _ (Array.getElem?_eq_getElem hi) e he hb) (Nat.not_lt_zero _)
  | succ k ihk =>
    intro i hik hi hl
    by_cases hall : ∀ e ∈ ops[i].after, Region.binds .any e = true → listed.getD e.on false = true
    · exact ⟨i, ready_spec.2 ⟨hi, hl, ops[i], by simp [hi], hall⟩⟩
    · have : ∃ e, e ∈ ops[i].after ∧ Region.binds .any e = true ∧ listed.getD e.on false ≠ true := by
        apply Classical.byContradiction
        intro hno
        exact hall fun e he hb => Classical.byContradiction fun hne => hno ⟨e, he, hb, hne⟩
      obtain ⟨e, he, hb, hne⟩ := this
      have hlt := E.back i _ (Array.getElem?_eq_getElem hi) e he hb
      have hes : e.on < listed.size := by rw [hs]; omega
      refine ihk e.on (by omega) (by omega) ?_
      simp only [Array.getD_eq_getD_getElem?, Array.getElem?_eq_getElem hes, Option.getD_some] at hne ⊢
      simpa using hne
theorem count_lt {α : Type} {p q : α → Bool} {x : α} (hpq : ∀ y, p y = true → q y = true) (hq : q x = true) (hp : p x = false) : ∀ l : List α, x ∈ l → l.countP p < l.countP q := by
  intro l
  have hle : ∀ l : List α, l.countP p ≤ l.countP q := by
    intro l
    induction l with
    | nil => simp
    | cons y r ih =>
      rw [List.countP_cons, List.countP_cons]
      cases h : p y with
      | true => rw [hpq y h]; simp; exact ih
      | false => simp; cases q y <;> simp <;> omega
  induction l with
  | nil => intro h; simp at h
  | cons y r ih =>
    intro h
    rw [List.countP_cons, List.countP_cons]
    by_cases e : x = y
    · subst e
      rw [hq, hp]; simp; have := hle r; omega
    · have := ih (by rcases List.mem_cons.1 h with z | z; exact absurd z e; exact z)
      cases h : p y with
      | true => rw [hpq y h]; simp; exact this
      | false => simp; cases q y <;> simp <;> omega
def unl (ops : Array Oper) (listed : Array Bool) : Nat := (List.range ops.size).countP fun i => !listed.getD i true
theorem lin_ok {ops : Array Oper} {B : Nat → Nat → Bool} (E : EdgesOK ops B) : ∀ (fuel t : Nat) (listed : Array Bool), listed.size = ops.size → unl ops listed ≤ fuel →
    (∀ i j, listed.getD i true = true → B i j = true → j < ops.size → i < ops.size → listed.getD j true = true) →
    (∀ i, i ∈ Region.linearise.go .any ops fuel t listed [] ↔ i < ops.size ∧ listed.getD i true = false) ∧ (Region.linearise.go .any ops fuel t listed []).Nodup ∧ (Region.linearise.go .any ops fuel t listed []).Pairwise (fun x y => B x y = false) := by
  intro fuel
  induction fuel with
  | zero =>
    intro t listed hs hu hc
    have hno : ∀ i, i < ops.size → listed.getD i true = true := fun i hi => by
      unfold unl at hu
      have := List.countP_eq_zero.1 (Nat.le_zero.1 hu) i (List.mem_range.2 hi)
      simpa using this
    refine ⟨fun i => ⟨fun h => by simp [Region.linearise.go] at h, fun h => ?_⟩, by simp [Region.linearise.go], by simp [Region.linearise.go]⟩
    rw [hno i h.1] at h; cases h.2
  | succ fuel ih =>
    intro t listed hs hu hc
    have hgo : Region.linearise.go .any ops (fuel + 1) t listed [] = match (Region.ready .any ops listed)[t % (Region.ready .any ops listed).length]? with
      | some i => Region.linearise.go .any ops fuel (t / (Region.ready .any ops listed).length) (listed.setIfInBounds i true) [i]
      | none => [] := by rfl
    rw [hgo]
    cases hi : (Region.ready .any ops listed)[t % (Region.ready .any ops listed).length]? with
    | none =>
      have hnil : Region.ready .any ops listed = [] := by
        cases hr : Region.ready .any ops listed with
        | nil => rfl
        | cons x xs =>
          rw [hr] at hi
          have hlt : t % (x :: xs).length < (x :: xs).length := Nat.mod_lt _ (by simp)
          simp at hi
          simp at hlt
          omega
      refine ⟨fun i => ⟨fun h => by simp at h, fun h => ?_⟩, by simp, by simp⟩
      obtain ⟨j, hj⟩ := ready_some E hs i i (Nat.le_refl _) h.1 h.2
      rw [hnil] at hj; simp at hj
    | some i =>
      simp only []
      rw [linearise_go_acc, List.reverse_singleton, List.singleton_append]
      obtain ⟨q1, q2, o, q3, q4⟩ := ready_spec.1 (List.mem_of_getElem? hi)
      have hil : i < listed.size := by rw [hs]; exact q1
      have hBi : ∀ j, B i j = true → listed.getD j true = true := fun j hB => by
        obtain ⟨hj, o', ho', e, he, hb, hon, hor⟩ := E.edge i j hB q1
        rw [q3] at ho'
        obtain rfl := Option.some.inj ho'
        have h1 := q4 e he hb
        have hlt : e.on < listed.size := by rw [hs]; exact hon
        have h1' : listed.getD e.on true = true := by
          simp only [Array.getD_eq_getD_getElem?, Array.getElem?_eq_getElem hlt, Option.getD_some] at h1 ⊢
          exact h1
        rcases hor with q | q
        · rw [← q]; exact h1'
        · exact hc e.on j h1' q hj hon
      obtain ⟨r1, r2, r3⟩ := ih (t / (Region.ready .any ops listed).length) (listed.setIfInBounds i true) (by simpa using hs) (by
          have : unl ops (listed.setIfInBounds i true) < unl ops listed := by
            unfold unl
            refine count_lt (x := i) (fun y hy => ?_) (by rw [q2]; rfl) (by rw [getD_set _ _ _ hil]; simp) _ (List.mem_range.2 q1)
            rw [getD_set _ _ _ hil] at hy
            split at hy
            · simp at hy
            · exact hy
          omega) (fun j k hj hB hk hj' => by
          rw [getD_set _ _ _ hil] at hj ⊢
          by_cases hik : i = k
          · rw [if_pos hik]
          · rw [if_neg hik]
            by_cases hij : i = j
            · subst hij; exact hBi k hB
            · rw [if_neg hij] at hj; exact hc j k hj hB hk hj')
      have hmem : ∀ j, j ∈ Region.linearise.go .any ops fuel (t / (Region.ready .any ops listed).length) (listed.setIfInBounds i true) [] → j ≠ i ∧ listed.getD j true = false := fun j hj => by
        have := ((r1 j).1 hj).2
        rw [getD_set _ _ _ hil] at this
        by_cases hij : i = j
        · rw [if_pos hij] at this; cases this
        · rw [if_neg hij] at this; exact ⟨Ne.symm hij, this⟩
      refine ⟨fun j => ?_, List.nodup_cons.2 ⟨fun h => (hmem i h).1 rfl, r2⟩, List.pairwise_cons.2 ⟨fun j hj => ?_, r3⟩⟩
      · rw [List.mem_cons, r1 j, getD_set _ _ _ hil]
        by_cases hij : i = j
        · subst hij; rw [if_pos rfl]; exact ⟨fun _ => ⟨q1, q2⟩, fun _ => .inl rfl⟩
        · rw [if_neg hij]
          exact ⟨fun h => by rcases h with h | h; exact absurd h.symm hij; exact h, fun h => .inr h⟩
      · cases hB : B i j with
        | false => rfl
        | true => have := hBi j hB; rw [(hmem j hj).2] at this; cases this
theorem exts_ok {B : Nat → Nat → Bool} : ∀ (l : List Nat) (n : Nat) (X : List Nat), l.Perm X → X.length ≤ n → l.Pairwise (fun x y => B x y = false) → l ∈ exts B n X := by
  intro l
  induction l with
  | nil =>
    intro n X hp hn _
    have : X = [] := hp.symm.eq_nil
    subst this
    cases n <;> simp [exts]
  | cons x r ih =>
    intro n X hp hn hw
    obtain ⟨h1, h2⟩ := List.cons_perm_iff_perm_erase.1 hp
    have hX : X.isEmpty = false := by cases X with | nil => simp at h1 | cons _ _ => rfl
    have hlen := hp.length_eq
    cases n with
    | zero => simp at hlen; omega
    | succ n =>
      rw [exts, hX]
      simp only [Bool.false_eq_true, if_false]
      obtain ⟨w1, w2⟩ := List.pairwise_cons.1 hw
      refine List.mem_flatMap.2 ⟨x, h1, ?_⟩
      rw [if_pos (List.all_eq_true.2 fun y hy => by rw [w1 y (h2.symm.subset hy)]; rfl)]
      refine List.mem_map.2 ⟨r, ih n _ h2 ?_ w2, rfl⟩
      have := h2.length_eq
      simp at hlen
      omega

theorem mkPend_i (P : Program) (ops : Array Oper) (i : Nat) : (mkPend P ops i).i = i := by unfold mkPend; split <;> rfl
theorem mkPend_z {P : Program} {loc : List Nat} {ops : Array Oper} {n i : Nat} (h : pendB P loc ops n (mkPend P ops i) = true) : PendOK P loc ops (mkPend P ops i) ∧ (mkPend P ops i).s < n := by
  unfold pendB at h
  rw [mkPend_i] at h
  split at h
  rotate_left
  · simp at h
  rename_i o ho
  simp only [Bool.and_eq_true, beq_iff_eq, Option.isNone_iff_eq_none, decide_eq_true_eq] at h
  obtain ⟨⟨⟨⟨⟨h1, h2⟩, h3⟩, h4⟩, h5⟩, h6⟩ := h
  split at h1
  rotate_left
  · simp at h1
  rename_i e he
  rw [beq_iff_eq] at h1
  refine ⟨⟨⟨o, by rw [mkPend_i]; exact ho, by rw [he, h1], h2, h3⟩, ?_⟩, h5⟩
  obtain ⟨dst, op, type, pos, after, guard⟩ := o
  simp only at he h2
  subst he
  cases dst with
  | none => simp at h2
  | some s =>
    have : mkPend P ops i = ⟨i, s, e, (zeroT P e).getD []⟩ := by simp only [mkPend, ho]
    rw [this] at h6 ⊢
    simp only at h6 ⊢
    cases hz : zeroT P e with
    | none => rw [hz] at h6; simp at h6
    | some z => rfl

theorem pendpair_ok {ops : Array Oper} {d : DrawInfo} (h : pairB (fun p q : Pend => p.i != q.i && p.s != q.s) (pendL P ops d) = true) : (pendL P ops d).Pairwise fun p q => p.i ≠ q.i ∧ p.s ≠ q.s :=
  pairB_ok (fun x y hxy => by rw [Bool.and_eq_true, bne_iff_ne, bne_iff_ne] at hxy; exact hxy) _ h
theorem drawOK_left {loc : List Nat} {n : Nat} {ops : Array Oper} {d : DrawInfo} (h : drawOK P loc n ops d = true) (t : Nat) :
    (pendL P ops d).Pairwise (fun p q => p.i ≠ q.i ∧ p.s ≠ q.s) ∧ ∃ pm ∈ d.perms, Left P loc ops d.B (wB P ops d) (pm.filter (wB P ops d)) n (Region.linearise.go .any ops ops.size t (Array.replicate ops.size false) []) (pendL P ops d) (remP ops pm) := by
  unfold drawOK at h
  simp only [Bool.and_eq_true] at h
  obtain ⟨⟨e1, e2⟩, e3⟩ := h
  have hget : ∀ i, i < ops.size → (Array.replicate ops.size false).getD i true = false := fun i hi => by
    simp [Array.getD_eq_getD_getElem?, hi]
  obtain ⟨l1, l2, l3⟩ := lin_ok (edgesB_ok e1) ops.size t (Array.replicate ops.size false) (by simp) (by
    unfold unl; have := List.countP_le_length (p := fun i => !(Array.replicate ops.size false).getD i true) (l := List.range ops.size); simpa using this)
    (fun i j hij _ _ hi => by rw [hget i hi] at hij; cases hij)
  generalize hL : Region.linearise.go .any ops ops.size t (Array.replicate ops.size false) [] = L at l1 l2 l3
  have hperm : (L.filter (wB P ops d)).Perm ((List.range ops.size).filter (wB P ops d)) := by
    refine (List.perm_ext_iff_of_nodup (l2.filter _) (List.nodup_range.filter _)).2 fun i => ?_
    rw [List.mem_filter, List.mem_filter, l1 i, List.mem_range]
    exact ⟨fun z => ⟨z.1.1, z.2⟩, fun z => ⟨⟨z.1, hget i z.1⟩, z.2⟩⟩
  have hin := exts_ok (B := d.B) _ ops.size _ hperm (by have := List.length_filter_le (wB P ops d) (List.range ops.size); simpa using this) (l3.filter _)
  obtain ⟨pm, hpm, heq⟩ := List.any_eq_true.1 (List.all_eq_true.1 e3 _ hin)
  have heq' : pm.filter (wB P ops d) = L.filter (wB P ops d) := eq_of_beq heq
  have ok1 := List.all_eq_true.1 e2 pm hpm
  unfold drawOK1 at ok1
  simp only [Bool.and_eq_true] at ok1
  obtain ⟨⟨⟨⟨⟨⟨⟨c2, c3⟩, c4⟩, c6⟩, c7⟩, c8⟩, c9⟩, c10⟩ := ok1
  refine ⟨pendpair_ok c9, pm, hpm, fun i => ?_, l2, l3, ?_, fun q hq => ?_, fun p hp => ?_, (by rw [heq']; exact List.suffix_rfl), (by rw [heq']; exact l2.filter _), (fun x hx => (List.mem_filter.1 hx).2), pairB_ok (fun x y => aheadB_ok) _ c6, fun q hq => ?_, fun p hp => ?_, pendpair_ok c9, fun p hp q hq => ?_⟩
  · rw [l1 i]
    constructor
    · rintro ⟨hi, _⟩
      have := List.all_eq_true.1 c2 i (List.mem_range.2 hi)
      rw [Bool.or_eq_true] at this
      rcases this with q | q
      · exact .inl ⟨mkPend P ops i, List.mem_map.2 ⟨i, by simpa using q, rfl⟩, mkPend_i P ops i⟩
      · exact .inr ⟨(i, ops.getD i default), List.mem_map.2 ⟨i, by simpa using q, rfl⟩, rfl⟩
    · rintro (⟨p, q1, q2⟩ | ⟨q, q1, q2⟩)
      · obtain ⟨j, hj, rfl⟩ := List.mem_map.1 q1
        rw [mkPend_i] at q2; subst q2
        have := of_decide_eq_true (List.all_eq_true.1 c3 j hj)
        exact ⟨this, hget _ this⟩
      · obtain ⟨j, hj, rfl⟩ := List.mem_map.1 q1
        simp only at q2; subst q2
        have := of_decide_eq_true (List.all_eq_true.1 c4 j hj)
        exact ⟨this, hget _ this⟩
  · rw [← heq', remP, List.map_map]
    congr 1
    exact (List.map_congr_left (fun a _ => rfl)).trans (List.map_id _)
  · obtain ⟨i, hi, rfl⟩ := List.mem_map.1 hq
    simp only [wB]
    have : d.bx.contains i = false := by
      cases hb : d.bx.contains i with
      | false => rfl
      | true =>
        have h1 : mkPend P ops i ∈ pendL P ops d := List.mem_map.2 ⟨i, by simpa using hb, rfl⟩
        have := List.all_eq_true.1 (List.all_eq_true.1 c10 _ h1) (i, ops.getD i default) hq
        rw [mkPend_i] at this
        simp at this
    rw [this]; rfl
  · obtain ⟨i, hi, rfl⟩ := List.mem_map.1 hp
    rw [mkPend_i]
    have : d.bx.contains i = true := by simpa using hi
    simp only [wB, this, Bool.not_true, Bool.false_and]
  · have h1 := List.all_eq_true.1 c7 q hq
    simp only [Bool.and_eq_true] at h1
    obtain ⟨⟨h1, h2⟩, h3⟩ := h1
    obtain ⟨i, hi, rfl⟩ := List.mem_map.1 hq
    have hlt := of_decide_eq_true (List.all_eq_true.1 c4 i hi)
    refine ⟨by simp [Array.getD_eq_getD_getElem?, hlt], h1, fun k hk => ?_, fun p hp hB => ?_⟩
    · simp only at hk h2; rw [hk] at h2; exact of_decide_eq_true h2
    · have := List.all_eq_true.1 h3 p hp
      simp only at this hB
      rw [hB, Bool.false_or, Bool.and_eq_true, bne_iff_ne] at this
      refine ⟨fun hm => ?_, this.2⟩
      have := this.1
      rw [Bool.not_eq_true', List.contains_eq_mem, decide_eq_false_iff_not] at this
      exact this hm
  · have h1 := List.all_eq_true.1 c8 p hp
    obtain ⟨i, hi, rfl⟩ := List.mem_map.1 hp
    exact mkPend_z h1
  · have := List.all_eq_true.1 (List.all_eq_true.1 c10 p hp) q hq
    simpa using this

/-! ### the state in which a drawn region is told: its boxes are made -/
def enterT (pd : List Pend) (T : Fr) : Fr := fun j =>
  match pd.find? (fun p => p.s == j) with
  | some p => some (.pointer (some ⟨p.s, 0, some 0⟩))
  | none => match T j with
    | some v => match locOf v with
      | some s => if pd.any (fun p => p.s == s) then none else some v
      | none => some v
    | none => none
def enterX (pd : List Pend) (x : Boxes) : Boxes := fun j =>
  match pd.find? (fun p => p.s == j) with
  | some p => some (p.e, p.z)
  | none => x j
def enterD (pd : List Pend) (σ : St) : St := match pd with
  | [] => σ
  | p :: r => ⟨enterT (p :: r) σ.t, ⟨enterX (p :: r) σ.m.x, σ.m.h⟩⟩

theorem find_none {pd : List Pend} {j : Nat} (h : ∀ p ∈ pd, p.s ≠ j) : pd.find? (fun p => p.s == j) = none := by
  rw [List.find?_eq_none]; intro p hp; simpa using h p hp
theorem find_some {pd : List Pend} (hpw : pd.Pairwise fun p q => p.i ≠ q.i ∧ p.s ≠ q.s) {p : Pend} (hp : p ∈ pd) : pd.find? (fun q => q.s == p.s) = some p := by
  induction pd with
  | nil => simp at hp
  | cons q r ih =>
    rw [List.find?_cons]
    rcases List.mem_cons.1 hp with e | e
    · subst e; simp
    · have hne := ((List.pairwise_cons.1 hpw).1 p e).2
      have : (q.s == p.s) = false := by simpa using hne
      rw [this]
      exact ih (List.pairwise_cons.1 hpw).2 e

/-- boxes may be forgotten, or change where nothing stands for them -/
theorem Inv.forget (I : Inv P ρ0 h0 w0 ρ m w) {ρ1 : Rho} {x1 : Boxes} (hf : ∀ b, ρ1 (false, b) = ρ (false, b)) (hb : ∀ s pl, ρ1 (true, s) = some pl → ρ (true, s) = some pl ∧ (x1 s = m.x s ∨ x1 s = none)) :
    Inv P ρ0 h0 w0 ρ1 ⟨x1, m.h⟩ w := by
  have hback : ∀ {k pl}, ρ1 k = some pl → ρ k = some pl := fun {k pl} h => by
    obtain ⟨t, b⟩ := k
    cases t
    · rw [← hf]; exact h
    · exact (hb b pl h).1
  have hmono : ∀ {v u}, VR ρ v u → VR ρ1 v u := fun {v u} h => h.mono fun b pl q => by rw [hf]; exact q
  have hrow : ∀ {k pl r}, ρ1 k = some pl → (Mem.mk x1 m.h).row? k = some r → m.row? k = some r := fun {k pl r} h q => by
    obtain ⟨t, b⟩ := k
    cases t
    · exact q
    · simp only [Mem.row?, Boxes.look] at q ⊢
      rcases (hb b pl h).2 with z | z
      · rw [z] at q; exact q
      · rw [z] at q; simp at q
  have hlive : ∀ {k pl}, ρ1 k = some pl → (Mem.mk x1 m.h).live k → m.live k := fun {k pl} h q => by
    obtain ⟨t, b⟩ := k
    cases t
    · exact q
    · simp only [Mem.live, Boxes.look] at q ⊢
      rcases (hb b pl h).2 with z | z
      · rw [z] at q; exact q
      · rw [z] at q; simp at q
  have hwr : ∀ {k pl}, ρ1 k = some pl → (Mem.mk x1 m.h).wr k → m.wr k := fun {k pl} h q => by
    obtain ⟨t, b⟩ := k
    cases t
    · exact q
    · simp only [Mem.wr, Boxes.look] at q ⊢
      rcases (hb b pl h).2 with z | z
      · rw [z] at q; exact q
      · rw [z] at q; simp at q
  refine ⟨⟨fun k pl h => I.rel.bound k pl (hback h), fun b pl h => I.rel.dom b pl (hback h), fun k pl wr e cs h hr => ?_, fun b pl o h ho => I.rel.obj b pl o (hback h) ho,
    fun k k' pl pl' hne h h' hw hl => I.rel.sep k k' pl pl' hne (hback h) (hback h') (hwr h hw) (hlive h' hl), fun i hi => let ⟨pl, q1, q2⟩ := I.rel.glob i hi; ⟨pl, by rw [hf]; exact q1, q2⟩⟩,
    ⟨I.tr.os, I.tr.tape, I.tr.output, I.tr.drawn, I.tr.size, fun b pl h => by rw [hf]; exact I.tr.ext b pl h, I.tr.hn, I.tr.hg, fun b pl h h' => I.tr.new b pl (hback h) h', I.tr.dead, I.tr.wrd, I.tr.frame⟩,
    fun s pl h => I.box s pl (hback h), I.dom0⟩
  obtain ⟨C, e', fz, c1, c2, c3, c4, c5, c6⟩ := I.rel.row _ _ _ _ _ (hback h) (hrow h hr)
  exact ⟨C, e', fz, c1, c2, c3, c4, c5, fun i v hi => let ⟨v', q1, q2⟩ := c6 i v hi; ⟨v', q1, hmono q2⟩⟩

theorem enterD_ok {n : Nat} {pd : List Pend} (hpw : pd.Pairwise fun p q => p.i ≠ q.i ∧ p.s ≠ q.s) {σ : St} {a : Act} (C : Con P ρ0 h0 w0 n σ a w) : ConD P ρ0 h0 w0 n pd (enterD pd σ) a w := by
  obtain ⟨ρ, I, F, hs, hd⟩ := C
  cases hpd : pd with
  | nil => exact ⟨ρ, I, fun i v hi => F i v (by have h2 : hideP [] σ.t i = some v := hi; simp only [hideP, List.any_nil, Bool.false_eq_true, if_false] at h2; exact h2), hs, hd, by simp⟩
  | cons p0 r0 =>
    rw [← hpd]
    have he : enterD pd σ = ⟨enterT pd σ.t, ⟨enterX pd σ.m.x, σ.m.h⟩⟩ := by rw [hpd]; rfl
    rw [he]
    refine ⟨fun k => if k.1 = true ∧ (pd.any fun p => p.s == k.2) = true then none else ρ k, ?_, ?_, hs, hd, fun p hp => ⟨?_, ?_, ?_⟩⟩
    · refine I.forget (fun b => by simp) fun s pl h => ?_
      simp only [true_and] at h
      split at h
      · simp at h
      · rename_i hno
        refine ⟨h, .inl ?_⟩
        have : ∀ p ∈ pd, p.s ≠ s := fun p hp e => hno (List.any_eq_true.2 ⟨p, hp, by simp [e]⟩)
        simp only [enterX, find_none this]
    · intro j v hj
      simp only [Fr.get] at hj
      by_cases hex : ∃ p ∈ pd, p.s = j
      · rw [hideP_in hex] at hj; simp at hj
      · have hno : ∀ p ∈ pd, p.s ≠ j := fun p hp e => hex ⟨p, hp, e⟩
        rw [hideP_out hno] at hj
        simp only [enterT, find_none hno] at hj
        cases hT : σ.t j with
        | none => rw [hT] at hj; simp at hj
        | some u =>
          rw [hT] at hj
          simp only at hj
          obtain ⟨u', q1, q2⟩ := F j u hT
          have : u = v ∧ ∀ s, locOf u = some s → (pd.any fun p => p.s == s) = false := by
            split at hj
            · rename_i s hs'
              split at hj
              · simp at hj
              · rename_i hnn; exact ⟨Option.some.inj hj, fun s2 hs2 => by rw [hs'] at hs2; obtain rfl := Option.some.inj hs2; simpa using hnn⟩
            · rename_i hnone; exact ⟨Option.some.inj hj, fun s hs' => by rw [hnone] at hs'; cases hs'⟩
          obtain ⟨rfl, hloc⟩ := this
          refine ⟨u', q1, ?_⟩
          cases q2 with
          | val _ _ q => exact .val _ _ (q.mono fun b pl z => by simpa using z)
          | loc s off x pl z =>
            have := hloc s rfl
            exact .loc s off x pl (by simp only [this]; simpa using z)
    · have : (pd.any fun q => q.s == p.s) = true := List.any_eq_true.2 ⟨p, hp, by simp⟩
      simp [this]
    · simp only [enterX, find_some hpw hp]
    · simp only [enterT, find_some hpw hp]
end
end Go.Am
/- The abstract machine, part N: the condition of a body, and that it is enough. -/
namespace Go.Am
open Go

section
variable {P : Program} {ρ0 ρ ρ' : Rho} {h0 : Heap} {w0 w : World} {m : Mem}

inductive Ex
  | normal
  | exit (n : Nat)
  | ret
def St.cut (σ : St) (cfg : Cfg) (id : Nat) : St := ⟨σ.t.prune (cfg.keep id), ⟨σ.m.x.prune cfg.loc, σ.m.h⟩⟩
def vcIter (vb : (Ex → St → Prop) → St → Prop) (Q : Ex → St → Prop) : Nat → St → Prop
  | 0, _ => False
  | n + 1, σ => vb (fun e σ' => match e with
    | .normal => vcIter vb Q n σ'
    | e => Q e σ') σ
def thenQ (f : St → Prop) (Q : Ex → St → Prop) : Ex → St → Prop
  | .normal, σ => f σ
  | e, σ => Q e σ
def blockQ (i : Nat) (Q : Ex → St → Prop) : Ex → St → Prop
  | .exit j, σ => if j = i then Q .normal σ else Q (.exit j) σ
  | e, σ => Q e σ
/-- the orders in which a region may be told: all of them come to Q -/
def altH (P : Program) (loc : List Nat) (ops : Array Oper) (B : Nat → Nat → Bool) (Q : St → Prop) : List (List Nat) → St → Prop
  | [], _ => True
  | pm :: r, σ => vcH P loc ops B Q [] (remP ops pm) σ ∧ altH P loc ops B Q r σ
theorem altH_mem {loc : List Nat} {ops : Array Oper} {B : Nat → Nat → Bool} {Q : St → Prop} {σ : St} {pm : List Nat} : ∀ {l : List (List Nat)}, pm ∈ l → altH P loc ops B Q l σ → vcH P loc ops B Q [] (remP ops pm) σ := by
  intro l
  induction l with
  | nil => intro h; simp at h
  | cons x r ih =>
    intro h q
    rcases List.mem_cons.1 h with e | e
    · subst e; exact q.1
    · exact ih e q.2
def vc (P : Program) (cfg : Cfg) : Code → (Ex → St → Prop) → St → Prop
  | .skip, Q, σ => Q .normal σ
  | .region id ops false, Q, σ => vcOps P cfg.loc ops (fun σ => Q .normal (σ.cut cfg id)) ops.toList σ
  | .region id ops true, Q, σ => altH P cfg.loc ops (cfg.draw id).B (fun σ => Q .normal (σ.cut cfg id)) (cfg.draw id).perms (enterD (pendL P ops (cfg.draw id)) σ)
  | .seq a b, Q, σ => vc P cfg a (thenQ (vc P cfg b Q) Q) σ
  | .cond c a b, Q, σ => match opnd σ c with
    | some (.bool t) => if t = true then vc P cfg a Q σ else vc P cfg b Q σ
    | _ => False
  | .block i b, Q, σ => vc P cfg b (blockQ i Q) σ
  | .loop b, Q, σ => ∃ n, vcIter (vc P cfg b) Q n σ
  | .exit i, Q, σ => Q (.exit i) σ
  | .ret, Q, σ => Q .ret σ
  | _, _, _ => False

/-- what is asked of the code alone -/
def codeOK (P : Program) (cfg : Cfg) (n : Nat) : Code → Bool
  | .region id ops draw => ops.toList.all (fun o => match o.dst with | some i => decide (i < n) | none => true) && (!draw || drawOK P cfg.loc n ops (cfg.draw id))
  | .seq a b => codeOK P cfg n a && codeOK P cfg n b
  | .cond _ a b => codeOK P cfg n a && codeOK P cfg n b
  | .block _ b => codeOK P cfg n b
  | .loop b => codeOK P cfg n b
  | _ => true

theorem lookL_none {α : Type} (T : Nat → Option α) (i : Nat) : ∀ l : List Nat, lookL (l.map fun i => (i, T i)) i = T i ∨ lookL (l.map fun i => (i, T i)) i = none := by
  intro l
  induction l with
  | nil => exact .inr rfl
  | cons j r ih =>
    simp only [List.map_cons, lookL]
    split
    · rename_i h; subst h; exact .inl rfl
    · exact ih
theorem Con.cut {n : Nat} {σ : St} {a : Act} (C : Con P ρ0 h0 w0 n σ a w) (cfg : Cfg) (id : Nat) : Con P ρ0 h0 w0 n (σ.cut cfg id) a w := by
  obtain ⟨ρ, I, F, hs, hd⟩ := C
  exact ⟨ρ, I.forget (ρ1 := ρ) (x1 := σ.m.x.prune cfg.loc) (fun _ => rfl) fun s pl h => ⟨h, lookL_none σ.m.x.look s cfg.loc⟩, F.prune _, hs, hd⟩

def QC (P : Program) (ρ0 : Rho) (h0 : Heap) (w0 : World) (n : Nat) (Q : Ex → St → Prop) : Exit → Act → World → Prop
  | .normal, a, w => ∃ σ, Q .normal σ ∧ Con P ρ0 h0 w0 n σ a w
  | .exit i, a, w => ∃ σ, Q (.exit i) σ ∧ Con P ρ0 h0 w0 n σ a w
  | .ret, a, w => ∃ σ, Q .ret σ ∧ Con P ρ0 h0 w0 n σ a w
  | _, _, _ => False

theorem wp_loop_iter {c : Code} {Z : Exit → Act → World → Prop} (J : Nat → Act → World → Prop) (hJ : ∀ k a w, J (k + 1) a w → c.wp P (Exit.then (fun a' w' => J k a' w') Z) a w) (h0 : ∀ a w, ¬ J 0 a w) :
    ∀ (k : Nat) (a : Act) (w : World), J k a w → (Code.loop c).wp P Z a w := by
  intro k a w h b kk cs
  have key : ∀ (k : Nat) (a : Act) (w : World), J k a w → ∃ e a' w', Z e a' w' ∧ Arrives P (lone (b.at a (.code c :: .inLoop c :: kk)) cs w) b kk cs e a' w' := by
    intro k
    induction k with
    | zero => intro a w h; exact absurd h (h0 a w)
    | succ k ih =>
      intro a w h
      obtain ⟨e, a₁, w₁, hq, harr⟩ := hJ k a w h b (.inLoop c :: kk) cs
      cases e with
      | normal =>
        obtain ⟨e₂, a₂, w₂, hq₂, harr₂⟩ := ih a₁ w₁ hq
        exact ⟨e₂, a₂, w₂, hq₂, .of_steps (Steps.trans harr (.one step_inLoop)) harr₂⟩
      | exit id => exact ⟨_, a₁, w₁, hq, .pass (x := .inLoop c) rfl (fun _ _ => .inl (by simp)) harr⟩
      | goto l => exact ⟨_, a₁, w₁, hq, .pass (x := .inLoop c) rfl (fun _ _ => .inl (by simp)) harr⟩
      | ret => exact ⟨_, a₁, w₁, hq, .pass (x := .inLoop c) rfl (fun _ _ => .inl (by simp)) harr⟩
      | panic ch => exact ⟨_, a₁, w₁, hq, .pass (x := .inLoop c) rfl (fun _ _ => .inl (by simp)) harr⟩
      | outgrown => exact ⟨_, a₁, w₁, hq, .pass (x := .inLoop c) rfl (fun _ _ => .inl (by simp)) harr⟩
  obtain ⟨e, a', w', hq, harr⟩ := key k a w h
  exact ⟨e, a', w', hq, .of_steps (.one step_loop) harr⟩

theorem vc_sound {cfg : Cfg} {n : Nat} (hmix : P.follows .mixedOrders = true) : ∀ (c : Code) (Q : Ex → St → Prop) (σ : St) (a : Act) (w : World), codeOK P cfg n c = true → vc P cfg c Q σ → Con P ρ0 h0 w0 n σ a w →
    c.wp P (QC P ρ0 h0 w0 n Q) a w := by
  intro c
  induction c with
  | skip => intro Q σ a w _ h C; exact wp_skip ⟨σ, h, C⟩
  | region id ops draw =>
    intro Q σ a w hok h C
    simp only [codeOK, Bool.and_eq_true] at hok
    obtain ⟨h1, h2⟩ := hok
    have hdst : ∀ o ∈ ops.toList, ∀ i, o.dst = some i → i < n := fun o ho i hi => by
      have := List.all_eq_true.1 h1 o ho
      rw [hi] at this
      exact of_decide_eq_true this
    cases draw with
    | false =>
      refine wp_region_list (vcOps_sound (Q := fun σ => Q .normal (σ.cut cfg id)) (fun σ' a' w' hq hc => ⟨_, hq, hc.cut cfg id⟩) ops.toList σ a w hdst h C)
    | true =>
      simp only [Bool.not_true, Bool.false_or] at h2
      refine wp_region_draw fun t => ?_
      simp only [Region.schedule, hmix, Bool.true_or, if_true]
      obtain ⟨hpw, pm, hpm, L⟩ := drawOK_left h2 t
      refine draw_list (Q := fun σ => Q .normal (σ.cut cfg id)) (fun σ' a' w' hq hc => ⟨_, hq, hc.cut cfg id⟩) _ (pendL P ops (cfg.draw id)) (remP ops pm) [] _ a _ L (altH_mem hpm h) ?_
      have C' : Con P ρ0 h0 w0 n σ a w.drew := let ⟨ρ, I, F, z⟩ := C; ⟨ρ, I.drew, F, z⟩
      exact enterD_ok hpw C'
  | seq x y ihx ihy =>
    intro Q σ a w hok h C
    simp only [codeOK, Bool.and_eq_true] at hok
    refine wp_seq (Code.wp_mono (fun e a' w' hq => ?_) (ihx _ σ a w hok.1 h C))
    cases e with
    | normal => obtain ⟨σ', q1, q2⟩ := hq; exact ihy Q σ' a' w' hok.2 q1 q2
    | exit i => exact hq
    | ret => exact hq
    | goto l => exact hq
    | panic ch => exact hq
    | outgrown => exact hq
  | cond c x y ihx ihy =>
    intro Q σ a w hok h C
    simp only [codeOK, Bool.and_eq_true] at hok
    simp only [vc] at h
    split at h
    rotate_left
    · exact h.elim
    rename_i t ht
    obtain ⟨ρ, I, F, z⟩ := C
    have hc := (opnd_sound I F ht).flat2 rfl
    refine wp_cond hc ?_
    cases t with
    | true => simp only [if_true] at h ⊢; exact ihx Q σ a w hok.1 h ⟨ρ, I, F, z⟩
    | false => simp only [Bool.false_eq_true, if_false] at h ⊢; exact ihy Q σ a w hok.2 h ⟨ρ, I, F, z⟩
  | block i b ih =>
    intro Q σ a w hok h C
    refine wp_block (Code.wp_mono (fun e a' w' hq => ?_) (ih _ σ a w hok h C))
    cases e with
    | normal => exact hq
    | exit j =>
      obtain ⟨σ', q1, q2⟩ := hq
      simp only [blockQ] at q1
      simp only [Exit.inBlock]
      by_cases hj : j = i
      · rw [if_pos hj] at q1 ⊢; exact ⟨σ', q1, q2⟩
      · rw [if_neg hj] at q1 ⊢; exact ⟨σ', q1, q2⟩
    | ret => exact hq
    | goto l => exact hq
    | panic ch => exact hq
    | outgrown => exact hq
  | loop b ih =>
    intro Q σ a w hok h C
    obtain ⟨k, hk⟩ := h
    refine wp_loop_iter (J := fun k a w => ∃ σ, vcIter (vc P cfg b) Q k σ ∧ Con P ρ0 h0 w0 n σ a w) (fun k a w hJ => ?_) (fun a w hJ => ?_) k a w ⟨σ, hk, C⟩
    · obtain ⟨σ', q1, q2⟩ := hJ
      refine Code.wp_mono (fun e a' w' hq => ?_) (ih _ σ' a w hok q1 q2)
      cases e with
      | normal => exact hq
      | exit j => exact hq
      | ret => exact hq
      | goto l => exact hq
      | panic ch => exact hq
      | outgrown => exact hq
    · obtain ⟨σ', q1, _⟩ := hJ; exact q1
  | exit i => intro Q σ a w _ h C; exact wp_exit ⟨σ, h, C⟩
  | ret => intro Q σ a w _ h C; exact wp_ret ⟨σ, h, C⟩
  | rangeFunc f ps x y => intro Q σ a w _ h; exact h.elim
  | scope b => intro Q σ a w _ h; exact h.elim
  | label l => intro Q σ a w _ h; exact h.elim
  | goto l => intro Q σ a w _ h; exact h.elim
  | refuse s => intro Q σ a w _ h; exact h.elim

/-! ### a function -/
def res1 (P : Program) (σ : St) : ResultVar → Option Value
  | .tmp t => match σ.t.get t with
    | some v => if noLoc v then some v else none
    | none => none
  | .cell t ty => match σ.t.get t with
    | some (.pointer (some ad)) => match aggT P ty, szT P ty with
      | some true, some n => match σ.m.cells ad n with
        | some l => some (.agg ⟨l⟩)
        | none => none
      | some false, _ => match σ.m.cells ad 1 with
        | some [v] => some v
        | _ => none
      | _, _ => none
    | _ => none
def resL (P : Program) (σ : St) : List ResultVar → Option (List Value)
  | [] => some []
  | r :: l => match res1 P σ r, resL P σ l with
    | some v, some vs => some (v :: vs)
    | _, _ => none
def resV : List Value → Value
  | [v] => v
  | l => .tuple ⟨l⟩

def oneRes (tmps : Array Value) : ResultVar → Sem Value
  | .tmp t => pure (tmps.getD t undef)
  | .cell a t => do loadVar t (← asAddr (tmps.getD a undef))
theorem results_eq (fn : Func) (tmps : Array Value) : results fn tmps = (do
    let vs ← fn.results.mapM (oneRes tmps)
    pure (if h : vs.size = 1 then vs[0] else .tuple vs)) := by
  unfold results
  congr 1
theorem res1_ok {σ : St} {r : ResultVar} {v : Value} (h : res1 P σ r = some v) (I : Inv P ρ0 h0 w0 ρ σ.m w) {tmps : Array Value} (F : FRel ρ σ.t tmps) :
    ∃ v', (oneRes tmps r).run P w = .ok v' w ∧ VR ρ v v' := by
  cases r with
  | tmp t =>
    simp only [res1] at h
    split at h
    · rename_i u hu
      split at h
      · rename_i hnl
        obtain rfl := Option.some.inj h
        obtain ⟨v', q1, q2⟩ := F t _ hu
        exact ⟨v', by simp [oneRes, Array.getD_eq_getD_getElem?, q1], q2.noLoc hnl⟩
      · simp at h
    · simp at h
  | cell t ty =>
    simp only [res1] at h
    split at h
    · rename_i ad hx
      obtain ⟨v', q1, q2⟩ := F t _ hx
      obtain ⟨pl, hk, hv⟩ := q2.ptr
      have hg : tmps.getD t undef = .pointer (some ⟨pl.B, pl.o + ad.off, none⟩) := by simp [Array.getD_eq_getD_getElem?, q1, hv]
      split at h
      · rename_i n hagg hsz
        split at h
        · rename_i l hl
          obtain rfl := Option.some.inj h
          obtain ⟨p1, l', p2, p3, p4⟩ := cells_sound I hk hl
          have hrun := run_loadCells_list (P := P) w ⟨pl.B, pl.o + ad.off, none⟩ l' p4
          rw [p2] at hrun
          exact ⟨.agg ⟨l'⟩, by simp [hg, asAddr, loadVar, oneRes, run_isAgg hagg, run_sizeOf hsz, hrun], vrs_agg (p1.trans p2.symm) p3⟩
        · simp at h
      · rename_i hagg
        split at h
        · rename_i v1 hl
          obtain rfl := Option.some.inj h
          obtain ⟨p1, l', p2, p3, p4⟩ := cells_sound I hk hl
          obtain ⟨v2, e1, e2⟩ := p3 0 v1 rfl
          have hc := p4 0 v2 e1
          rw [Addr.add_zero'] at hc
          exact ⟨v2, by simp [hg, asAddr, loadVar, oneRes, run_isAgg hagg, hc], e2⟩
        · simp at h
      · simp at h
    · simp at h

theorem resL_ok {σ : St} (I : Inv P ρ0 h0 w0 ρ σ.m w) {tmps : Array Value} (F : FRel ρ σ.t tmps) : ∀ {l : List ResultVar} {vs : List Value}, resL P σ l = some vs →
    ∃ vs' : List Value, (l.mapM (oneRes tmps)).run P w = .ok vs' w ∧ VRl ρ vs vs' := by
  intro l
  induction l with
  | nil => intro vs h; simp only [resL, Option.some.injEq] at h; subst h; exact ⟨[], rfl, rfl, by simp⟩
  | cons r l ih =>
    intro vs h
    simp only [resL] at h
    split at h
    rotate_left
    · simp at h
    rename_i v us hv hus
    obtain rfl := Option.some.inj h
    obtain ⟨v', q1, q2⟩ := res1_ok hv I F
    obtain ⟨vs', p1, p2, p3⟩ := ih hus
    refine ⟨v' :: vs', ?_, by simp [p2], fun i u hi => ?_⟩
    · rw [List.mapM_cons]
      simp only [Sem.run_bind, q1, Result.andThen_ok, p1, Sem.run_pure]
    · cases i with
      | zero => simp at hi; subst hi; exact ⟨v', rfl, q2⟩
      | succ i => exact p3 i u (by simpa using hi)
theorem resV_ok {vs vs' : List Value} (h : VRl ρ vs vs') : VR ρ (resV vs) (resV vs') := by
  obtain ⟨hl, h2⟩ := h
  match vs, vs', hl with
  | [], [], _ => exact .tuple [] [] rfl (by simp)
  | [v], [v'], _ => obtain ⟨u, q1, q2⟩ := h2 0 v rfl; simp at q1; subst q1; exact q2
  | v :: v2 :: r, v' :: v2' :: r', hl => exact .tuple _ _ hl ((vrs_zip hl).2 h2)

def entryT (args : List Value) : Fr := Fr.ofList (args.zipIdx.map fun p => (p.2, some p.1))
def endQ (P : Program) (rs : List ResultVar) (post : Value → Heap → Prop) : Ex → St → Prop
  | .exit _, _ => False
  | _, σ => match resL P σ rs with
    | some vs => post (resV vs) σ.m.h
    | none => False

theorem lookL_zip (l : List Value) : ∀ (k i : Nat) (v : Value), lookL ((l.zipIdx k).map fun p => (p.2, some p.1)) i = some v → k ≤ i ∧ l[i - k]? = some v := by
  induction l with
  | nil => intro k i v h; simp [lookL] at h
  | cons x r ih =>
    intro k i v h
    rw [List.zipIdx_cons, List.map_cons] at h
    simp only [lookL] at h
    split at h
    · rename_i e; subst e; simp at h; subst h; simp
    · rename_i hne
      obtain ⟨q1, q2⟩ := ih (k + 1) i v h
      refine ⟨by omega, ?_⟩
      rw [show i - k = (i - (k + 1)) + 1 by omega, List.getElem?_cons_succ]
      exact q2

theorem acalls_of_vc {f : FuncId} {fn : Func} {c : Code} {cfg : Cfg} {args : List Value} {h : Heap} {post : Value → Heap → Prop} (hmix : P.follows .mixedOrders = true) (hf : P.funcs[f]? = some fn) (hb : fn.body = some c)
    (hname : (fn.name == "runtime.NumGoroutine") = false) (hn : args.length ≤ fn.ntmps) (hok : codeOK P cfg fn.ntmps c = true)
    (hvc : vc P cfg c (endQ P fn.results.toList post) ⟨entryT args, ⟨Boxes.nil, h⟩⟩) : ACalls P f args h post := by
  refine ⟨⟨fn, hf, by simp [hb], hname⟩, fun ρ w args' hbox R V => ?_⟩
  refine calls_of_wp hf hb ?_
  have I := Inv.start R hbox
  have hlen : args'.length ≤ fn.ntmps := by rw [← V.1]; exact hn
  have C : Con P ρ h w fn.ntmps ⟨entryT args, ⟨Boxes.nil, h⟩⟩ { tmps := (⟨args'⟩ : Array Value) ++ Array.replicate (fn.ntmps - (⟨args'⟩ : Array Value).size) undef, defers := [] } w := by
    refine ⟨ρ, I, fun i v hi => ?_, by simp; omega, rfl⟩
    obtain ⟨_, q⟩ := lookL_zip args 0 i v hi
    obtain ⟨v', q1, q2⟩ := V.2 i v (by simpa using q)
    refine ⟨v', ?_, .val _ _ q2⟩
    have hi' : i < args'.length := by rcases Nat.lt_or_ge i args'.length with z | z; exact z; rw [List.getElem?_eq_none z] at q1; cases q1
    rw [Array.getElem?_append_left (by simpa using hi')]
    simpa using q1
  refine Code.wp_mono (fun e a' w' hq => ?_) (vc_sound hmix c _ _ _ w hok hvc C)
  have fin : ∀ σ, (match resL P σ fn.results.toList with | some vs => post (resV vs) σ.m.h | none => False) → Con P ρ h w fn.ntmps σ a' w' → a'.defers = [] ∧ ∃ v, (results fn a'.tmps).run P w' = .ok v w' ∧
      ∃ v0 v' h' ρ', Ending.returned v = .returned v' ∧ post v0 h' ∧ (∀ s, ρ' (true, s) = none) ∧ MRel P ρ' ⟨Boxes.nil, h'⟩ w' ∧ Tr ρ h w ρ' h' w' ∧ VR ρ' v0 v' := by
    intro σ hp ⟨ρ1, I1, F1, hs, hd⟩
    refine ⟨hd, ?_⟩
    split at hp
    rotate_left
    · exact hp.elim
    rename_i vs hvs
    obtain ⟨vs', q1, q2⟩ := resL_ok I1 F1 hvs
    refine ⟨resV vs', ?_, resV vs, resV vs', σ.m.h, heapOnly ρ1, rfl, hp, fun s => heapOnly_t _ s, I1.rel.heapOnly, ?_, (resV_ok q2).heapOnly⟩
    · have hm : (fn.results.mapM (oneRes a'.tmps)).run P w' = .ok ⟨vs'⟩ w' := by
        rw [Array.mapM_eq_mapM_toList, Sem.run_map, q1]; rfl
      rw [results_eq, Sem.run_bind, hm]
      simp only [Result.andThen_ok, Sem.run_pure]
      congr 1
      match vs' with
      | [] => rfl
      | [v] => rfl
      | v :: v2 :: r => simp [resV]
    · have t := I1.tr
      exact ⟨t.os, t.tape, t.output, t.drawn, t.size, fun b pl q => by rw [heapOnly_f]; exact t.ext b pl q, t.hn, t.hg, fun b pl q q' => by rw [heapOnly_f] at q; exact t.new b pl q q', t.dead, t.wrd, t.frame⟩
  cases e with
  | normal => obtain ⟨σ, q1, q2⟩ := hq; exact fin σ q1 q2
  | ret => obtain ⟨σ, q1, q2⟩ := hq; exact fin σ q1 q2
  | exit i => obtain ⟨σ, q1, q2⟩ := hq; exact q1
  | goto l => exact hq
  | panic ch => exact hq.elim
  | outgrown => exact hq.elim
end
end Go.Am
/- The abstract machine, part O: what is used when a body is walked. -/
namespace Go.Am
open Go

section
variable {P : Program} {loc : List Nat} {ops : Array Oper} {cfg : Cfg}

theorem vcOps_to {Q Q' : St → Prop} (hq : ∀ σ, Q σ → Q' σ) : ∀ (l : List Oper) (σ : St), vcOps P loc ops Q l σ → vcOps P loc ops Q' l σ := by
  intro l
  induction l with
  | nil => intro σ h; exact hq _ h
  | cons o r ih =>
    intro σ h
    simp only [vcOps] at h ⊢
    split at h
    · exact h.elim
    · exact ih _ h
    · split at h
      · exact h.mono fun v h' q n => ih _ (q n)
      · split at h
        · exact ih _ h
        · exact h.elim
theorem vcH_to {Q Q' : St → Prop} {B : Nat → Nat → Bool} (hq : ∀ σ, Q σ → Q' σ) : ∀ (l : List (Nat × Oper)) (hl : HL) (σ : St), vcH P loc ops B Q hl l σ → vcH P loc ops B Q' hl l σ := by
  intro l
  induction l with
  | nil => intro hl σ h; exact hq _ h
  | cons p r ih =>
    intro hl σ h
    obtain ⟨i, o⟩ := p
    simp only [vcH] at h ⊢
    split at h
    · rename_i hn
      rw [if_pos hn]
      split at h
      · exact ih _ _ h
      · exact h.elim
    · rename_i hn
      rw [if_neg hn]
      split at h
      · exact h.elim
      · exact ih _ _ h
      · split at h
        · exact h.mono fun v h' q n => ⟨(q n).1, ih _ _ (q n).2⟩
        · split at h
          · exact ⟨h.1, ih _ _ h.2⟩
          · exact h.elim
theorem altH_to {Q Q' : St → Prop} {B : Nat → Nat → Bool} (hq : ∀ σ, Q σ → Q' σ) : ∀ (l : List (List Nat)) (σ : St), altH P loc ops B Q l σ → altH P loc ops B Q' l σ := by
  intro l
  induction l with
  | nil => intro σ h; exact h
  | cons x r ih => intro σ h; exact ⟨vcH_to hq _ _ _ h.1, ih σ h.2⟩
theorem vcIter_to {vb : (Ex → St → Prop) → St → Prop} (hvb : ∀ {Q Q' : Ex → St → Prop}, (∀ e σ, Q e σ → Q' e σ) → ∀ σ, vb Q σ → vb Q' σ) {Q Q' : Ex → St → Prop} (hq : ∀ e σ, Q e σ → Q' e σ) :
    ∀ n σ, vcIter vb Q n σ → vcIter vb Q' n σ := by
  intro n
  induction n with
  | zero => intro σ h; exact h
  | succ n ih =>
    intro σ h
    refine hvb (fun e σ' h' => ?_) σ h
    cases e with
    | normal => exact ih _ h'
    | exit i => exact hq _ _ h'
    | ret => exact hq _ _ h'
theorem vc_to : ∀ (c : Code) {Q Q' : Ex → St → Prop}, (∀ e σ, Q e σ → Q' e σ) → ∀ σ, vc P cfg c Q σ → vc P cfg c Q' σ := by
  intro c
  induction c with
  | skip => intro Q Q' hq σ h; exact hq _ _ h
  | region id ops draw =>
    intro Q Q' hq σ h
    cases draw with
    | false => exact vcOps_to (fun σ => hq _ _) _ _ h
    | true => exact altH_to (fun σ => hq _ _) _ _ h
  | seq a b iha ihb =>
    intro Q Q' hq σ h
    refine iha (fun e σ' h' => ?_) σ h
    cases e with
    | normal => exact ihb hq _ h'
    | exit i => exact hq _ _ h'
    | ret => exact hq _ _ h'
  | cond c a b iha ihb =>
    intro Q Q' hq σ h
    simp only [vc] at h ⊢
    split at h
    · rename_i t ht
      cases t with
      | true => rw [if_pos rfl] at h ⊢; exact iha hq _ h
      | false => rw [if_neg (by simp)] at h ⊢; exact ihb hq _ h
    · exact h.elim
  | block i b ih =>
    intro Q Q' hq σ h
    refine ih (fun e σ' h' => ?_) σ h
    cases e with
    | normal => exact hq _ _ h'
    | ret => exact hq _ _ h'
    | exit j =>
      simp only [blockQ] at h' ⊢
      by_cases e : j = i
      · rw [if_pos e] at h' ⊢; exact hq _ _ h'
      · rw [if_neg e] at h' ⊢; exact hq _ _ h'
  | loop b ih =>
    intro Q Q' hq σ h
    obtain ⟨n, h⟩ := h
    exact ⟨n, vcIter_to (fun hq σ h => ih hq σ h) hq n σ h⟩
  | exit i => intro Q Q' hq σ h; exact hq _ _ h
  | ret => intro Q Q' hq σ h; exact hq _ _ h
  | _ => intro Q Q' hq σ h; exact h.elim

/-- the rule of loops: an invariant with a measure -/
theorem vc_loop {b : Code} {Q : Ex → St → Prop} {σ : St} (J : Nat → St → Prop) (n : Nat) (h0 : J n σ)
    (step : ∀ k σ, J k σ → vc P cfg b (thenQ (fun σ' => ∃ j, j < k ∧ J j σ') Q) σ) : vc P cfg (.loop b) Q σ := by
  refine ⟨n + 1, ?_⟩
  have key : ∀ m n σ, n < m → J n σ → vcIter (vc P cfg b) Q m σ := by
    intro m
    induction m with
    | zero => intro n σ h; omega
    | succ m ih =>
      intro n σ hn hJ
      refine vc_to b (fun e σ' h' => ?_) σ (step n σ hJ)
      cases e with
      | normal => obtain ⟨j, hj, h'⟩ := h'; exact ih j σ' (by omega) h'
      | exit i => exact h'
      | ret => exact h'
  exact key (n + 1) n σ (by omega) h0

/-! ### frames -/
theorem get_put (T : Fr) (i j : Nat) (v : Value) : (T.put i v).get j = if i = j then some v else T.get j := rfl
theorem get_cons (i j : Nat) (v : Option Value) (l : List (Nat × Option Value)) : (Fr.ofList ((i, v) :: l)).get j = if i = j then v else (Fr.ofList l).get j := rfl
theorem get_nil (j : Nat) : (Fr.ofList []).get j = none := rfl
theorem prune_eq (T : Fr) (l : List Nat) : T.prune l = Fr.ofList (l.map fun i => (i, T.get i)) := rfl
theorem look_set (x : Boxes) (i j : Nat) (v : TypeId × List Value) : (x.set i v).look j = if i = j then some v else x.look j := rfl
theorem look_cons (i j : Nat) (v : Option (TypeId × List Value)) (l : List (Nat × Option (TypeId × List Value))) : (Boxes.ofList ((i, v) :: l)).look j = if i = j then v else (Boxes.ofList l).look j := rfl
theorem look_nil (j : Nat) : (Boxes.ofList []).look j = none := rfl
theorem look_nil' (j : Nat) : Boxes.nil.look j = none := rfl
theorem bprune_eq (x : Boxes) (l : List Nat) : x.prune l = Boxes.ofList (l.map fun i => (i, x.look i)) := rfl
theorem f_new (h : Heap) (x : Blk) (b : Nat) : (h.new x).f b = if b = h.n then x else h.f b := rfl
theorem n_new (h : Heap) (x : Blk) : (h.new x).n = h.n + 1 := rfl
theorem g_new (h : Heap) (x : Blk) : (h.new x).g = h.g := rfl
theorem f_set (h : Heap) (a : Nat) (x : Blk) (b : Nat) : (h.set a x).f b = if b = a then x else h.f b := rfl
theorem n_set (h : Heap) (a : Nat) (x : Blk) : (h.set a x).n = h.n := rfl
theorem g_set (h : Heap) (a : Nat) (x : Blk) : (h.set a x).g = h.g := rfl
theorem get_enterT (p : Pend) (pd : List Pend) (T : Fr) (j : Nat) : (enterT (p :: pd) T).get j = match (p :: pd).find? (fun p => p.s == j) with
  | some p => some (.pointer (some ⟨p.s, 0, some 0⟩))
  | none => match T.get j with
    | some v => match locOf v with
      | some s => if (p :: pd).any (fun p => p.s == s) then none else some v
      | none => some v
    | none => none := rfl
theorem look_enterX (p : Pend) (pd : List Pend) (x : Boxes) (j : Nat) : (enterX (p :: pd) x).look j = match (p :: pd).find? (fun p => p.s == j) with
  | some p => some (p.e, p.z)
  | none => x.look j := rfl

/-! ### the heap, as a caller sees it -/
/-- nothing of the elder heap is changed -/
structure Ext (h h' : Heap) : Prop where
  g : h'.g = h.g
  n : h.n ≤ h'.n
  f : ∀ b, b < h.n → h'.f b = h.f b
theorem Ext.rfl' (h : Heap) : Ext h h := ⟨rfl, Nat.le_refl _, fun _ _ => rfl⟩
theorem Ext.trans {h h' h'' : Heap} (a : Ext h h') (b : Ext h' h'') : Ext h h'' :=
  ⟨b.g.trans a.g, Nat.le_trans a.n b.n, fun i hi => (b.f i (Nat.lt_of_lt_of_le hi a.n)).trans (a.f i hi)⟩
theorem Ext.new (h : Heap) (x : Blk) : Ext h (h.new x) := ⟨rfl, Nat.le_succ _, fun i hi => by rw [f_new, if_neg (by omega)]⟩
theorem Ext.newOf {h h' : Heap} (a : Ext h h') (x : Blk) : Ext h (h'.new x) := a.trans (Ext.new h' x)
theorem Ext.setOf {h h' : Heap} (a : Ext h h') {b : Nat} (hb : h.n ≤ b) (x : Blk) : Ext h (h'.set b x) :=
  ⟨a.g, a.n, fun i hi => by rw [f_set, if_neg (by omega)]; exact a.f i hi⟩

/-! ### texts -/
def B (l : List UInt8) : ByteArray := ⟨⟨l⟩⟩
theorem B_of (s : ByteArray) : s = B s.data.toList := rfl
theorem B_size (l : List UInt8) : (B l).size = l.length := rfl
theorem B_get (l : List UInt8) (i : Nat) : (B l)[i]? = l[i]? := by
  by_cases h : i < l.length
  · rw [List.getElem?_eq_getElem h, getElem?_pos (B l) i (by simpa [B_size] using h)]; rfl
  · rw [List.getElem?_eq_none (by omega), getElem?_neg (B l) i (by simpa [B_size] using h)]
theorem B_extract (l : List UInt8) (i j : Nat) : (B l).extract i j = B ((l.take j).drop i) := by
  apply ByteArray.ext
  apply Array.ext'
  simp [B, List.take_drop]
  by_cases h : i ≤ j
  · rw [show i + (j - i) = j by omega]
  · rw [List.drop_eq_nil_of_le (by simp; omega), List.drop_eq_nil_of_le (by simp; omega)]
theorem B_append (l k : List UInt8) : B l ++ B k = B (l ++ k) := by
  apply ByteArray.ext
  simp [B]
theorem B_inj (l k : List UInt8) : B l = B k ↔ l = k := ⟨fun h => by simpa [B] using h, fun h => by rw [h]⟩
end
end Go.Am
/- The abstract machine, part P: pure operations, told. -/
namespace Go.Am
open Go

section
variable {P : Program} {loc : List Nat} {σ : St}

def andI (k : IntKind) (a b : Int) : Int := k.wrap ((BitVec.ofInt k.bits a &&& BitVec.ofInt k.bits b).toNat : Int)
def orI (k : IntKind) (a b : Int) : Int := k.wrap ((BitVec.ofInt k.bits a ||| BitVec.ofInt k.bits b).toNat : Int)
def xorI (k : IntKind) (a b : Int) : Int := k.wrap ((BitVec.ofInt k.bits a ^^^ BitVec.ofInt k.bits b).toNat : Int)
def notI (k : IntKind) (a b : Int) : Int := k.wrap ((BitVec.ofInt k.bits a &&& ~~~BitVec.ofInt k.bits b).toNat : Int)
def shlI (k : IntKind) (a b : Int) : Int := k.wrap (a * 2 ^ (min b.toNat k.bits))
def shrI (k : IntKind) (a b : Int) : Int := a.fdiv (2 ^ (min b.toNat k.bits))
theorem andI_1023 (n : Int) : andI .i64 n 1023 = n % 1024 := by
  have h : (BitVec.ofInt 64 n &&& BitVec.ofInt 64 1023).toNat = (n % 1024).toNat := by
    rw [BitVec.toNat_and]
    have e1 : (BitVec.ofInt 64 1023).toNat = 2 ^ 10 - 1 := by decide
    rw [e1, Nat.and_two_pow_sub_one_eq_mod, BitVec.toNat_ofInt]
    omega
  unfold andI
  show IntKind.wrap .i64 (((BitVec.ofInt 64 n &&& BitVec.ofInt 64 1023).toNat : Nat) : Int) = _
  rw [h]
  have e : IntKind.wrap .i64 ((((n % 1024).toNat : Nat)) : Int) = if ((((n % 1024).toNat : Nat) : Int) % 18446744073709551616 : Int) ≥ 9223372036854775808 then (((n % 1024).toNat : Nat) : Int) % 18446744073709551616 - 18446744073709551616 else (((n % 1024).toNat : Nat) : Int) % 18446744073709551616 := by
    simp [IntKind.wrap, IntKind.bits, IntKind.signed]
  rw [e]; split <;> omega
def binI (op : BinOp) (k : IntKind) (a b : Int) : Option Value := match op with
  | .and => some (.int k (andI k a b))
  | .or => some (.int k (orI k a b))
  | .xor => some (.int k (xorI k a b))
  | .andNot => some (.int k (notI k a b))
  | .shl => if b < 0 then none else some (.int k (shlI k a b))
  | .shr => if b < 0 then none else some (.int k (shrI k a b))
  | .add => some (.int k (k.wrap (a + b)))
  | .sub => some (.int k (k.wrap (a - b)))
  | .mul => some (.int k (k.wrap (a * b)))
  | .eql => some (.bool (decide (a = b)))
  | .neq => some (.bool (decide (a ≠ b)))
  | .lss => some (.bool (decide (a < b)))
  | .leq => some (.bool (decide (a ≤ b)))
  | .gtr => some (.bool (decide (b < a)))
  | .geq => some (.bool (decide (b ≤ a)))
  | .quo => if b = 0 then none else some (.int k (k.wrap (a.tdiv b)))
  | .rem => if b = 0 then none else some (.int k (a.tmod b))
/-- structs of whole numbers, texts and bools, compared -/
def eqL (P : Program) : List Field → List Value → List Value → Option Bool
  | [], _, _ => some true
  | f :: fs, xs, ys => if f.name = "_" then none else match P.underlying f.type, xs[f.offset]?, ys[f.offset]? with
    | some (.int _), some (.int k a), some (.int k' b) => if k = k' then (eqL P fs xs ys).map (decide (a = b) && ·) else none
    | some .string, some (.string a), some (.string b) => (eqL P fs xs ys).map (decide (a = b) && ·)
    | some .bool, some (.bool a), some (.bool b) => (eqL P fs xs ys).map ((a == b) && ·)
    | _, _, _ => none
def eqAgg (P : Program) (t : TypeId) (u v : List Value) : Option Bool :=
  if P.eqGuardType P.depth t = false ∧ P.stoodInHeld t = false ∧ u.all flat1 = true ∧ v.all flat1 = true then match P.underlying t with
    | some (.struct fs) => eqL P fs.toList u v
    | _ => none
  else none
def aggI (P : Program) (op : BinOp) (t : TypeId) (u v : List Value) : Option Value := match op with
  | .eql => (eqAgg P t u v).map fun r => .bool r
  | .neq => (eqAgg P t u v).map fun r => .bool (!r)
  | _ => none
def strI (op : BinOp) (a b : ByteArray) : Option Value := match op with
  | .add => if a.size + b.size ≤ 9223372036854775807 then some (.string (a ++ b)) else none
  | .eql => some (.bool (decide (a = b)))
  | .neq => some (.bool (decide (a ≠ b)))
  | _ => none
def boolI (op : BinOp) (a b : Bool) : Option Value := match op with
  | .eql => some (.bool (a == b))
  | .neq => some (.bool (!(a == b)))
  | _ => none
def binN (P : Program) (σ : St) (o : Oper) (op : BinOp) (xt : TypeId) (x y : Operand) : Option (Value × St) := match opNilC P σ op xt x y with
  | some r => some r
  | none => stepPure P σ o
def binA (P : Program) (σ : St) (o : Oper) (op : BinOp) (xt : TypeId) (x y : Operand) : Option (Value × St) := match opnd σ x, opnd σ y with
  | some (.agg u), some (.agg v) => (match aggI P op xt u.toList v.toList with | some v => some (v, σ) | none => stepPure P σ o)
  | some (.int k a), some (.int k' b) => if k = k' then (match binI op k a b with | some v => some (v, σ) | none => stepPure P σ o) else stepPure P σ o
  | some (.string a), some (.string b) => (match strI op a b with | some v => some (v, σ) | none => stepPure P σ o)
  | some (.bool a), some (.bool b) => (match P.underlying xt, boolI op a b with | some .bool, some v => some (v, σ) | _, _ => stepPure P σ o)
  | _, _ => binN P σ o op xt x y
theorem stepPure_of {o : Oper} {v : Value} (hall : o.op.operands.toList.all (flatO σ) = true) (hsel : isSelect o.op = false) (hr : (execOp (evO σ) o).pureRun P = some (.value v)) (hv : flat2 v = true) : stepPure P σ o = some (v, σ) := by
  simp [stepPure, pureOp, hall, hsel, hr, hv]
theorem flatO_of {x : Operand} {v : Value} (h : opnd σ x = some v) (hv : flat2 v = true) : flatO σ x = true := by simp [flatO, h, hv]
theorem evO_of {x : Operand} {v : Value} (h : opnd σ x = some v) : evO σ x = v := by simp [evO, h]
theorem ba_eq (a b : ByteArray) : (a.toList == b.toList) = decide (a = b) := by
  rw [ByteArray.toList_eq, ByteArray.toList_eq, Bool.eq_iff_iff]
  simp only [beq_iff_eq, decide_eq_true_eq]
  constructor
  · intro h; apply ByteArray.ext; exact Array.ext' h
  · intro h; rw [h]
theorem ba_beq (a b : ByteArray) : (a == b) = decide (a = b) := by rw [beq_toListBytes, ba_eq]
theorem pure_bin {o : Oper} {op : BinOp} {xt yt : TypeId} {x y : Operand} {u v : Value} {r : Value} (ho : o.op = .binOp op xt x y yt) (hx : opnd σ x = some u) (hy : opnd σ y = some v) (hu : flat2 u = true) (hv : flat2 v = true)
    (hg : (eqGuard op xt x y u v).pureRun P = some ()) (hr : (binOp op xt u v).pureRun P = some r) (hf : flat2 r = true) : stepPure P σ o = some (r, σ) := by
  refine stepPure_of (by rw [ho]; simp [Op.operands, flatO_of hx hu, flatO_of hy hv]) (by rw [ho]; rfl) ?_ hf
  simp only [execOp, ho, evO_of hx, evO_of hy]
  rw [pureRun_bind, pureRun_bind, hg]
  simp only [Option.bind_some, hr]
  rfl
theorem guard_int (op : BinOp) (xt : TypeId) (x y : Operand) (k k' : IntKind) (a b : Int) : (eqGuard op xt x y (.int k a) (.int k' b)).pureRun P = some () := by
  unfold eqGuard; split <;> rfl
theorem guard_str (op : BinOp) (xt : TypeId) (x y : Operand) (a b : ByteArray) : (eqGuard op xt x y (.string a) (.string b)).pureRun P = some () := by
  unfold eqGuard; split <;> rfl
theorem binI_run {op : BinOp} {k : IntKind} {a b : Int} {v : Value} (h : binI op k a b = some v) (xt : TypeId) : (binOp op xt (.int k a) (.int k b)).pureRun P = some v ∧ flat2 v = true := by
  cases op <;> simp only [binI, Option.some.injEq, reduceCtorEq, Option.ite_none_left_eq_some] at h <;> first
    | (subst h; refine ⟨?_, rfl⟩; simp [binOp, Op.intArith, Op.intCmp, Sem.pureRun, pure, Bool.beq_eq_decide_eq, bne]; done)
    | (obtain ⟨h0, h⟩ := h; subst h; refine ⟨?_, rfl⟩; simp [binOp, Op.intDiv, h0, Sem.pureRun, pure]; done)
    | (subst h; refine ⟨?_, rfl⟩; simp [binOp, Op.intBits, andI, orI, xorI, notI, Sem.pureRun, pure]; done)
    | (obtain ⟨h0, h⟩ := h; subst h; refine ⟨?_, rfl⟩; simp [binOp, Op.shift, shlI, shrI, h0, Sem.pureRun, pure]; done)
theorem part_flat {t : TypeId} {d : TypeDesc} {cs : List Value} {off : Nat} {v : Value} (hu : P.underlying t = some d) (hd : (match d with | .struct _ | .array _ _ => false | _ => true) = true) (hv : cs[off]? = some v) : (part t ⟨cs⟩ off).pureRun P = some v := by
  have : (isAgg t).pureRun P = some false := by
    simp only [isAgg, pureRun_bind, underlying, pureRun_program, Option.bind_some, hu]
    cases d <;> simp_all [Sem.pureRun, pure]
  simp [part, pureRun_bind, this, Sem.pureRun, pure, hv]
theorem pureRun_under {t : TypeId} {d : TypeDesc} (h : P.underlying t = some d) : (underlying t).pureRun P = some d := by
  simp [underlying, pureRun_bind, pureRun_program, h, Sem.pureRun, pure]
theorem eqL_run (d : Nat) : ∀ (fs : List Field) (xs ys : List Value) (r : Bool), eqL P fs xs ys = some r → (Op.eqFields (d + 1) ⟨xs⟩ ⟨ys⟩ fs).pureRun P = some r := by
  intro fs
  induction fs with
  | nil => intro xs ys r h; simp only [eqL, Option.some.injEq] at h; subst h; rfl
  | cons f fs ih =>
    intro xs ys r h
    rw [eqL] at h
    split at h
    · simp at h
    · rename_i hn
      rw [Op.eqFields, if_pos hn]
      split at h
      · rename_i k0 k a k' b hu hx hy
        split at h
        · rename_i hk; subst hk
          obtain ⟨r', h1, h2⟩ := Option.map_eq_some_iff.1 h
          rw [pureRun_bind, part_flat hu rfl hx, Option.bind_some, pureRun_bind, part_flat hu rfl hy, Option.bind_some, pureRun_bind]
          simp only [Op.equalIn, pureRun_bind, pureRun_under hu, Option.bind_some, if_true, Sem.pureRun, pure]
          by_cases hab : a = b
          · subst hab; simp only [beq_self_eq_true, Bool.not_true, Bool.false_eq_true, if_false, decide_true, Bool.true_and] at h2 ⊢; rw [← h2]; exact ih xs ys r' h1
          · have e : r = false := by rw [← h2]; simp [hab]
            subst e; simp [hab, Sem.pureRun]
        · simp at h
      · rename_i a b hu hx hy
        obtain ⟨r', h1, h2⟩ := Option.map_eq_some_iff.1 h
        rw [pureRun_bind, part_flat hu rfl hx, Option.bind_some, pureRun_bind, part_flat hu rfl hy, Option.bind_some, pureRun_bind]
        simp only [Op.equalIn, pureRun_bind, pureRun_under hu, Option.bind_some, Sem.pureRun, pure, ba_beq]
        by_cases hab : a = b
        · subst hab
          have e : r = r' := by rw [← h2]; simp
          rw [e]; simpa using ih xs ys r' h1
        · have e : r = false := by rw [← h2]; simp [hab]
          subst e; simp [hab, Sem.pureRun]
      · rename_i a b hu hx hy
        obtain ⟨r', h1, h2⟩ := Option.map_eq_some_iff.1 h
        rw [pureRun_bind, part_flat hu rfl hx, Option.bind_some, pureRun_bind, part_flat hu rfl hy, Option.bind_some, pureRun_bind]
        simp only [Op.equalIn, pureRun_bind, pureRun_under hu, Option.bind_some, Sem.pureRun, pure]
        by_cases hab : a = b
        · subst hab
          have e : r = r' := by rw [← h2]; simp
          rw [e]; simpa using ih xs ys r' h1
        · have e : r = false := by rw [← h2]; simp [hab]
          subst e; simp [hab, Sem.pureRun]
      · simp at h
theorem eqStruct_pure (d : Nat) (t : TypeId) (xs ys : Array Value) (fs : Array Field) (ht : P.underlying t = some (.struct fs)) (hp : P.stoodInHeld t = false) :
    (Op.equalIn (d + 1) t (.agg xs) (.agg ys)).pureRun P = (Op.eqFields d xs ys fs.toList).pureRun P := by
  simp only [Op.equalIn, pureRun_bind, pureRun_under ht, Option.bind_some, pureRun_program, hp, Bool.false_eq_true, if_false]
  rw [← Array.forIn_toList]
  generalize fs.toList = fs
  induction fs with
  | nil => rfl
  | cons f fs ih =>
    simp only [List.forIn_cons, Op.eqFields]
    by_cases hn : f.name ≠ "_"
    · simp only [if_pos hn, pureRun_bind]
      generalize (part f.type xs f.offset).pureRun P = r1
      cases r1 with
      | none => rfl
      | some a =>
        simp only [Option.bind_some]
        generalize (part f.type ys f.offset).pureRun P = r2
        cases r2 with
        | none => rfl
        | some b =>
          simp only [Option.bind_some]
          generalize (Op.equalIn d f.type a b).pureRun P = r3
          cases r3 with
          | none => rfl
          | some r =>
            cases r
            · rfl
            · simpa [pureRun_bind, Sem.pureRun, pure] using ih
    · simp only [if_neg hn]
      simpa [pureRun_bind, Sem.pureRun, pure] using ih
theorem eqAgg_run {t : TypeId} {u v : List Value} {r : Bool} (h : eqAgg P t u v = some r) : (∀ op x y, (eqGuard op t x y (.agg ⟨u⟩) (.agg ⟨v⟩)).pureRun P = some ()) ∧ (Op.equal t (.agg ⟨u⟩) (.agg ⟨v⟩)).pureRun P = some r ∧ u.all flat1 = true ∧ v.all flat1 = true := by
  unfold eqAgg at h
  split at h
  rotate_left
  · simp at h
  rename_i hc
  obtain ⟨c1, c2, c3, c4⟩ := hc
  split at h
  rotate_left
  · simp at h
  rename_i fs hu
  refine ⟨fun op x y => ?_, ?_, c3, c4⟩
  · cases op <;> first | rfl | simp [eqGuard, pureRun_bind, pureRun_program, c1, Sem.pureRun, pure]
  · show (Op.equalIn (9999 + 1) t _ _).pureRun P = _
    rw [eqStruct_pure 9999 t _ _ fs hu c2]
    exact eqL_run 9998 _ _ _ _ h
theorem aggI_run {op : BinOp} {t : TypeId} {u v : List Value} {r : Value} (h : aggI P op t u v = some r) : (∀ x y, (eqGuard op t x y (.agg ⟨u⟩) (.agg ⟨v⟩)).pureRun P = some ()) ∧ (binOp op t (.agg ⟨u⟩) (.agg ⟨v⟩)).pureRun P = some r ∧ flat2 r = true ∧ u.all flat1 = true ∧ v.all flat1 = true := by
  cases op <;> simp only [aggI, reduceCtorEq] at h
  · obtain ⟨b, h1, rfl⟩ := Option.map_eq_some_iff.1 h
    obtain ⟨q1, q2, q3, q4⟩ := eqAgg_run h1
    exact ⟨q1 _, by simp [binOp, pureRun_bind, q2, Sem.pureRun, pure], rfl, q3, q4⟩
  · obtain ⟨b, h1, rfl⟩ := Option.map_eq_some_iff.1 h
    obtain ⟨q1, q2, q3, q4⟩ := eqAgg_run h1
    exact ⟨q1 _, by simp [binOp, pureRun_bind, q2, Sem.pureRun, pure], rfl, q3, q4⟩
theorem strI_run {op : BinOp} {a b : ByteArray} {v : Value} (h : strI op a b = some v) (xt : TypeId) : (binOp op xt (.string a) (.string b)).pureRun P = some v ∧ flat2 v = true := by
  unfold strI at h
  split at h
  · split at h
    · rename_i hle
      obtain rfl := Option.some.inj h
      have : ¬ (((a.size + b.size : Nat) : Int) > IntKind.i64.max) := by
        have : IntKind.i64.max = 9223372036854775807 := by decide
        rw [this]; omega
      refine ⟨?_, rfl⟩
      simp only [binOp, Op.stringOp, if_neg this]; rfl
    · simp at h
  · obtain rfl := Option.some.inj h; refine ⟨?_, rfl⟩; simp [binOp, Op.stringOp, Sem.pureRun, pure, ba_eq]
  · obtain rfl := Option.some.inj h; refine ⟨?_, rfl⟩; simp [binOp, Op.stringOp, Sem.pureRun, pure, ba_eq]
  · simp at h
theorem boolI_run {op : BinOp} {a b : Bool} {v : Value} {xt : TypeId} (ht : P.underlying xt = some .bool) (h : boolI op a b = some v) : (binOp op xt (.bool a) (.bool b)).pureRun P = some v ∧ flat2 v = true := by
  have key : ∀ n, (Op.equalIn (n + 1) xt (.bool a) (.bool b)).pureRun P = some (a == b) := by
    intro n
    simp [Op.equalIn, pureRun_bind, pureRun_under ht, Sem.pureRun, pure]
  have he : (Op.equal xt (.bool a) (.bool b)).pureRun P = some (a == b) := key 9999
  clear key
  cases op <;> simp only [boolI, Option.some.injEq, reduceCtorEq] at h
  · subst h
    refine ⟨?_, rfl⟩
    show (do pure (.bool (← Op.equal xt (.bool a) (.bool b))) : Sem Value).pureRun P = _
    rw [pureRun_bind, he]; simp [Sem.pureRun, pure, Bool.beq_eq_decide_eq]
  · subst h
    refine ⟨?_, rfl⟩
    show (do pure (.bool (!(← Op.equal xt (.bool a) (.bool b)))) : Sem Value).pureRun P = _
    rw [pureRun_bind, he]; simp [Sem.pureRun, pure, Bool.beq_eq_decide_eq]
theorem guard_bool (op : BinOp) (xt : TypeId) (x y : Operand) (a b : Bool) : (eqGuard op xt x y (.bool a) (.bool b)).pureRun P = some () := by
  unfold eqGuard; split <;> rfl
theorem step_bin (d : Option Nat) (op : BinOp) (xt yt ty : TypeId) (x y : Operand) (pos : String) (aft : Array Edge) (g : Option (Nat × Bool)) :
    stepOp P loc σ ⟨d, .binOp op xt x y yt, ty, pos, aft, g⟩ = binA P σ ⟨d, .binOp op xt x y yt, ty, pos, aft, g⟩ op xt x y := by
  show binN P σ ⟨d, .binOp op xt x y yt, ty, pos, aft, g⟩ op xt x y = _
  have hno : ∀ u v, opnd σ x = some u → opnd σ y = some v → (∀ dd, nilEq dd u v = none) → binN P σ ⟨d, .binOp op xt x y yt, ty, pos, aft, g⟩ op xt x y = stepPure P σ ⟨d, .binOp op xt x y yt, ty, pos, aft, g⟩ := by
    intro u v hx hy hn
    unfold binN
    have : opNilC P σ op xt x y = none := by
      unfold opNilC
      rw [hx, hy]
      cases P.underlying xt with
      | none => rfl
      | some dd => simp only [hn]
    rw [this]
  unfold binA
  split
  · rename_i u v hx hy
    rw [hno _ _ hx hy (fun dd => by unfold nilEq; split <;> first | rfl | simp_all)]
    obtain ⟨u⟩ := u
    obtain ⟨v⟩ := v
    split
    · rename_i r hr
      obtain ⟨q1, q2, q3, q4, q5⟩ := aggI_run hr
      exact pure_bin (op := op) (xt := xt) (yt := yt) rfl hx hy (by simpa [flat2] using q4) (by simpa [flat2] using q5) (q1 _ _) q2 q3
    · rfl
  · rename_i k a k' b hx hy
    rw [hno _ _ hx hy (fun dd => by unfold nilEq; split <;> first | rfl | simp_all)]
    split
    · rename_i hk; subst hk
      split
      · rename_i v hv
        exact pure_bin (op := op) (xt := xt) (yt := yt) rfl hx hy rfl rfl (guard_int ..) (binI_run hv xt).1 (binI_run (P := P) hv xt).2
      · rfl
    · rfl
  · rename_i a b hx hy
    rw [hno _ _ hx hy (fun dd => by unfold nilEq; split <;> first | rfl | simp_all)]
    split
    · rename_i v hv
      exact pure_bin (op := op) (xt := xt) (yt := yt) rfl hx hy rfl rfl (guard_str ..) (strI_run hv xt).1 (strI_run (P := P) hv xt).2
    · rfl
  · rename_i a b hx hy
    rw [hno _ _ hx hy (fun dd => by unfold nilEq; split <;> first | rfl | simp_all)]
    split
    · rename_i v ht hv
      exact pure_bin (op := op) (xt := xt) (yt := yt) rfl hx hy rfl rfl (guard_bool ..) (boolI_run ht hv).1 (boolI_run (P := P) ht hv).2
    · rfl
  · rfl

/-- values of structs, compared: what is left to be shown of their type -/
def EqS (P : Program) (t : TypeId) (u v : List Value) (r : Bool) : Prop := (∀ x y op, (eqGuard op t x y (.agg ⟨u⟩) (.agg ⟨v⟩)).pureRun P = some ()) ∧ (Op.equal t (.agg ⟨u⟩) (.agg ⟨v⟩)).pureRun P = some r

def unA (P : Program) (σ : St) (o : Oper) (op : UnOp) (x : Operand) : Option (Value × St) := match op, opnd σ x with
  | .neg, some (.int k a) => some (.int k (k.wrap (0 - a)), σ)
  | .not, some (.bool b) => some (.bool (!b), σ)
  | _, _ => stepPure P σ o
theorem pure_un {o : Oper} {op : UnOp} {t : TypeId} {x : Operand} {u r : Value} (ho : o.op = .unOp op t x) (hx : opnd σ x = some u) (hu : flat2 u = true)
    (hr : (Op.unary op u).pureRun P = some r) (hf : flat2 r = true) : stepPure P σ o = some (r, σ) := by
  refine stepPure_of (by rw [ho]; simp [Op.operands, flatO_of hx hu]) (by rw [ho]; rfl) ?_ hf
  simp only [execOp, ho, evO_of hx]
  rw [pureRun_bind, hr]; rfl
theorem step_un (d : Option Nat) (op : UnOp) (t ty : TypeId) (x : Operand) (pos : String) (aft : Array Edge) (g : Option (Nat × Bool)) :
    stepOp P loc σ ⟨d, .unOp op t x, ty, pos, aft, g⟩ = unA P σ ⟨d, .unOp op t x, ty, pos, aft, g⟩ op x := by
  show stepPure P σ _ = _
  unfold unA
  split
  · rename_i k a hx
    exact pure_un (op := .neg) rfl hx rfl rfl rfl
  · rename_i b hx
    exact pure_un (op := .not) rfl hx rfl rfl rfl
  · rfl

def convA (P : Program) (σ : St) (o : Oper) (s t : TypeId) (x : Operand) : Option (Value × St) := match P.underlying s, P.underlying t, opnd σ x with
  | some _, some (.int k), some (.int _ n) => some (.int k (k.wrap n), σ)
  | _, _, _ => stepPure P σ o
theorem pureRun_underlying {t : TypeId} {d : TypeDesc} (h : P.underlying t = some d) : (underlying t).pureRun P = some d := by
  simp [underlying, pureRun_bind, pureRun_program, h, Sem.pureRun, pure]
theorem step_conv (d : Option Nat) (s t ty : TypeId) (x : Operand) (pos : String) (aft : Array Edge) (g : Option (Nat × Bool)) :
    stepOp P loc σ ⟨d, .convert s t x, ty, pos, aft, g⟩ = match opBytesStr P σ s t x with
      | some r => some r
      | none => convA P σ ⟨d, .convert s t x, ty, pos, aft, g⟩ s t x := by
  have key : stepPure P σ ⟨d, .convert s t x, ty, pos, aft, g⟩ = convA P σ ⟨d, .convert s t x, ty, pos, aft, g⟩ s t x := ?_
  · rw [← key]; rfl
  unfold convA
  split
  · rename_i e k k' n hs ht hx
    refine stepPure_of (by simp [Op.operands, flatO_of hx rfl]) rfl ?_ rfl
    simp only [execOp, evO_of hx, convert]
    simp only [pureRun_bind, pureRun_underlying hs, pureRun_underlying ht, Option.bind_some]
    cases e <;> rfl
  · rfl

def idxA (P : Program) (σ : St) (o : Oper) (t : TypeId) (x i : Operand) : Option (Value × St) := match P.underlying t, opnd σ x, opnd σ i with
  | some .string, some (.string s), some (.int _ n) => if 0 ≤ n then (match s[n.toNat]? with | some b => some (.int .u8 b.toNat, σ) | none => stepPure P σ o) else stepPure P σ o
  | _, _, _ => stepPure P σ o
theorem step_index (d : Option Nat) (t ty : TypeId) (x i : Operand) (pos : String) (aft : Array Edge) (g : Option (Nat × Bool)) :
    stepOp P loc σ ⟨d, .index t x i, ty, pos, aft, g⟩ = idxA P σ ⟨d, .index t x i, ty, pos, aft, g⟩ t x i := by
  show stepPure P σ _ = _
  unfold idxA
  split
  · rename_i s k n ht hx hi
    split
    · rename_i hn
      split
      · rename_i b hb
        refine stepPure_of (by simp [Op.operands, flatO_of hx rfl, flatO_of hi rfl]) rfl ?_ rfl
        simp only [execOp, evO_of hx, evO_of hi, Instr.index]
        simp only [pureRun_bind, pureRun_underlying ht, Option.bind_some, asIntOf, Sem.pureRun, pure, hn, if_true, hb]
      · rfl
    · rfl
  · rfl

def strBound (σ : St) (x : Option Operand) (dflt : Nat) : Option Nat := boundA σ x dflt
def sliceA (P : Program) (σ : St) (o : Oper) (t : TypeId) (x : Operand) (lo hi : Option Operand) : Option (Value × St) := match P.underlying t, opnd σ x with
  | some .string, some (.string s) => (match boundA σ lo 0, boundA σ hi s.size with
    | some l, some h => if l ≤ h ∧ h ≤ s.size then some (.string (s.extract l h), σ) else stepPure P σ o
    | _, _ => stepPure P σ o)
  | some .string, _ => stepPure P σ o
  | _, _ => opSlice P σ t x lo hi
theorem pure_bound {y n dflt : Nat} {c : BoundsCode} {i : Operand} (h : boundA σ (some i) dflt = some n) (hy : n ≤ y) : flatO σ i = true ∧ (Instr.sliceBound (evO σ i) y c).pureRun P = some n := by
  unfold boundA at h
  split at h
  · cases ‹some i = none›
  · rename_i j hj
    obtain rfl := Option.some.inj hj
    split at h
    · rename_i k z hz
      split at h
      · rename_i h0z
        obtain rfl := Option.some.inj h
        have hzy : z ≤ (y : Int) := by omega
        refine ⟨flatO_of hz rfl, ?_⟩
        simp [Instr.sliceBound, evO_of hz, asIntOf, h0z, hzy, pureRun_bind, Sem.pureRun, pure]
      · simp at h
    · simp at h
theorem step_slice (d : Option Nat) (t ty : TypeId) (x : Operand) (lo hi : Option Operand) (pos : String) (aft : Array Edge) (g : Option (Nat × Bool)) :
    stepOp P loc σ ⟨d, .slice t x lo hi none, ty, pos, aft, g⟩ = sliceA P σ ⟨d, .slice t x lo hi none, ty, pos, aft, g⟩ t x lo hi := by
  unfold sliceA
  show (match P.underlying t with | some .string => stepPure P σ _ | _ => opSlice P σ t x lo hi) = _
  split
  · rename_i ht
    split
    · rename_i s ht' hx
      split
      · rename_i l h hl hh
        split
        · rename_i hb
          refine stepPure_of ?_ rfl ?_ rfl
          · cases lo with
            | none => cases hi with
              | none => simp [Op.operands, flatO_of hx rfl]
              | some hi => simp [Op.operands, flatO_of hx rfl, (pure_bound (P := P) (c := .sliceB) hh (Nat.le_refl _)).1]
            | some lo => cases hi with
              | none => simp [Op.operands, flatO_of hx rfl, (pure_bound (P := P) (c := .sliceB) hl (Nat.le_refl _)).1]
              | some hi => simp [Op.operands, flatO_of hx rfl, (pure_bound (P := P) (c := .sliceB) hh (Nat.le_refl _)).1, (pure_bound (P := P) (c := .sliceB) hl (Nat.le_refl _)).1]
          · simp only [execOp, evO_of hx, Instr.sliceAt, Instr.slice]
            simp only [pureRun_bind, pureRun_underlying ht, Option.bind_some, Instr.sliceBounds, Option.map_none]
            have e1 : ∀ i, lo = some i → (Instr.sliceBound (evO σ i) h .sliceB).pureRun P = some l := fun i e => by subst e; exact (pure_bound hl hb.1).2
            have e2 : ∀ i, hi = some i → (Instr.sliceBound (evO σ i) s.size .sliceAlen).pureRun P = some h := fun i e => by subst e; exact (pure_bound hh hb.2).2
            cases lo with
            | none =>
              have : l = 0 := by simpa [boundA] using hl.symm
              subst this
              cases hi with
              | none =>
                have : h = s.size := by simpa [boundA] using hh.symm
                subst this
                simp [pureRun_bind, Sem.pureRun, pure]
              | some hi => simp [pureRun_bind, Sem.pureRun, pure, e2 hi rfl]
            | some lo => cases hi with
              | none =>
                have : h = s.size := by simpa [boundA] using hh.symm
                subst this
                simp [pureRun_bind, Sem.pureRun, pure, e1 lo rfl]
              | some hi => simp [pureRun_bind, Sem.pureRun, pure, e1 lo rfl, e2 hi rfl]
        · rfl
      · rfl
    · rfl
    · rename_i hno hne
      exact (hno ht).elim
  · rename_i hne
    split
    · rename_i z _; exact absurd z hne
    · rename_i z _; exact absurd z hne
    · rfl

def minA (P : Program) (σ : St) (o : Oper) (mx : Bool) (x y : Operand) : Option (Value × St) := match opnd σ x, opnd σ y with
  | some (.int k a), some (.int _ b) => some (.int k (if mx then (if a < b then b else a) else (if b < a then b else a)), σ)
  | _, _ => stepPure P σ o
theorem step_min (d : Option Nat) (x y : Operand) (ts : Array TypeId) (ty : TypeId) (pos : String) (aft : Array Edge) (g : Option (Nat × Bool)) :
    stepOp P loc σ ⟨d, .call ⟨.builtin .min, #[x, y], ts⟩, ty, pos, aft, g⟩ = minA P σ ⟨d, .call ⟨.builtin .min, #[x, y], ts⟩, ty, pos, aft, g⟩ false x y := by
  show stepPure P σ _ = _
  unfold minA
  split
  · rename_i k a k' b hx hy
    refine stepPure_of (by simp [Op.operands, Call.operands, flatO_of hx rfl, flatO_of hy rfl]) rfl ?_ rfl
    simp [execOp, resolve, invoke, builtin, evO_of hx, evO_of hy, Builtin.min_, Builtin.min2, pureRun_bind, Sem.pureRun, pure]
  · rfl
theorem step_max (d : Option Nat) (x y : Operand) (ts : Array TypeId) (ty : TypeId) (pos : String) (aft : Array Edge) (g : Option (Nat × Bool)) :
    stepOp P loc σ ⟨d, .call ⟨.builtin .max, #[x, y], ts⟩, ty, pos, aft, g⟩ = minA P σ ⟨d, .call ⟨.builtin .max, #[x, y], ts⟩, ty, pos, aft, g⟩ true x y := by
  show stepPure P σ _ = _
  unfold minA
  split
  · rename_i k a k' b hx hy
    refine stepPure_of (by simp [Op.operands, Call.operands, flatO_of hx rfl, flatO_of hy rfl]) rfl ?_ rfl
    simp [execOp, resolve, invoke, builtin, evO_of hx, evO_of hy, Builtin.max_, Builtin.max2, pureRun_bind, Sem.pureRun, pure]
  · rfl
end
end Go.Am
