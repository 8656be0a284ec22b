/- The abstract machine, part P: pure operations, told. -/
import Derived.Test.YtmmbndbpjanfhaaDoorAmO
import Derived.Laws.Strings
import Derived.Laws.StructEq
set_option linter.unusedVariables false
set_option linter.unusedSimpArgs false
set_option linter.unusedSectionVars false
namespace Go.Am
open Go

section
variable {P : Program} {loc : List Nat} {σ : St}

def andI (k : IntKind) (a b : Int) : Int := k.wrap ((BitVec.ofInt k.bits a &&& BitVec.ofInt k.bits b).toNat : Int)
def orI (k : IntKind) (a b : Int) : Int := k.wrap ((BitVec.ofInt k.bits a ||| BitVec.ofInt k.bits b).toNat : Int)
def xorI (k : IntKind) (a b : Int) : Int := k.wrap ((BitVec.ofInt k.bits a ^^^ BitVec.ofInt k.bits b).toNat : Int)
def notI (k : IntKind) (a b : Int) : Int := k.wrap ((BitVec.ofInt k.bits a &&& ~~~BitVec.ofInt k.bits b).toNat : Int)
def shlI (k : IntKind) (a b : Int) : Int := k.wrap (a * 2 ^ (min b.toNat k.bits))
def shrI (k : IntKind) (a b : Int) : Int := a.fdiv (2 ^ (min b.toNat k.bits))
theorem andI_1023 (n : Int) : andI .i64 n 1023 = n % 1024 := by
  have h : (BitVec.ofInt 64 n &&& BitVec.ofInt 64 1023).toNat = (n % 1024).toNat := by
    rw [BitVec.toNat_and]
    have e1 : (BitVec.ofInt 64 1023).toNat = 2 ^ 10 - 1 := by decide
    rw [e1, Nat.and_two_pow_sub_one_eq_mod, BitVec.toNat_ofInt]
    omega
  unfold andI
  show IntKind.wrap .i64 (((BitVec.ofInt 64 n &&& BitVec.ofInt 64 1023).toNat : Nat) : Int) = _
  rw [h]
  have e : IntKind.wrap .i64 ((((n % 1024).toNat : Nat)) : Int) = if ((((n % 1024).toNat : Nat) : Int) % 18446744073709551616 : Int) ≥ 9223372036854775808 then (((n % 1024).toNat : Nat) : Int) % 18446744073709551616 - 18446744073709551616 else (((n % 1024).toNat : Nat) : Int) % 18446744073709551616 := by
    simp [IntKind.wrap, IntKind.bits, IntKind.signed]
  rw [e]; split <;> omega
def binI (op : BinOp) (k : IntKind) (a b : Int) : Option Value := match op with
  | .and => some (.int k (andI k a b))
  | .or => some (.int k (orI k a b))
  | .xor => some (.int k (xorI k a b))
  | .andNot => some (.int k (notI k a b))
  | .shl => if b < 0 then none else some (.int k (shlI k a b))
  | .shr => if b < 0 then none else some (.int k (shrI k a b))
  | .add => some (.int k (k.wrap (a + b)))
  | .sub => some (.int k (k.wrap (a - b)))
  | .mul => some (.int k (k.wrap (a * b)))
  | .eql => some (.bool (decide (a = b)))
  | .neq => some (.bool (decide (a ≠ b)))
  | .lss => some (.bool (decide (a < b)))
  | .leq => some (.bool (decide (a ≤ b)))
  | .gtr => some (.bool (decide (b < a)))
  | .geq => some (.bool (decide (b ≤ a)))
  | .quo => if b = 0 then none else some (.int k (k.wrap (a.tdiv b)))
  | .rem => if b = 0 then none else some (.int k (a.tmod b))
/-- structs of whole numbers, texts and bools, compared -/
def eqL (P : Program) : List Field → List Value → List Value → Option Bool
  | [], _, _ => some true
  | f :: fs, xs, ys => if f.name = "_" then none else match P.underlying f.type, xs[f.offset]?, ys[f.offset]? with
    | some (.int _), some (.int k a), some (.int k' b) => if k = k' then (eqL P fs xs ys).map (decide (a = b) && ·) else none
    | some .string, some (.string a), some (.string b) => (eqL P fs xs ys).map (decide (a = b) && ·)
    | some .bool, some (.bool a), some (.bool b) => (eqL P fs xs ys).map ((a == b) && ·)
    | _, _, _ => none
def eqAgg (P : Program) (t : TypeId) (u v : List Value) : Option Bool :=
  if P.eqGuardType P.depth t = false ∧ P.stoodInHeld t = false ∧ u.all flat1 = true ∧ v.all flat1 = true then match P.underlying t with
    | some (.struct fs) => eqL P fs.toList u v
    | _ => none
  else none
def aggI (P : Program) (op : BinOp) (t : TypeId) (u v : List Value) : Option Value := match op with
  | .eql => (eqAgg P t u v).map fun r => .bool r
  | .neq => (eqAgg P t u v).map fun r => .bool (!r)
  | _ => none
def strI (op : BinOp) (a b : ByteArray) : Option Value := match op with
  | .add => if a.size + b.size ≤ 9223372036854775807 then some (.string (a ++ b)) else none
  | .eql => some (.bool (decide (a = b)))
  | .neq => some (.bool (decide (a ≠ b)))
  | _ => none
def boolI (op : BinOp) (a b : Bool) : Option Value := match op with
  | .eql => some (.bool (a == b))
  | .neq => some (.bool (!(a == b)))
  | _ => none
def binN (P : Program) (σ : St) (o : Oper) (op : BinOp) (xt : TypeId) (x y : Operand) : Option (Value × St) := match opNilC P σ op xt x y with
  | some r => some r
  | none => stepPure P σ o
def binA (P : Program) (σ : St) (o : Oper) (op : BinOp) (xt : TypeId) (x y : Operand) : Option (Value × St) := match opnd σ x, opnd σ y with
  | some (.agg u), some (.agg v) => (match aggI P op xt u.toList v.toList with | some v => some (v, σ) | none => stepPure P σ o)
  | some (.int k a), some (.int k' b) => if k = k' then (match binI op k a b with | some v => some (v, σ) | none => stepPure P σ o) else stepPure P σ o
  | some (.string a), some (.string b) => (match strI op a b with | some v => some (v, σ) | none => stepPure P σ o)
  | some (.bool a), some (.bool b) => (match P.underlying xt, boolI op a b with | some .bool, some v => some (v, σ) | _, _ => stepPure P σ o)
  | _, _ => binN P σ o op xt x y
theorem stepPure_of {o : Oper} {v : Value} (hall : o.op.operands.toList.all (flatO σ) = true) (hsel : isSelect o.op = false) (hr : (execOp (evO σ) o).pureRun P = some (.value v)) (hv : flat2 v = true) : stepPure P σ o = some (v, σ) := by
  simp [stepPure, pureOp, hall, hsel, hr, hv]
theorem flatO_of {x : Operand} {v : Value} (h : opnd σ x = some v) (hv : flat2 v = true) : flatO σ x = true := by simp [flatO, h, hv]
theorem evO_of {x : Operand} {v : Value} (h : opnd σ x = some v) : evO σ x = v := by simp [evO, h]
theorem ba_eq (a b : ByteArray) : (a.toList == b.toList) = decide (a = b) := by
  rw [ByteArray.toList_eq, ByteArray.toList_eq, Bool.eq_iff_iff]
  simp only [beq_iff_eq, decide_eq_true_eq]
  constructor
  · intro h; apply ByteArray.ext; exact Array.ext' h
  · intro h; rw [h]
theorem ba_beq (a b : ByteArray) : (a == b) = decide (a = b) := by rw [beq_toListBytes, ba_eq]
theorem pure_bin {o : Oper} {op : BinOp} {xt yt : TypeId} {x y : Operand} {u v : Value} {r : Value} (ho : o.op = .binOp op xt x y yt) (hx : opnd σ x = some u) (hy : opnd σ y = some v) (hu : flat2 u = true) (hv : flat2 v = true)
    (hg : (eqGuard op xt x y u v).pureRun P = some ()) (hr : (binOp op xt u v).pureRun P = some r) (hf : flat2 r = true) : stepPure P σ o = some (r, σ) := by
  refine stepPure_of (by rw [ho]; simp [Op.operands, flatO_of hx hu, flatO_of hy hv]) (by rw [ho]; rfl) ?_ hf
  simp only [execOp, ho, evO_of hx, evO_of hy]
  rw [pureRun_bind, pureRun_bind, hg]
  simp only [Option.bind_some, hr]
  rfl
theorem guard_int (op : BinOp) (xt : TypeId) (x y : Operand) (k k' : IntKind) (a b : Int) : (eqGuard op xt x y (.int k a) (.int k' b)).pureRun P = some () := by
  unfold eqGuard; split <;> rfl
theorem guard_str (op : BinOp) (xt : TypeId) (x y : Operand) (a b : ByteArray) : (eqGuard op xt x y (.string a) (.string b)).pureRun P = some () := by
  unfold eqGuard; split <;> rfl
theorem binI_run {op : BinOp} {k : IntKind} {a b : Int} {v : Value} (h : binI op k a b = some v) (xt : TypeId) : (binOp op xt (.int k a) (.int k b)).pureRun P = some v ∧ flat2 v = true := by
  cases op <;> simp only [binI, Option.some.injEq, reduceCtorEq, Option.ite_none_left_eq_some] at h <;> first
    | (subst h; refine ⟨?_, rfl⟩; simp [binOp, Op.intArith, Op.intCmp, Sem.pureRun, pure, Bool.beq_eq_decide_eq, bne]; done)
    | (obtain ⟨h0, h⟩ := h; subst h; refine ⟨?_, rfl⟩; simp [binOp, Op.intDiv, h0, Sem.pureRun, pure]; done)
    | (subst h; refine ⟨?_, rfl⟩; simp [binOp, Op.intBits, andI, orI, xorI, notI, Sem.pureRun, pure]; done)
    | (obtain ⟨h0, h⟩ := h; subst h; refine ⟨?_, rfl⟩; simp [binOp, Op.shift, shlI, shrI, h0, Sem.pureRun, pure]; done)
theorem part_flat {t : TypeId} {d : TypeDesc} {cs : List Value} {off : Nat} {v : Value} (hu : P.underlying t = some d) (hd : (match d with | .struct _ | .array _ _ => false | _ => true) = true) (hv : cs[off]? = some v) : (part t ⟨cs⟩ off).pureRun P = some v := by
  have : (isAgg t).pureRun P = some false := by
    simp only [isAgg, pureRun_bind, underlying, pureRun_program, Option.bind_some, hu]
    cases d <;> simp_all [Sem.pureRun, pure]
  simp [part, pureRun_bind, this, Sem.pureRun, pure, hv]
theorem pureRun_under {t : TypeId} {d : TypeDesc} (h : P.underlying t = some d) : (underlying t).pureRun P = some d := by
  simp [underlying, pureRun_bind, pureRun_program, h, Sem.pureRun, pure]
theorem eqL_run (d : Nat) : ∀ (fs : List Field) (xs ys : List Value) (r : Bool), eqL P fs xs ys = some r → (Op.eqFields (d + 1) ⟨xs⟩ ⟨ys⟩ fs).pureRun P = some r := by
  intro fs
  induction fs with
  | nil => intro xs ys r h; simp only [eqL, Option.some.injEq] at h; subst h; rfl
  | cons f fs ih =>
    intro xs ys r h
    rw [eqL] at h
    split at h
    · simp at h
    · rename_i hn
      rw [Op.eqFields, if_pos hn]
      split at h
      · rename_i k0 k a k' b hu hx hy
        split at h
        · rename_i hk; subst hk
          obtain ⟨r', h1, h2⟩ := Option.map_eq_some_iff.1 h
          rw [pureRun_bind, part_flat hu rfl hx, Option.bind_some, pureRun_bind, part_flat hu rfl hy, Option.bind_some, pureRun_bind]
          simp only [Op.equalIn, pureRun_bind, pureRun_under hu, Option.bind_some, if_true, Sem.pureRun, pure]
          by_cases hab : a = b
          · subst hab; simp only [beq_self_eq_true, Bool.not_true, Bool.false_eq_true, if_false, decide_true, Bool.true_and] at h2 ⊢; rw [← h2]; exact ih xs ys r' h1
          · have e : r = false := by rw [← h2]; simp [hab]
            subst e; simp [hab, Sem.pureRun]
        · simp at h
      · rename_i a b hu hx hy
        obtain ⟨r', h1, h2⟩ := Option.map_eq_some_iff.1 h
        rw [pureRun_bind, part_flat hu rfl hx, Option.bind_some, pureRun_bind, part_flat hu rfl hy, Option.bind_some, pureRun_bind]
        simp only [Op.equalIn, pureRun_bind, pureRun_under hu, Option.bind_some, Sem.pureRun, pure, ba_beq]
        by_cases hab : a = b
        · subst hab
          have e : r = r' := by rw [← h2]; simp
          rw [e]; simpa using ih xs ys r' h1
        · have e : r = false := by rw [← h2]; simp [hab]
          subst e; simp [hab, Sem.pureRun]
      · rename_i a b hu hx hy
        obtain ⟨r', h1, h2⟩ := Option.map_eq_some_iff.1 h
        rw [pureRun_bind, part_flat hu rfl hx, Option.bind_some, pureRun_bind, part_flat hu rfl hy, Option.bind_some, pureRun_bind]
        simp only [Op.equalIn, pureRun_bind, pureRun_under hu, Option.bind_some, Sem.pureRun, pure]
        by_cases hab : a = b
        · subst hab
          have e : r = r' := by rw [← h2]; simp
          rw [e]; simpa using ih xs ys r' h1
        · have e : r = false := by rw [← h2]; simp [hab]
          subst e; simp [hab, Sem.pureRun]
      · simp at h
theorem eqStruct_pure (d : Nat) (t : TypeId) (xs ys : Array Value) (fs : Array Field) (ht : P.underlying t = some (.struct fs)) (hp : P.stoodInHeld t = false) :
    (Op.equalIn (d + 1) t (.agg xs) (.agg ys)).pureRun P = (Op.eqFields d xs ys fs.toList).pureRun P := by
  simp only [Op.equalIn, pureRun_bind, pureRun_under ht, Option.bind_some, pureRun_program, hp, Bool.false_eq_true, if_false]
  rw [← Array.forIn_toList]
  generalize fs.toList = fs
  induction fs with
  | nil => rfl
  | cons f fs ih =>
    simp only [List.forIn_cons, Op.eqFields]
    by_cases hn : f.name ≠ "_"
    · simp only [if_pos hn, pureRun_bind]
      generalize (part f.type xs f.offset).pureRun P = r1
      cases r1 with
      | none => rfl
      | some a =>
        simp only [Option.bind_some]
        generalize (part f.type ys f.offset).pureRun P = r2
        cases r2 with
        | none => rfl
        | some b =>
          simp only [Option.bind_some]
          generalize (Op.equalIn d f.type a b).pureRun P = r3
          cases r3 with
          | none => rfl
          | some r =>
            cases r
            · rfl
            · simpa [pureRun_bind, Sem.pureRun, pure] using ih
    · simp only [if_neg hn]
      simpa [pureRun_bind, Sem.pureRun, pure] using ih
theorem eqAgg_run {t : TypeId} {u v : List Value} {r : Bool} (h : eqAgg P t u v = some r) : (∀ op x y, (eqGuard op t x y (.agg ⟨u⟩) (.agg ⟨v⟩)).pureRun P = some ()) ∧ (Op.equal t (.agg ⟨u⟩) (.agg ⟨v⟩)).pureRun P = some r ∧ u.all flat1 = true ∧ v.all flat1 = true := by
  unfold eqAgg at h
  split at h
  rotate_left
  · simp at h
  rename_i hc
  obtain ⟨c1, c2, c3, c4⟩ := hc
  split at h
  rotate_left
  · simp at h
  rename_i fs hu
  refine ⟨fun op x y => ?_, ?_, c3, c4⟩
  · cases op <;> first | rfl | simp [eqGuard, pureRun_bind, pureRun_program, c1, Sem.pureRun, pure]
  · show (Op.equalIn (9999 + 1) t _ _).pureRun P = _
    rw [eqStruct_pure 9999 t _ _ fs hu c2]
    exact eqL_run 9998 _ _ _ _ h
theorem aggI_run {op : BinOp} {t : TypeId} {u v : List Value} {r : Value} (h : aggI P op t u v = some r) : (∀ x y, (eqGuard op t x y (.agg ⟨u⟩) (.agg ⟨v⟩)).pureRun P = some ()) ∧ (binOp op t (.agg ⟨u⟩) (.agg ⟨v⟩)).pureRun P = some r ∧ flat2 r = true ∧ u.all flat1 = true ∧ v.all flat1 = true := by
  cases op <;> simp only [aggI, reduceCtorEq] at h
  · obtain ⟨b, h1, rfl⟩ := Option.map_eq_some_iff.1 h
    obtain ⟨q1, q2, q3, q4⟩ := eqAgg_run h1
    exact ⟨q1 _, by simp [binOp, pureRun_bind, q2, Sem.pureRun, pure], rfl, q3, q4⟩
  · obtain ⟨b, h1, rfl⟩ := Option.map_eq_some_iff.1 h
    obtain ⟨q1, q2, q3, q4⟩ := eqAgg_run h1
    exact ⟨q1 _, by simp [binOp, pureRun_bind, q2, Sem.pureRun, pure], rfl, q3, q4⟩
theorem strI_run {op : BinOp} {a b : ByteArray} {v : Value} (h : strI op a b = some v) (xt : TypeId) : (binOp op xt (.string a) (.string b)).pureRun P = some v ∧ flat2 v = true := by
  unfold strI at h
  split at h
  · split at h
    · rename_i hle
      obtain rfl := Option.some.inj h
      have : ¬ (((a.size + b.size : Nat) : Int) > IntKind.i64.max) := by
        have : IntKind.i64.max = 9223372036854775807 := by decide
        rw [this]; omega
      refine ⟨?_, rfl⟩
      simp only [binOp, Op.stringOp, if_neg this]; rfl
    · simp at h
  · obtain rfl := Option.some.inj h; refine ⟨?_, rfl⟩; simp [binOp, Op.stringOp, Sem.pureRun, pure, ba_eq]
  · obtain rfl := Option.some.inj h; refine ⟨?_, rfl⟩; simp [binOp, Op.stringOp, Sem.pureRun, pure, ba_eq]
  · simp at h
theorem boolI_run {op : BinOp} {a b : Bool} {v : Value} {xt : TypeId} (ht : P.underlying xt = some .bool) (h : boolI op a b = some v) : (binOp op xt (.bool a) (.bool b)).pureRun P = some v ∧ flat2 v = true := by
  have key : ∀ n, (Op.equalIn (n + 1) xt (.bool a) (.bool b)).pureRun P = some (a == b) := by
    intro n
    simp [Op.equalIn, pureRun_bind, pureRun_under ht, Sem.pureRun, pure]
  have he : (Op.equal xt (.bool a) (.bool b)).pureRun P = some (a == b) := key 9999
  clear key
  cases op <;> simp only [boolI, Option.some.injEq, reduceCtorEq] at h
  · subst h
    refine ⟨?_, rfl⟩
    show (do pure (.bool (← Op.equal xt (.bool a) (.bool b))) : Sem Value).pureRun P = _
    rw [pureRun_bind, he]; simp [Sem.pureRun, pure, Bool.beq_eq_decide_eq]
  · subst h
    refine ⟨?_, rfl⟩
    show (do pure (.bool (!(← Op.equal xt (.bool a) (.bool b)))) : Sem Value).pureRun P = _
    rw [pureRun_bind, he]; simp [Sem.pureRun, pure, Bool.beq_eq_decide_eq]
theorem guard_bool (op : BinOp) (xt : TypeId) (x y : Operand) (a b : Bool) : (eqGuard op xt x y (.bool a) (.bool b)).pureRun P = some () := by
  unfold eqGuard; split <;> rfl
theorem step_bin (d : Option Nat) (op : BinOp) (xt yt ty : TypeId) (x y : Operand) (pos : String) (aft : Array Edge) (g : Option (Nat × Bool)) :
    stepOp P loc σ ⟨d, .binOp op xt x y yt, ty, pos, aft, g⟩ = binA P σ ⟨d, .binOp op xt x y yt, ty, pos, aft, g⟩ op xt x y := by
  show binN P σ ⟨d, .binOp op xt x y yt, ty, pos, aft, g⟩ op xt x y = _
  have hno : ∀ u v, opnd σ x = some u → opnd σ y = some v → (∀ dd, nilEq dd u v = none) → binN P σ ⟨d, .binOp op xt x y yt, ty, pos, aft, g⟩ op xt x y = stepPure P σ ⟨d, .binOp op xt x y yt, ty, pos, aft, g⟩ := by
    intro u v hx hy hn
    unfold binN
    have : opNilC P σ op xt x y = none := by
      unfold opNilC
      rw [hx, hy]
      cases P.underlying xt with
      | none => rfl
      | some dd => simp only [hn]
    rw [this]
  unfold binA
  split
  · rename_i u v hx hy
    rw [hno _ _ hx hy (fun dd => by unfold nilEq; split <;> first | rfl | simp_all)]
    obtain ⟨u⟩ := u
    obtain ⟨v⟩ := v
    split
    · rename_i r hr
      obtain ⟨q1, q2, q3, q4, q5⟩ := aggI_run hr
      exact pure_bin (op := op) (xt := xt) (yt := yt) rfl hx hy (by simpa [flat2] using q4) (by simpa [flat2] using q5) (q1 _ _) q2 q3
    · rfl
  · rename_i k a k' b hx hy
    rw [hno _ _ hx hy (fun dd => by unfold nilEq; split <;> first | rfl | simp_all)]
    split
    · rename_i hk; subst hk
      split
      · rename_i v hv
        exact pure_bin (op := op) (xt := xt) (yt := yt) rfl hx hy rfl rfl (guard_int ..) (binI_run hv xt).1 (binI_run (P := P) hv xt).2
      · rfl
    · rfl
  · rename_i a b hx hy
    rw [hno _ _ hx hy (fun dd => by unfold nilEq; split <;> first | rfl | simp_all)]
    split
    · rename_i v hv
      exact pure_bin (op := op) (xt := xt) (yt := yt) rfl hx hy rfl rfl (guard_str ..) (strI_run hv xt).1 (strI_run (P := P) hv xt).2
    · rfl
  · rename_i a b hx hy
    rw [hno _ _ hx hy (fun dd => by unfold nilEq; split <;> first | rfl | simp_all)]
    split
    · rename_i v ht hv
      exact pure_bin (op := op) (xt := xt) (yt := yt) rfl hx hy rfl rfl (guard_bool ..) (boolI_run ht hv).1 (boolI_run (P := P) ht hv).2
    · rfl
  · rfl

/-- values of structs, compared: what is left to be shown of their type -/
def EqS (P : Program) (t : TypeId) (u v : List Value) (r : Bool) : Prop := (∀ x y op, (eqGuard op t x y (.agg ⟨u⟩) (.agg ⟨v⟩)).pureRun P = some ()) ∧ (Op.equal t (.agg ⟨u⟩) (.agg ⟨v⟩)).pureRun P = some r

def unA (P : Program) (σ : St) (o : Oper) (op : UnOp) (x : Operand) : Option (Value × St) := match op, opnd σ x with
  | .neg, some (.int k a) => some (.int k (k.wrap (0 - a)), σ)
  | .not, some (.bool b) => some (.bool (!b), σ)
  | _, _ => stepPure P σ o
theorem pure_un {o : Oper} {op : UnOp} {t : TypeId} {x : Operand} {u r : Value} (ho : o.op = .unOp op t x) (hx : opnd σ x = some u) (hu : flat2 u = true)
    (hr : (Op.unary op u).pureRun P = some r) (hf : flat2 r = true) : stepPure P σ o = some (r, σ) := by
  refine stepPure_of (by rw [ho]; simp [Op.operands, flatO_of hx hu]) (by rw [ho]; rfl) ?_ hf
  simp only [execOp, ho, evO_of hx]
  rw [pureRun_bind, hr]; rfl
theorem step_un (d : Option Nat) (op : UnOp) (t ty : TypeId) (x : Operand) (pos : String) (aft : Array Edge) (g : Option (Nat × Bool)) :
    stepOp P loc σ ⟨d, .unOp op t x, ty, pos, aft, g⟩ = unA P σ ⟨d, .unOp op t x, ty, pos, aft, g⟩ op x := by
  show stepPure P σ _ = _
  unfold unA
  split
  · rename_i k a hx
    exact pure_un (op := .neg) rfl hx rfl rfl rfl
  · rename_i b hx
    exact pure_un (op := .not) rfl hx rfl rfl rfl
  · rfl

def convA (P : Program) (σ : St) (o : Oper) (s t : TypeId) (x : Operand) : Option (Value × St) := match P.underlying s, P.underlying t, opnd σ x with
  | some _, some (.int k), some (.int _ n) => some (.int k (k.wrap n), σ)
  | _, _, _ => stepPure P σ o
theorem pureRun_underlying {t : TypeId} {d : TypeDesc} (h : P.underlying t = some d) : (underlying t).pureRun P = some d := by
  simp [underlying, pureRun_bind, pureRun_program, h, Sem.pureRun, pure]
theorem step_conv (d : Option Nat) (s t ty : TypeId) (x : Operand) (pos : String) (aft : Array Edge) (g : Option (Nat × Bool)) :
    stepOp P loc σ ⟨d, .convert s t x, ty, pos, aft, g⟩ = convA P σ ⟨d, .convert s t x, ty, pos, aft, g⟩ s t x := by
  show stepPure P σ _ = _
  unfold convA
  split
  · rename_i e k k' n hs ht hx
    refine stepPure_of (by simp [Op.operands, flatO_of hx rfl]) rfl ?_ rfl
    simp only [execOp, evO_of hx, convert]
    simp only [pureRun_bind, pureRun_underlying hs, pureRun_underlying ht, Option.bind_some]
    cases e <;> rfl
  · rfl

def idxA (P : Program) (σ : St) (o : Oper) (t : TypeId) (x i : Operand) : Option (Value × St) := match P.underlying t, opnd σ x, opnd σ i with
  | some .string, some (.string s), some (.int _ n) => if 0 ≤ n then (match s[n.toNat]? with | some b => some (.int .u8 b.toNat, σ) | none => stepPure P σ o) else stepPure P σ o
  | _, _, _ => stepPure P σ o
theorem step_index (d : Option Nat) (t ty : TypeId) (x i : Operand) (pos : String) (aft : Array Edge) (g : Option (Nat × Bool)) :
    stepOp P loc σ ⟨d, .index t x i, ty, pos, aft, g⟩ = idxA P σ ⟨d, .index t x i, ty, pos, aft, g⟩ t x i := by
  show stepPure P σ _ = _
  unfold idxA
  split
  · rename_i s k n ht hx hi
    split
    · rename_i hn
      split
      · rename_i b hb
        refine stepPure_of (by simp [Op.operands, flatO_of hx rfl, flatO_of hi rfl]) rfl ?_ rfl
        simp only [execOp, evO_of hx, evO_of hi, Instr.index]
        simp only [pureRun_bind, pureRun_underlying ht, Option.bind_some, asIntOf, Sem.pureRun, pure, hn, if_true, hb]
      · rfl
    · rfl
  · rfl

def strBound (σ : St) (x : Option Operand) (dflt : Nat) : Option Nat := boundA σ x dflt
def sliceA (P : Program) (σ : St) (o : Oper) (t : TypeId) (x : Operand) (lo hi : Option Operand) : Option (Value × St) := match P.underlying t, opnd σ x with
  | some .string, some (.string s) => (match boundA σ lo 0, boundA σ hi s.size with
    | some l, some h => if l ≤ h ∧ h ≤ s.size then some (.string (s.extract l h), σ) else stepPure P σ o
    | _, _ => stepPure P σ o)
  | some .string, _ => stepPure P σ o
  | _, _ => opSlice P σ t x lo hi
theorem pure_bound {y n dflt : Nat} {c : BoundsCode} {i : Operand} (h : boundA σ (some i) dflt = some n) (hy : n ≤ y) : flatO σ i = true ∧ (Instr.sliceBound (evO σ i) y c).pureRun P = some n := by
  unfold boundA at h
  split at h
  · cases ‹some i = none›
  · rename_i j hj
    obtain rfl := Option.some.inj hj
    split at h
    · rename_i k z hz
      split at h
      · rename_i h0z
        obtain rfl := Option.some.inj h
        have hzy : z ≤ (y : Int) := by omega
        refine ⟨flatO_of hz rfl, ?_⟩
        simp [Instr.sliceBound, evO_of hz, asIntOf, h0z, hzy, pureRun_bind, Sem.pureRun, pure]
      · simp at h
    · simp at h
theorem step_slice (d : Option Nat) (t ty : TypeId) (x : Operand) (lo hi : Option Operand) (pos : String) (aft : Array Edge) (g : Option (Nat × Bool)) :
    stepOp P loc σ ⟨d, .slice t x lo hi none, ty, pos, aft, g⟩ = sliceA P σ ⟨d, .slice t x lo hi none, ty, pos, aft, g⟩ t x lo hi := by
  unfold sliceA
  show (match P.underlying t with | some .string => stepPure P σ _ | _ => opSlice P σ t x lo hi) = _
  split
  · rename_i ht
    split
    · rename_i s ht' hx
      split
      · rename_i l h hl hh
        split
        · rename_i hb
          refine stepPure_of ?_ rfl ?_ rfl
          · cases lo with
            | none => cases hi with
              | none => simp [Op.operands, flatO_of hx rfl]
              | some hi => simp [Op.operands, flatO_of hx rfl, (pure_bound (P := P) (c := .sliceB) hh (Nat.le_refl _)).1]
            | some lo => cases hi with
              | none => simp [Op.operands, flatO_of hx rfl, (pure_bound (P := P) (c := .sliceB) hl (Nat.le_refl _)).1]
              | some hi => simp [Op.operands, flatO_of hx rfl, (pure_bound (P := P) (c := .sliceB) hh (Nat.le_refl _)).1, (pure_bound (P := P) (c := .sliceB) hl (Nat.le_refl _)).1]
          · simp only [execOp, evO_of hx, Instr.sliceAt, Instr.slice]
            simp only [pureRun_bind, pureRun_underlying ht, Option.bind_some, Instr.sliceBounds, Option.map_none]
            have e1 : ∀ i, lo = some i → (Instr.sliceBound (evO σ i) h .sliceB).pureRun P = some l := fun i e => by subst e; exact (pure_bound hl hb.1).2
            have e2 : ∀ i, hi = some i → (Instr.sliceBound (evO σ i) s.size .sliceAlen).pureRun P = some h := fun i e => by subst e; exact (pure_bound hh hb.2).2
            cases lo with
            | none =>
              have : l = 0 := by simpa [boundA] using hl.symm
              subst this
              cases hi with
              | none =>
                have : h = s.size := by simpa [boundA] using hh.symm
                subst this
                simp [pureRun_bind, Sem.pureRun, pure]
              | some hi => simp [pureRun_bind, Sem.pureRun, pure, e2 hi rfl]
            | some lo => cases hi with
              | none =>
                have : h = s.size := by simpa [boundA] using hh.symm
                subst this
                simp [pureRun_bind, Sem.pureRun, pure, e1 lo rfl]
              | some hi => simp [pureRun_bind, Sem.pureRun, pure, e1 lo rfl, e2 hi rfl]
        · rfl
      · rfl
    · rfl
    · rename_i hno hne
      exact (hno ht).elim
  · rename_i hne
    split
    · rename_i z _; exact absurd z hne
    · rename_i z _; exact absurd z hne
    · rfl

def minA (P : Program) (σ : St) (o : Oper) (mx : Bool) (x y : Operand) : Option (Value × St) := match opnd σ x, opnd σ y with
  | some (.int k a), some (.int _ b) => some (.int k (if mx then (if a < b then b else a) else (if b < a then b else a)), σ)
  | _, _ => stepPure P σ o
theorem step_min (d : Option Nat) (x y : Operand) (ts : Array TypeId) (ty : TypeId) (pos : String) (aft : Array Edge) (g : Option (Nat × Bool)) :
    stepOp P loc σ ⟨d, .call ⟨.builtin .min, #[x, y], ts⟩, ty, pos, aft, g⟩ = minA P σ ⟨d, .call ⟨.builtin .min, #[x, y], ts⟩, ty, pos, aft, g⟩ false x y := by
  show stepPure P σ _ = _
  unfold minA
  split
  · rename_i k a k' b hx hy
    refine stepPure_of (by simp [Op.operands, Call.operands, flatO_of hx rfl, flatO_of hy rfl]) rfl ?_ rfl
    simp [execOp, resolve, invoke, builtin, evO_of hx, evO_of hy, Builtin.min_, Builtin.min2, pureRun_bind, Sem.pureRun, pure]
  · rfl
theorem step_max (d : Option Nat) (x y : Operand) (ts : Array TypeId) (ty : TypeId) (pos : String) (aft : Array Edge) (g : Option (Nat × Bool)) :
    stepOp P loc σ ⟨d, .call ⟨.builtin .max, #[x, y], ts⟩, ty, pos, aft, g⟩ = minA P σ ⟨d, .call ⟨.builtin .max, #[x, y], ts⟩, ty, pos, aft, g⟩ true x y := by
  show stepPure P σ _ = _
  unfold minA
  split
  · rename_i k a k' b hx hy
    refine stepPure_of (by simp [Op.operands, Call.operands, flatO_of hx rfl, flatO_of hy rfl]) rfl ?_ rfl
    simp [execOp, resolve, invoke, builtin, evO_of hx, evO_of hy, Builtin.max_, Builtin.max2, pureRun_bind, Sem.pureRun, pure]
  · rfl
end
end Go.Am
