import Derived.Test.YthglohpeijfcfaaGreatDoorMb
import Derived.Below
set_option linter.unusedVariables false
set_option linter.unusedSimpArgs false
set_option linter.unusedSectionVars false
set_option linter.constructorNameAsVariable false
/- The abstract machine, part Q: the rules by which a body is walked. -/
namespace Go.Am
open Go

section
variable {P : Program} {loc : List Nat} {σ : St} {cfg : Cfg} {ops : Array Oper} {Bd : Nat → Nat → Bool}
variable (d : Option Nat) (ty : TypeId) (pos : String) (aft : Array Edge) (g : Option (Nat × Bool))
theorem step_move (x : Operand) : stepOp P loc σ ⟨d, .move x, ty, pos, aft, g⟩ = opMove σ x := rfl
theorem step_assign (x : Operand) : stepOp P loc σ ⟨d, .assign x, ty, pos, aft, g⟩ = opMove σ x := rfl
theorem step_pick (c x y : Operand) : stepOp P loc σ ⟨d, .pick c x y, ty, pos, aft, g⟩ = opPick σ c x y := rfl
theorem step_load (t : TypeId) (x : Operand) : stepOp P loc σ ⟨d, .load t x, ty, pos, aft, g⟩ = opLoad P σ t x := rfl
theorem step_store (t : TypeId) (x y : Operand) : stepOp P loc σ ⟨d, .store t x y, ty, pos, aft, g⟩ = opStore P σ t x y := rfl
theorem step_alloc (t : TypeId) : stepOp P loc σ ⟨d, .alloc t, ty, pos, aft, g⟩ = opAlloc P loc σ d t := rfl
theorem step_box (t : TypeId) (x : Operand) : stepOp P loc σ ⟨d, .box t x, ty, pos, aft, g⟩ = opBox loc σ d t x := rfl
theorem step_build (t : TypeId) (ps : Array (Nat × Operand)) : stepOp P loc σ ⟨d, .build t ps, ty, pos, aft, g⟩ = opBuild P σ t ps := rfl
theorem step_buildSlice (t : TypeId) (n : Nat) (ps : Array (Nat × Operand)) : stepOp P loc σ ⟨d, .buildSlice t n ps, ty, pos, aft, g⟩ = opBuildSlice P σ t n ps := rfl
theorem step_fieldAddr (s : TypeId) (x : Operand) (f : Nat) : stepOp P loc σ ⟨d, .fieldAddr s x f, ty, pos, aft, g⟩ = opFieldAddr P σ s x f := rfl
theorem step_field (s : TypeId) (x : Operand) (f : Nat) : stepOp P loc σ ⟨d, .field s x f, ty, pos, aft, g⟩ = opField P σ s x f := rfl
theorem step_indexAddr (t : TypeId) (x i : Operand) : stepOp P loc σ ⟨d, .indexAddr t x i, ty, pos, aft, g⟩ = opIndexAddr P σ t x i := rfl
theorem step_extract (x : Operand) (k : Nat) : stepOp P loc σ ⟨d, .extract x k, ty, pos, aft, g⟩ = opExtract σ x k := rfl
theorem step_makeInterface (t : TypeId) (x : Operand) : stepOp P loc σ ⟨d, .makeInterface t x, ty, pos, aft, g⟩ = opMakeIface P σ t x := rfl
theorem step_makeFunc (fn : Fn) (a b : Array Operand) : stepOp P loc σ ⟨d, .makeFunc fn a b, ty, pos, aft, g⟩ = opMakeFunc σ fn a b := rfl
theorem step_nilCheck (x : Operand) : stepOp P loc σ ⟨d, .nilCheck x, ty, pos, aft, g⟩ = opNilCheck σ x := rfl
theorem step_makeSlice (t : TypeId) (a b : Operand) : stepOp P loc σ ⟨d, .makeSlice t a b, ty, pos, aft, g⟩ = opMakeSlice P σ t a b := rfl
theorem step_range (t : TypeId) (x : Operand) : stepOp P loc σ ⟨d, .range t x, ty, pos, aft, g⟩ = opRange P σ t x := rfl
theorem step_next (x : Operand) : stepOp P loc σ ⟨d, .next x true, ty, pos, aft, g⟩ = opNextS σ x := rfl
theorem step_len (x : Operand) (t : TypeId) : stepOp P loc σ ⟨d, .call ⟨.builtin .len, #[x], #[t]⟩, ty, pos, aft, g⟩ = opLen P σ t x := rfl
theorem step_append (s x : Operand) (t u : TypeId) : stepOp P loc σ ⟨d, .call ⟨.builtin .append, #[s, x], #[t, u]⟩, ty, pos, aft, g⟩ = opAppend P σ t u s x := rfl
theorem step_copy (s x : Operand) (t u : TypeId) : stepOp P loc σ ⟨d, .call ⟨.builtin .copy, #[s, x], #[t, u]⟩, ty, pos, aft, g⟩ = opCopyStr P σ t s x := rfl

/-! calls -/
theorem call_value (f : Operand) (as : Array Operand) (ts : Array TypeId) : callOf σ ⟨d, .call ⟨.value f, as, ts⟩, ty, pos, aft, g⟩ = (match opnd σ f, as.toList.mapM (opnd σ) with
    | some (.func (.func fid) first cap), some l => if l.all noLoc then some (fid, first.toList ++ l ++ cap.toList) else none
    | _, _ => none) := rfl
theorem call_builtin (b : Builtin) (as : Array Operand) (ts : Array TypeId) : callOf σ ⟨d, .call ⟨.builtin b, as, ts⟩, ty, pos, aft, g⟩ = none := rfl
theorem call_move (x : Operand) : callOf σ ⟨d, .move x, ty, pos, aft, g⟩ = none := rfl
theorem call_assign (x : Operand) : callOf σ ⟨d, .assign x, ty, pos, aft, g⟩ = none := rfl
theorem call_pick (c x y : Operand) : callOf σ ⟨d, .pick c x y, ty, pos, aft, g⟩ = none := rfl
theorem call_load (t : TypeId) (x : Operand) : callOf σ ⟨d, .load t x, ty, pos, aft, g⟩ = none := rfl
theorem call_store (t : TypeId) (x y : Operand) : callOf σ ⟨d, .store t x y, ty, pos, aft, g⟩ = none := rfl
theorem call_alloc (t : TypeId) : callOf σ ⟨d, .alloc t, ty, pos, aft, g⟩ = none := rfl
theorem call_box (t : TypeId) (x : Operand) : callOf σ ⟨d, .box t x, ty, pos, aft, g⟩ = none := rfl
theorem call_build (t : TypeId) (ps : Array (Nat × Operand)) : callOf σ ⟨d, .build t ps, ty, pos, aft, g⟩ = none := rfl
theorem call_buildSlice (t : TypeId) (n : Nat) (ps : Array (Nat × Operand)) : callOf σ ⟨d, .buildSlice t n ps, ty, pos, aft, g⟩ = none := rfl
theorem call_fieldAddr (s : TypeId) (x : Operand) (f : Nat) : callOf σ ⟨d, .fieldAddr s x f, ty, pos, aft, g⟩ = none := rfl
theorem call_field (s : TypeId) (x : Operand) (f : Nat) : callOf σ ⟨d, .field s x f, ty, pos, aft, g⟩ = none := rfl
theorem call_indexAddr (t : TypeId) (x i : Operand) : callOf σ ⟨d, .indexAddr t x i, ty, pos, aft, g⟩ = none := rfl
theorem call_index (t : TypeId) (x i : Operand) : callOf σ ⟨d, .index t x i, ty, pos, aft, g⟩ = none := rfl
theorem call_extract (x : Operand) (k : Nat) : callOf σ ⟨d, .extract x k, ty, pos, aft, g⟩ = none := rfl
theorem call_makeInterface (t : TypeId) (x : Operand) : callOf σ ⟨d, .makeInterface t x, ty, pos, aft, g⟩ = none := rfl
theorem call_makeFunc (fn : Fn) (a b : Array Operand) : callOf σ ⟨d, .makeFunc fn a b, ty, pos, aft, g⟩ = none := rfl
theorem call_nilCheck (x : Operand) : callOf σ ⟨d, .nilCheck x, ty, pos, aft, g⟩ = none := rfl
theorem call_makeSlice (t : TypeId) (a b : Operand) : callOf σ ⟨d, .makeSlice t a b, ty, pos, aft, g⟩ = none := rfl
theorem call_range (t : TypeId) (x : Operand) : callOf σ ⟨d, .range t x, ty, pos, aft, g⟩ = none := rfl
theorem call_next (x : Operand) (b : Bool) : callOf σ ⟨d, .next x b, ty, pos, aft, g⟩ = none := rfl
theorem call_bin (op : BinOp) (s t : TypeId) (x y : Operand) : callOf σ ⟨d, .binOp op s x y t, ty, pos, aft, g⟩ = none := rfl
theorem call_un (op : UnOp) (t : TypeId) (x : Operand) : callOf σ ⟨d, .unOp op t x, ty, pos, aft, g⟩ = none := rfl
theorem call_conv (s t : TypeId) (x : Operand) : callOf σ ⟨d, .convert s t x, ty, pos, aft, g⟩ = none := rfl
theorem call_slice (t : TypeId) (x : Operand) (a b c : Option Operand) : callOf σ ⟨d, .slice t x a b c, ty, pos, aft, g⟩ = none := rfl

/-! guards -/
theorem want_none (T : Fr) (dd : Option Nat) (o : Op) : wantedA ops T ⟨dd, o, ty, pos, aft, none⟩ = some true := rfl
theorem want_some (T : Fr) (dd : Option Nat) (o : Op) (j : Nat) (w : Bool) : wantedA ops T ⟨dd, o, ty, pos, aft, some (j, w)⟩ = (match (ops[j]?).bind (·.dst) with
    | some d => match T.get d with
      | some (.bool b) => some (b == w)
      | some _ => some false
      | none => none
    | none => some false) := rfl
/-! the code -/
/-! continuations, by name: what is under a name is not looked into -/
def regQ (Q : Ex → St → Prop) (cfg : Cfg) (id : Nat) (σ : St) : Prop := Q .normal (σ.cut cfg id)
theorem reg_eq {Q : Ex → St → Prop} (id : Nat) : regQ Q cfg id σ = Q .normal (σ.cut cfg id) := rfl
def condQ (P : Program) (cfg : Cfg) (a b : Code) (Q : Ex → St → Prop) (σ : St) (t : Bool) : Prop := if t = true then vc P cfg a Q σ else vc P cfg b Q σ
theorem cond_t {Q : Ex → St → Prop} (a b : Code) : condQ P cfg a b Q σ true = vc P cfg a Q σ := rfl
theorem cond_f {Q : Ex → St → Prop} (a b : Code) : condQ P cfg a b Q σ false = vc P cfg b Q σ := rfl
theorem condQ_of {Q : Ex → St → Prop} {a b : Code} {t : Bool} (h1 : t = true → condQ P cfg a b Q σ true) (h2 : t = false → condQ P cfg a b Q σ false) : condQ P cfg a b Q σ t := by
  cases t
  · exact h2 rfl
  · exact h1 rfl
def callQ (P : Program) (loc : List Nat) (ops : Array Oper) (Q : St → Prop) (r : List Oper) (d : Option Nat) (σ : St) (v : Value) (h' : Heap) : Prop :=
  Nice σ.m.h v h' → vcOps P loc ops Q r (St.putD ⟨σ.t, ⟨σ.m.x, h'⟩⟩ d v)
theorem callQ_eq {Q : St → Prop} {r : List Oper} {d : Option Nat} {v : Value} {h' : Heap} : callQ P loc ops Q r d σ v h' = (Nice σ.m.h v h' → vcOps P loc ops Q r (St.putD ⟨σ.t, ⟨σ.m.x, h'⟩⟩ d v)) := rfl
def guardQ (P : Program) (loc : List Nat) (ops : Array Oper) (Q : St → Prop) (d : Option Nat) (o : Op) (ty : TypeId) (pos : String) (aft : Array Edge) (r : List Oper) (σ : St) (w : Bool) : Prop :=
  if w = true then vcOps P loc ops Q (⟨d, o, ty, pos, aft, none⟩ :: r) σ else vcOps P loc ops Q r (σ.putD d undef)
theorem guard_t {Q : St → Prop} (d : Option Nat) (o : Op) (ty : TypeId) (pos : String) (aft : Array Edge) (r : List Oper) : guardQ P loc ops Q d o ty pos aft r σ true = vcOps P loc ops Q (⟨d, o, ty, pos, aft, none⟩ :: r) σ := rfl
theorem guard_f {Q : St → Prop} (d : Option Nat) (o : Op) (ty : TypeId) (pos : String) (aft : Array Edge) (r : List Oper) : guardQ P loc ops Q d o ty pos aft r σ false = vcOps P loc ops Q r (σ.putD d undef) := rfl
theorem guardQ_of {Q : St → Prop} {d : Option Nat} {o : Op} {ty : TypeId} {pos : String} {aft : Array Edge} {r : List Oper} {w : Bool}
    (h1 : w = true → guardQ P loc ops Q d o ty pos aft r σ true) (h2 : w = false → guardQ P loc ops Q d o ty pos aft r σ false) : guardQ P loc ops Q d o ty pos aft r σ w := by
  cases w
  · exact h2 rfl
  · exact h1 rfl
theorem vc_skip {Q : Ex → St → Prop} : vc P cfg .skip Q σ = Q .normal σ := rfl
theorem vc_region {Q : Ex → St → Prop} (id : Nat) (l : List Oper) : vc P cfg (.region id l.toArray false) Q σ = vcOps P cfg.loc l.toArray (regQ Q cfg id) l σ := rfl
theorem vc_seq {Q : Ex → St → Prop} (a b : Code) : vc P cfg (.seq a b) Q σ = vc P cfg a (thenQ (vc P cfg b Q) Q) σ := rfl
theorem vc_cond {Q : Ex → St → Prop} (c : Operand) (a b : Code) : vc P cfg (.cond c a b) Q σ = (match opnd σ c with
    | some (.bool t) => condQ P cfg a b Q σ t
    | _ => False) := rfl
theorem vc_block {Q : Ex → St → Prop} (i : Nat) (b : Code) : vc P cfg (.block i b) Q σ = vc P cfg b (blockQ i Q) σ := rfl
theorem vc_exit {Q : Ex → St → Prop} (i : Nat) : vc P cfg (.exit i) Q σ = Q (.exit i) σ := rfl
theorem vc_ret {Q : Ex → St → Prop} : vc P cfg .ret Q σ = Q .ret σ := rfl
theorem then_n {f : St → Prop} {Q : Ex → St → Prop} : thenQ f Q .normal σ = f σ := rfl
theorem then_e {f : St → Prop} {Q : Ex → St → Prop} (i : Nat) : thenQ f Q (.exit i) σ = Q (.exit i) σ := rfl
theorem then_r {f : St → Prop} {Q : Ex → St → Prop} : thenQ f Q .ret σ = Q .ret σ := rfl
theorem block_n {Q : Ex → St → Prop} (i : Nat) : blockQ i Q .normal σ = Q .normal σ := rfl
theorem block_e {Q : Ex → St → Prop} (i j : Nat) : blockQ i Q (.exit j) σ = if j = i then Q .normal σ else Q (.exit j) σ := rfl
theorem block_r {Q : Ex → St → Prop} (i : Nat) : blockQ i Q .ret σ = Q .ret σ := rfl
theorem end_r (rs : List ResultVar) (post : Value → Heap → Prop) : endQ P rs post .ret σ = (match resL P σ rs with
  | some vs => post (resV vs) σ.m.h
  | none => False) := rfl
theorem end_n (rs : List ResultVar) (post : Value → Heap → Prop) : endQ P rs post .normal σ = (match resL P σ rs with
  | some vs => post (resV vs) σ.m.h
  | none => False) := rfl
theorem mapM_nil' {f : Operand → Option Value} : List.mapM f [] = some [] := rfl
theorem mapM_cons' {f : Operand → Option Value} (x : Operand) (l : List Operand) : List.mapM f (x :: l) = match f x, List.mapM f l with | some v, some r => some (v :: r) | _, _ => none := by
  rw [List.mapM_cons]
  cases f x with
  | none => rfl
  | some v => cases List.mapM f l <;> rfl
theorem vcOps_nil {Q : St → Prop} : vcOps P loc ops Q [] σ = Q σ := rfl
theorem vcOps_cons {Q : St → Prop} (d : Option Nat) (o : Op) (ty : TypeId) (pos : String) (aft : Array Edge) (r : List Oper) : vcOps P loc ops Q (⟨d, o, ty, pos, aft, none⟩ :: r) σ = (match callOf σ ⟨d, o, ty, pos, aft, none⟩ with
      | some (f, args) => ACalls P f args σ.m.h (callQ P loc ops Q r d σ)
      | none => match stepOp P loc σ ⟨d, o, ty, pos, aft, none⟩ with
        | some (v, σ') => vcOps P loc ops Q r (σ'.putD d v)
        | none => False) := rfl
theorem vcOps_consg {Q : St → Prop} (d : Option Nat) (o : Op) (ty : TypeId) (pos : String) (aft : Array Edge) (g : Nat × Bool) (r : List Oper) : vcOps P loc ops Q (⟨d, o, ty, pos, aft, some g⟩ :: r) σ = (match wantedA ops σ.t ⟨d, o, ty, pos, aft, some g⟩ with
    | none => False
    | some w => guardQ P loc ops Q d o ty pos aft r σ w) := by
  rw [vcOps]
  cases wantedA ops σ.t ⟨d, o, ty, pos, aft, some g⟩ with
  | none => rfl
  | some w => cases w <;> rfl
def lget (dd : Oper) : List Oper → Nat → Oper
  | [], _ => dd
  | a :: _, 0 => a
  | _ :: l, n + 1 => lget dd l n
theorem lget_0 (dd a : Oper) (l : List Oper) : lget dd (a :: l) 0 = a := rfl
theorem lget_s (dd a : Oper) (l : List Oper) (n : Nat) : lget dd (a :: l) (n + 1) = lget dd l n := rfl
theorem lget_eq (dd : Oper) (l : List Oper) (n : Nat) : (l.toArray).getD n dd = lget dd l n := by
  induction l generalizing n with
  | nil => rfl
  | cons a l ih => cases n with
    | zero => rfl
    | succ n => rw [lget_s, ← ih]; simp [Array.getD_eq_getD_getElem?]
/-- a drawn region, by the numbers of its operations -/
def vcP (P : Program) (loc : List Nat) (l : List Oper) (Bd : Nat → Nat → Bool) (Q : St → Prop) (hl : HL) (perm : List Nat) (σ : St) : Prop :=
  vcH P loc l.toArray Bd Q hl (perm.map fun i => (i, lget default l i)) σ
def callP (P : Program) (loc : List Nat) (l : List Oper) (Bd : Nat → Nat → Bool) (Q : St → Prop) (hl : HL) (i : Nat) (r : List Nat) (d : Option Nat) (σ : St) (v : Value) (h' : Heap) : Prop :=
  Nice σ.m.h v h' → okHL Bd i hl ⟨σ.m.x, h'⟩ ∧ vcP P loc l Bd Q hl r (St.putD ⟨σ.t, ⟨σ.m.x, h'⟩⟩ d v)
theorem callP_eq {l : List Oper} {Q : St → Prop} {hl : HL} {i : Nat} {r : List Nat} {d : Option Nat} {v : Value} {h' : Heap} : callP P loc l Bd Q hl i r d σ v h' = (Nice σ.m.h v h' → okHL Bd i hl ⟨σ.m.x, h'⟩ ∧ vcP P loc l Bd Q hl r (St.putD ⟨σ.t, ⟨σ.m.x, h'⟩⟩ d v)) := rfl
/-- one operation of a drawn region -/
def vcW (P : Program) (loc : List Nat) (l : List Oper) (Bd : Nat → Nat → Bool) (Q : St → Prop) (hl : HL) (i : Nat) (r : List Nat) (d : Option Nat) (o : Op) (ty : TypeId) (pos : String) (aft : Array Edge) (g : Option (Nat × Bool)) (σ : St) (w : Bool) : Prop :=
  if w = true then (if clsN P o then (match stepOp P loc σ ⟨d, o, ty, pos, aft, g⟩ with
        | some (v, _) => vcP P loc l Bd Q (if clsR o then (i, gO P loc σ.t ⟨d, o, ty, pos, aft, g⟩, v) :: hl else hl) r (σ.putD d v)
        | none => False)
      else match callOf σ ⟨d, o, ty, pos, aft, g⟩ with
      | some (f, args) => ACalls P f args σ.m.h (callP P loc l Bd Q hl i r d σ)
      | none => match stepOp P loc σ ⟨d, o, ty, pos, aft, g⟩ with
        | some (v, σ') => okHL Bd i hl σ'.m ∧ vcP P loc l Bd Q hl r (σ'.putD d v)
        | none => False) else vcP P loc l Bd Q hl r (σ.putD d undef)
def vcO (P : Program) (loc : List Nat) (l : List Oper) (Bd : Nat → Nat → Bool) (Q : St → Prop) (hl : HL) (i : Nat) (r : List Nat) (o : Oper) (σ : St) : Prop :=
  match wantedA l.toArray σ.t o with
    | none => False
    | some w => vcW P loc l Bd Q hl i r o.dst o.op o.type o.pos o.after o.guard σ w
theorem vcP_nil {l : List Oper} {Q : St → Prop} {hl : HL} : vcP P loc l Bd Q hl [] σ = Q σ := rfl
theorem vcP_cons {l : List Oper} {Q : St → Prop} {hl : HL} (i : Nat) (r : List Nat) : vcP P loc l Bd Q hl (i :: r) σ = vcO P loc l Bd Q hl i r (lget default l i) σ := by
  rw [vcP, List.map_cons, vcH, vcO]
  generalize lget default l i = o
  cases hw : wantedA l.toArray σ.t o with
  | none => cases hn : clsN P o.op <;> simp [effN, hw]
  | some w => cases w with
    | false => cases hn : clsN P o.op with
      | true => simp only [effN, hw, if_true]; rfl
      | false => simp only [Bool.false_eq_true, if_false]; rfl
    | true => cases hn : clsN P o.op with
      | true =>
        simp only [effN, hw, if_true, valN, vcW, hn]
        cases hs : stepOp P loc σ o with
        | none => rfl
        | some p => rfl
      | false => simp only [Bool.false_eq_true, if_false, vcW, hn]; rfl
section
variable {l : List Oper} {Q : St → Prop} {hl : HL} {i : Nat} {r : List Nat} (d : Option Nat) (o : Op) (ty : TypeId) (pos : String) (aft : Array Edge)
theorem vcO_mk (g : Option (Nat × Bool)) : vcO P loc l Bd Q hl i r ⟨d, o, ty, pos, aft, g⟩ σ = (match wantedA l.toArray σ.t ⟨d, o, ty, pos, aft, g⟩ with
    | none => False
    | some w => vcW P loc l Bd Q hl i r d o ty pos aft g σ w) := rfl
theorem vcW_t (g : Option (Nat × Bool)) : vcW P loc l Bd Q hl i r d o ty pos aft g σ true = (if clsN P o then (match stepOp P loc σ ⟨d, o, ty, pos, aft, g⟩ with
        | some (v, _) => vcP P loc l Bd Q (if clsR o then (i, gO P loc σ.t ⟨d, o, ty, pos, aft, g⟩, v) :: hl else hl) r (σ.putD d v)
        | none => False)
      else match callOf σ ⟨d, o, ty, pos, aft, g⟩ with
      | some (f, args) => ACalls P f args σ.m.h (callP P loc l Bd Q hl i r d σ)
      | none => match stepOp P loc σ ⟨d, o, ty, pos, aft, g⟩ with
        | some (v, σ') => okHL Bd i hl σ'.m ∧ vcP P loc l Bd Q hl r (σ'.putD d v)
        | none => False) := rfl
theorem vcW_f (g : Option (Nat × Bool)) : vcW P loc l Bd Q hl i r d o ty pos aft g σ false = vcP P loc l Bd Q hl r (σ.putD d undef) := rfl
theorem vcW_of {g : Option (Nat × Bool)} {w : Bool} (h1 : w = true → vcW P loc l Bd Q hl i r d o ty pos aft g σ true) (h2 : w = false → vcW P loc l Bd Q hl i r d o ty pos aft g σ false) : vcW P loc l Bd Q hl i r d o ty pos aft g σ w := by
  cases w
  · exact h2 rfl
  · exact h1 rfl
end
theorem clsN_call {o : Oper} (h : clsN P o.op = true) : callOf σ o = none := by
  obtain ⟨d, op, ty, pos, aft, g⟩ := o
  unfold callOf
  split
  · rename_i f as ts e
    simp only at e h
    subst e
    simp [clsN] at h
  · rfl
/-- a drawn region without changes of memory is a plain one -/
theorem vcP_pure {l : List Oper} {Q : St → Prop} : ∀ (perm : List Nat) (hl : HL) (σ : St), perm.all (fun i => clsN P (lget default l i).op) = true → vcP P loc l Bd Q hl perm σ = vcOps P loc l.toArray Q (perm.map (lget default l)) σ := by
  intro perm
  induction perm with
  | nil => intro hl σ _; rfl
  | cons i r ih =>
    intro hl σ h
    rw [List.all_cons, Bool.and_eq_true] at h
    obtain ⟨h1, h2⟩ := h
    rw [vcP_cons, List.map_cons, vcO, vcOps]
    generalize lget default l i = o at h1
    cases hw : wantedA l.toArray σ.t o with
    | none => rfl
    | some w => cases w with
      | false => exact ih _ _ h2
      | true =>
        simp only [vcW, h1, if_true, clsN_call h1]
        cases hs : stepOp P loc σ o with
        | none => rfl
        | some p =>
          obtain ⟨v, σ'⟩ := p
          have := stepN_same h1 hs
          subst this
          exact ih _ _ h2
/-- one order -/
def ordQ (P : Program) (loc : List Nat) (l : List Oper) (Bd : Nat → Nat → Bool) (Q : St → Prop) (pm : List Nat) (σ : St) : Prop :=
  if pm.all (fun i => clsN P (lget default l i).op) = true then vcOps P loc l.toArray Q (pm.map (lget default l)) σ else vcP P loc l Bd Q [] pm σ
theorem ordQ_eq {l : List Oper} {Q : St → Prop} {pm : List Nat} : ordQ P loc l Bd Q pm σ = if pm.all (fun i => clsN P (lget default l i).op) = true then vcOps P loc l.toArray Q (pm.map (lget default l)) σ else vcP P loc l Bd Q [] pm σ := rfl
theorem ordQ_h {l : List Oper} {Q : St → Prop} {pm : List Nat} : ordQ P loc l Bd Q pm σ = vcH P loc l.toArray Bd Q [] (remP l.toArray pm) σ := by
  have e : remP l.toArray pm = pm.map fun i => (i, lget default l i) := by simp only [remP, lget_eq]
  rw [ordQ, e]
  split
  · rename_i h; exact (vcP_pure _ _ _ h).symm
  · rfl
/-- several orders: each of them is to be walked; simp stops here -/
def altQ (P : Program) (loc : List Nat) (l : List Oper) (Bd : Nat → Nat → Bool) (Q : St → Prop) (pms : List (List Nat)) (σ : St) : Prop := altH P loc l.toArray Bd Q pms σ
theorem altQ_nil {l : List Oper} {Q : St → Prop} : altQ P loc l Bd Q [] σ = True := rfl
theorem altQ_cons {l : List Oper} {Q : St → Prop} {pm : List Nat} {r : List (List Nat)} : altQ P loc l Bd Q (pm :: r) σ = (ordQ P loc l Bd Q pm σ ∧ altQ P loc l Bd Q r σ) := by
  rw [ordQ_h]; rfl
theorem altQ_to {l : List Oper} {Q Q' : St → Prop} {pms : List (List Nat)} (hq : ∀ σ, Q σ → Q' σ) (h : altQ P loc l Bd Q pms σ) : altQ P loc l Bd Q' pms σ := altH_to hq _ _ h
/-- ways that part meet behind the region -/
theorem altQ_cut {l : List Oper} {Q : Ex → St → Prop} {id : Nat} {pms : List (List Nat)} (M : St → Prop) (h1 : altQ P loc l Bd (fun σ => M (σ.cut cfg id)) pms σ) (h2 : ∀ σ', M σ' → Q .normal σ') : altQ P loc l Bd (regQ Q cfg id) pms σ :=
  altQ_to (fun _ h => h2 _ h) h1
theorem vc_draw' {Q : Ex → St → Prop} (id : Nat) (l : List Oper) : vc P cfg (.region id l.toArray true) Q σ = match (cfg.draw id).alts with
    | [] => ordQ P cfg.loc l (cfg.draw id).B (regQ Q cfg id) (cfg.draw id).perm (enterD (pendL P l.toArray (cfg.draw id)) σ)
    | a :: r => altQ P cfg.loc l (cfg.draw id).B (regQ Q cfg id) ((cfg.draw id).perm :: a :: r) (enterD (pendL P l.toArray (cfg.draw id)) σ) := by
  have e : vc P cfg (.region id l.toArray true) Q σ = altQ P cfg.loc l (cfg.draw id).B (regQ Q cfg id) ((cfg.draw id).perm :: (cfg.draw id).alts) (enterD (pendL P l.toArray (cfg.draw id)) σ) := rfl
  rw [e]
  cases (cfg.draw id).alts with
  | nil => rw [altQ_cons, altQ_nil, and_true]
  | cons a r => rfl
theorem okHL_nil {i : Nat} {M : Mem} : okHL Bd i [] M = True := by simp [okHL]
theorem okHL_cons {i j : Nat} {f : Mem → Option Value} {v : Value} {hl : HL} {M : Mem} : okHL Bd i ((j, f, v) :: hl) M = ((Bd i j = false → f M = some v) ∧ okHL Bd i hl M) := by simp [okHL]
theorem gO_eq {T : Fr} {o : Oper} {M : Mem} : gO P loc T o M = (stepOp P loc ⟨T, M⟩ o).map (·.1) := rfl
theorem opnd_tmp (i : Nat) : opnd σ (.tmp i) = σ.t.get i := rfl
theorem opnd_const (v : Value) : opnd σ (.const v) = if flat1 v then some v else none := rfl
theorem opnd_func (f : FuncId) : opnd σ (.func f) = some (.func (.func f) #[] #[]) := rfl
theorem Bmk (l : List UInt8) : (⟨⟨l⟩⟩ : ByteArray) = B l := rfl
theorem u64wrap {x : Int} (h : 0 ≤ x ∧ x ≤ 18446744073709551615) : IntKind.wrap .u64 x = x := by
  have e : IntKind.wrap .u64 x = x % 18446744073709551616 := by simp [IntKind.wrap, IntKind.bits, IntKind.signed]
  rw [e]; omega
theorem u64wrap_mod (x : Int) : IntKind.wrap .u64 x = x % 18446744073709551616 := by simp [IntKind.wrap, IntKind.bits, IntKind.signed]
theorem i64wrap {x : Int} (h : -9223372036854775808 ≤ x ∧ x ≤ 9223372036854775807) : IntKind.wrap .i64 x = x := by
  have e : IntKind.wrap .i64 x = if (x % 18446744073709551616 : Int) ≥ 9223372036854775808 then x % 18446744073709551616 - 18446744073709551616 else x % 18446744073709551616 := by
    simp [IntKind.wrap, IntKind.bits, IntKind.signed]
  rw [e]; split <;> omega
end
attribute [simp] step_move step_assign step_pick step_load step_store step_alloc step_box step_build step_buildSlice step_fieldAddr step_field step_indexAddr step_extract step_makeInterface step_makeFunc step_nilCheck step_makeSlice step_range step_next step_len step_append step_copy opBytesStr opCopyStr
  step_bin step_un step_conv step_index step_slice step_min step_max opMakeIface
  call_value call_builtin call_move call_assign call_pick call_load call_store call_alloc call_box call_build call_buildSlice call_fieldAddr call_field call_indexAddr call_index call_extract call_makeInterface call_makeFunc call_nilCheck call_makeSlice call_range call_next call_bin call_un call_conv call_slice
  want_none want_some mapM_nil' mapM_cons' okHL_nil okHL_cons gO_eq clsN clsR pendL mkPend DrawInfo.B opnd_tmp opnd_const opnd_func Bmk
  get_put get_cons get_nil look_set look_cons look_nil look_nil' f_new n_new g_new f_set n_set g_set
  B_size B_get B_extract B_append B_inj
attribute [simp ↓] vc_skip vc_region vc_draw' ordQ_eq vc_seq vc_cond vc_block vc_exit vc_ret then_n then_e then_r block_n block_e block_r end_r end_n reg_eq cond_t cond_f guard_t guard_f callQ_eq callP_eq vcW_t vcW_f vcOps_nil vcOps_cons vcOps_consg vcP_nil vcP_cons vcO_mk lget_0 lget_s
attribute [simp] cond_t cond_f guard_t guard_f vcW_t vcW_f
attribute [simp] Fr.get_scrub scrub1 get_enterT look_enterX enterD partsA fillL partL opNilCheck
attribute [simp] aggI eqAgg eqL Value.cells undef opMove opPick opLoad opStore opAlloc opBox St.newVar opFieldAddr opField opIndexAddr opExtract opMakeFunc opLen opSlice boundA binA binN opNilC nilEq boolI binI strI unA convA idxA sliceA minA St.putD St.cut resL res1 resV entryT prune_eq bprune_eq noLoc locOf flat1 flat2 Mem.cells Mem.row? Mem.setRow key offA setL szE one Value.oneCell'
end Go.Am
/- The abstract machine, part R: from a call's contract to a row's walk. -/
namespace Go.Am
open Go Go.RowKit

/-- a slice of whole numbers, as a function sees it -/
def IntsA (h : Heap) (v : Value) (l : List Int) : Prop := ∃ ad c, v = .slice ad l.length c ∧ (l = [] ∨ ∃ b w cs, ad = some ⟨b, 0, none⟩ ∧ h.f b = .row w 3 (l.map (Value.int .i64) ++ cs) ∧ b < h.n)
def IntsW (w : World) (a : Option Addr) (len cap : Nat) (zs : List Int) : Prop :=
  (a = none ∧ len = 0 ∧ cap = 0 ∧ zs = []) ∨
  ∃ x, a = some x ∧ len ≤ cap ∧ zs.length = cap ∧ (∀ i, i < zs.length → w.cell? (x.add i) = some (.int .i64 (zs.getD i 0)))
def rho0 : Rho := fun _ => none
def rho1 (pl : Pl) : Rho := fun k => if k = (false, 0) then some pl else none
def h0 : Heap := ⟨1, 0, fun _ => .dead⟩
def h1 (zs : List Int) : Heap := ⟨1, 0, fun b => if b = 0 then .row false 3 (zs.map (Value.int .i64)) else .dead⟩
theorem mrel0 (P : Program) (w : World) (h : Heap) (hg : h.g = 0) : MRel P rho0 ⟨Boxes.nil, h⟩ w :=
  ⟨fun k pl e => by simp [rho0] at e, fun b pl e => by simp [rho0] at e, fun k pl wr e cs q => by simp [rho0] at q, fun b pl o q => by simp [rho0] at q,
   fun k k' pl pl' _ q => by simp [rho0] at q, fun i hi => by rw [show (⟨Boxes.nil, h⟩ : Mem).h.g = 0 from hg] at hi; exact absurd hi (by omega)⟩
theorem add_add (x : Addr) (i : Nat) : (x.add i).block = x.block := by unfold Addr.add; split <;> rfl
theorem glue_ints (P : Program) (hc : P.cellsOf 3 = 1) {w : World} {a : Option Addr} {len cap : Nat} {zs : List Int} (H : IntsW w a len cap zs) :
    ∃ (h : Heap) (v : Value) (ρ : Rho), (∀ s, ρ (true, s) = none) ∧ MRel P ρ ⟨Boxes.nil, h⟩ w ∧ VR ρ v (.slice a len cap) ∧ IntsA h v (zs.take len) ∧ (∀ B, ¬ Own ρ h B) ∧ (zs.take len).length = len := by
  rcases H with ⟨rfl, rfl, rfl, rfl⟩ | ⟨x, rfl, hl, hz, hcell⟩
  · exact ⟨h0, _, rho0, fun _ => rfl, mrel0 P w h0 rfl, .sln, ⟨none, 0, rfl, .inl rfl⟩, fun B ⟨b, pl, q, _⟩ => by simp [rho0] at q, rfl⟩
  · by_cases hcap : cap = 0
    · subst hcap
      have : len = 0 := by omega
      subst this
      exact ⟨h0, _, rho0, fun _ => rfl, mrel0 P w h0 rfl, .sl0 default x 0, ⟨_, _, rfl, .inl rfl⟩, fun B ⟨b, pl, q, _⟩ => by simp [rho0] at q, rfl⟩
    · have hc0 := hcell 0 (by omega)
      obtain ⟨blk, off, spot⟩ := x
      have key : ∀ i, i < zs.length → ∃ C e fz, w.heap[blk]? = some (.cells C e fz) ∧ C[off + i]? = some (.int .i64 (zs.getD i 0)) ∧ (i = 0 → spot = none) := by
        intro i hi
        have := hcell i hi
        unfold World.cell? at this
        rw [add_add] at this
        split at this
        · rename_i C e fz hh
          split at this
          · simp at this
          · rename_i hs
            refine ⟨C, e, fz, hh, ?_, fun e0 => ?_⟩
            · by_cases hi0 : i = 0
              · subst hi0; simpa [Addr.add] using this
              · simpa [Addr.add, hi0] using this
            · subst e0; simpa [Addr.add] using hs
        · simp at this
      obtain ⟨C, e, fz, hh, _, hsp⟩ := key 0 (by omega)
      obtain rfl := hsp rfl
      have hC : ∀ i, i < zs.length → C[off + i]? = some (.int .i64 (zs.getD i 0)) := fun i hi => by
        obtain ⟨C', e', fz', q1, q2, _⟩ := key i hi
        rw [hh] at q1; simp only [Option.some.injEq, Obj.cells.injEq] at q1
        rw [q1.1]; exact q2
      have hsz : off + zs.length ≤ C.size := by
        have := hC (zs.length - 1) (by omega)
        have h2 : off + (zs.length - 1) < C.size := by rcases Nat.lt_or_ge (off + (zs.length - 1)) C.size with z | z; exact z; rw [Array.getElem?_eq_none z] at this; cases this
        omega
      refine ⟨h1 zs, .slice (some ⟨0, 0, none⟩) len len, rho1 ⟨blk, off, zs.length, 1⟩, fun s => by simp [rho1], ?_, ?_, ?_, ?_, by simp; omega⟩
      · refine ⟨fun k pl q => ?_, fun b pl q => ?_, fun k pl wr e' cs q r => ?_, fun b pl o q r => ?_, fun k k' pl pl' hne q q' => ?_, fun i hi => by exact absurd hi (by simp [h1])⟩
        · simp only [rho1] at q; split at q
          · simp only [Option.some.injEq] at q; subst q
            rcases Nat.lt_or_ge blk w.heap.size with z | z
            · exact z
            · rw [Array.getElem?_eq_none z] at hh; cases hh
          · simp at q
        · simp only [rho1] at q; split at q
          · rename_i e1; simp at e1; subst e1; exact Nat.one_pos
          · simp at q
        · simp only [rho1] at q; split at q
          · rename_i e1; subst e1
            simp only [Option.some.injEq] at q; subst q
            simp [Mem.row?, h1] at r
            obtain ⟨rfl, rfl, rfl⟩ := r
            refine ⟨C, e, fz, hh, by simp, by simp, hsz, hc.symm, fun i v hi => ?_⟩
            rw [List.getElem?_map] at hi
            cases hzi : zs[i]? with
            | none => rw [hzi] at hi; simp at hi
            | some z =>
              rw [hzi] at hi; simp at hi; subst hi
              have hlt : i < zs.length := by rw [List.getElem?_eq_some_iff] at hzi; exact hzi.1
              refine ⟨_, hC i hlt, ?_⟩
              rw [List.getD_eq_getElem?_getD, hzi]
              exact .int _ _
          · simp at q
        · simp only [rho1] at q; split at q
          · rename_i e1; simp at e1; subst e1; simp [h1] at r
          · simp at q
        · simp only [rho1] at q q'
          split at q <;> simp at q
          split at q' <;> simp at q'
          rename_i e1 e2
          exact absurd (e1.trans e2.symm) hne
      · have := VR.sl (ρ := rho1 ⟨blk, off, zs.length, 1⟩) 0 0 len len ⟨blk, off, zs.length, 1⟩ cap rfl hl (by simp; omega)
        simpa using this
      · refine ⟨_, _, by rw [List.length_take]; congr 1; omega, ?_⟩
        by_cases hlen : zs.take len = []
        · exact .inl hlen
        · refine .inr ⟨0, false, (zs.drop len).map (Value.int .i64), rfl, ?_, Nat.one_pos⟩
          show (h1 zs).f 0 = _
          simp only [h1, if_true]
          rw [← List.map_append, List.take_append_drop]
      · rintro B ⟨b, pl, q, rfl, hw⟩
        simp only [rho1] at q; split at q
        · rename_i e1; simp at e1; subst e1; simp [Heap.wr, h1] at hw
        · simp at q

/-- a law that answers true -/
theorem law_walk {P : Program} {f : FuncId} {args args' : List Value} {h : Heap} {ρ : Rho} {w : World} {post : Value → Heap → Prop} (H : ACalls P f args h post) (hp : ∀ v h', post v h' → v = .bool true)
    (hb : ∀ s, ρ (true, s) = none) (R : MRel P ρ ⟨Boxes.nil, h⟩ w) (V : VRl ρ args args') (hO : ∀ B, ¬ Own ρ h B) :
    Calls P f ⟨args'⟩ w fun e w' => e = .returned (.bool true) ∧ Below w.heap.size w w' := by
  refine (H.2 ρ w args' hb R V).mono ?_
  rintro e w' ⟨v, v', h', ρ', rfl, q, _, _, T, hv⟩
  obtain rfl := hp _ _ q
  cases hv
  exact ⟨rfl, T.os, T.tape, T.output, T.size, fun k hk => T.frame k hk (hO k)⟩
end Go.Am
/- The abstract machine, part U: slices of whatever elements, as a caller sees them. -/
namespace Go.Am
open Go
section
variable {α : Type}
/-- elements in the heap, as a slice of whoever's -/
def SlA (e : TypeId) (enc : α → List Value) (h : Heap) (v : Value) (xs : List α) : Prop := ∃ ad c, v = .slice ad xs.length c ∧ (ad = none → c = 0) ∧
  (xs = [] ∨ ∃ b off w cells rest, ad = some ⟨b, off, none⟩ ∧ h.f b = .row w e cells ∧ cells.drop off = xs.flatMap enc ++ rest ∧ off ≤ cells.length ∧ b < h.n)
/-- elements in the heap, as a slice of one's own -/
def OwA (e : TypeId) (enc : α → List Value) (h0 h : Heap) (v : Value) (xs : List α) : Prop := ∃ ad, v = .slice ad xs.length xs.length ∧
  ((ad = none ∧ xs = []) ∨ ∃ b, ad = some ⟨b, 0, none⟩ ∧ h.f b = .row true e (xs.flatMap enc) ∧ h0.n ≤ b ∧ b < h.n)
variable {e : TypeId} {enc : α → List Value} {h0 h h' : Heap} {v : Value} {xs : List α}
theorem SlA.nil : SlA e enc h (.slice none 0 0) [] := ⟨none, 0, rfl, fun _ => rfl, .inl rfl⟩
theorem SlA.shape (H : SlA e enc h v xs) : ∃ ad c, v = .slice ad xs.length c := by obtain ⟨ad, c, q, _⟩ := H; exact ⟨ad, c, q⟩
theorem SlA.ext (H : SlA e enc h v xs) (E : Ext h h') : SlA e enc h' v xs := by
  obtain ⟨ad, c, q, n, z⟩ := H
  refine ⟨ad, c, q, n, ?_⟩
  rcases z with z | ⟨b, off, w, cells, rest, z1, z2, z3, z4, z5⟩
  · exact .inl z
  · exact .inr ⟨b, off, w, cells, rest, z1, by rw [E.f b z5, z2], z3, z4, Nat.lt_of_lt_of_le z5 E.n⟩
theorem OwA.sl (H : OwA e enc h0 h v xs) : SlA e enc h v xs := by
  obtain ⟨ad, rfl, z⟩ := H
  rcases z with ⟨rfl, rfl⟩ | ⟨b, rfl, z2, z3, z4⟩
  · exact ⟨none, _, rfl, fun _ => rfl, .inl rfl⟩
  · exact ⟨_, _, rfl, fun q => by simp at q, .inr ⟨b, 0, true, _, [], rfl, z2, by simp, by simp, z4⟩⟩
theorem OwA.ext (H : OwA e enc h0 h v xs) (E : Ext h h') : OwA e enc h0 h' v xs := by
  obtain ⟨ad, q, z⟩ := H
  refine ⟨ad, q, ?_⟩
  rcases z with z | ⟨b, z1, z2, z3, z4⟩
  · exact .inl z
  · exact .inr ⟨b, z1, by rw [E.f b z4, z2], z3, Nat.lt_of_lt_of_le z4 E.n⟩
theorem OwA.nil : OwA e enc h0 h (.slice none 0 0) [] := ⟨none, rfl, .inl ⟨rfl, rfl⟩⟩
theorem flatA_len (k : Nat) (hk : ∀ x, (enc x).length = k) (xs : List α) : (xs.flatMap enc).length = xs.length * k := by
  induction xs with
  | nil => simp
  | cons t r ih => rw [List.flatMap_cons, List.length_append, ih, hk, List.length_cons, Nat.succ_mul]; omega
theorem flatA_drop (k : Nat) (hk : ∀ x, (enc x).length = k) (xs : List α) (i : Nat) : (xs.flatMap enc).drop (i * k) = (xs.drop i).flatMap enc := by
  induction xs generalizing i with
  | nil => simp
  | cons t r ih => cases i with
    | zero => simp
    | succ i =>
      rw [List.drop_succ_cons, ← ih i, List.flatMap_cons, List.drop_append]
      rw [List.drop_eq_nil_of_le (by rw [hk, Nat.succ_mul]; omega), List.nil_append, hk]
      congr 1
      rw [Nat.succ_mul]; omega
/-- one element of a slice -/
theorem SlA.at (k : Nat) (hk : ∀ x, (enc x).length = k) {ad : Option Addr} {n c : Nat} (H : SlA e enc h (.slice ad n c) xs) {i : Nat} {t : α} (hi : xs[i]? = some t) :
    n = xs.length ∧ ∃ b off w cells rest, ad = some ⟨b, off, none⟩ ∧ h.f b = .row w e cells ∧ cells.drop (off + i * k) = enc t ++ rest ∧ off + i * k + k ≤ cells.length ∧ b < h.n := by
  obtain ⟨ad', c', q, _, z⟩ := H
  simp only [Value.slice.injEq] at q
  obtain ⟨rfl, rfl, rfl⟩ := q
  have hlt : i < xs.length := by rw [List.getElem?_eq_some_iff] at hi; exact hi.1
  refine ⟨rfl, ?_⟩
  rcases z with rfl | ⟨b, off, w, cells, rest, z1, z2, z3, z4, z5⟩
  · simp at hlt
  · have hd : xs.drop i = t :: xs.drop (i + 1) := by
      rw [List.getElem?_eq_some_iff] at hi
      obtain ⟨h1, h2⟩ := hi
      rw [List.drop_eq_getElem_cons h1, h2]
    have hi2 : i * k ≤ xs.length * k := Nat.mul_le_mul_right k (by omega)
    have e : cells.drop (off + i * k) = enc t ++ ((xs.drop (i + 1)).flatMap enc ++ rest) := by
      rw [← List.drop_drop, z3, List.drop_append, flatA_drop k hk, hd, List.flatMap_cons, flatA_len k hk, List.append_assoc]
      rw [show i * k - xs.length * k = 0 by omega]; rfl
    refine ⟨b, off, w, cells, _, z1, z2, e, ?_, z5⟩
    have hl := congrArg List.length e
    rw [List.length_drop, List.length_append, hk] at hl
    rcases Nat.eq_zero_or_pos k with rfl | hk0
    · simp; omega
    · omega
end
end Go.Am
/- The abstract machine, part X: what is walked may be cut, so that ways that part meet again. -/
namespace Go.Am
open Go
section
variable {P : Program} {loc : List Nat} {ops : Array Oper} {cfg : Cfg}
theorem vc_mono (c : Code) (Q Q' : Ex → St → Prop) (hq : ∀ e σ, Q e σ → Q' e σ) (σ : St) (h : vc P cfg c Q σ) : vc P cfg c Q' σ := vc_to c hq σ h
/-- what is left of the walk is one thing alone -/
def normQ (M : St → Prop) : Ex → St → Prop
  | .normal, σ => M σ
  | _, _ => False
theorem norm_n {M : St → Prop} {σ : St} : normQ M .normal σ = M σ := rfl
theorem condQ_mono {a b : Code} {Q Q' : Ex → St → Prop} {σ : St} {t : Bool} (hq : ∀ e σ, Q e σ → Q' e σ) (h : condQ P cfg a b Q σ t) : condQ P cfg a b Q' σ t := by
  cases t with
  | true => exact vc_mono a _ _ hq _ h
  | false => exact vc_mono b _ _ hq _ h
/-- ways that part meet: of a condition ahead of more -/
theorem condQ_cut {a b r : Code} {Q : Ex → St → Prop} {σ : St} {t : Bool} (M : St → Prop) (h1 : condQ P cfg a b (normQ M) σ t) (h2 : ∀ σ', M σ' → vc P cfg r Q σ') : condQ P cfg a b (thenQ (vc P cfg r Q) Q) σ t := by
  refine condQ_mono (fun e σ' h => ?_) h1
  cases e with
  | normal => exact h2 _ h
  | exit j => exact h.elim
  | ret => exact h.elim
/-- of a condition that ends a block ahead of more -/
theorem condQ_cutB {a b r : Code} {Q : Ex → St → Prop} {σ : St} {t : Bool} {i : Nat} (M : St → Prop) (h1 : condQ P cfg a b (blockQ i (normQ M)) σ t) (h2 : ∀ σ', M σ' → vc P cfg r Q σ') : condQ P cfg a b (blockQ i (thenQ (vc P cfg r Q) Q)) σ t := by
  refine condQ_mono (fun e σ' h => ?_) h1
  cases e with
  | normal => exact h2 _ h
  | exit j =>
    simp only [blockQ] at h ⊢
    split at h
    · rename_i e; rw [if_pos e]; exact h2 _ h
    · exact h.elim
  | ret => exact h.elim
/-- a condition that ends a block which ends a body's step -/
theorem condQ_cutE {a b : Code} {Q : Ex → St → Prop} {σ : St} {t : Bool} (M : St → Prop) (h1 : condQ P cfg a b (normQ M) σ t) (h2 : ∀ σ', M σ' → Q .normal σ') : condQ P cfg a b Q σ t := by
  refine condQ_mono (fun e σ' h => ?_) h1
  cases e with
  | normal => exact h2 _ h
  | exit j => exact h.elim
  | ret => exact h.elim
/-- the first n parts of a body, and what is behind them -/
def headC : Nat → Code → Code
  | n + 1, .seq a b => .seq a (headC n b)
  | _, _ => .skip
def tailC : Nat → Code → Code
  | n + 1, .seq a b => tailC n b
  | _, c => c
theorem head_s (n : Nat) (a b : Code) : headC (n + 1) (.seq a b) = .seq a (headC n b) := rfl
theorem head_0 (c : Code) : headC 0 c = .skip := rfl
theorem tail_s (n : Nat) (a b : Code) : tailC (n + 1) (.seq a b) = tailC n b := rfl
theorem tail_0 (c : Code) : tailC 0 c = c := by cases c <;> rfl
/-- what is known behind the first n parts is enough for the rest -/
theorem vc_cutAt (n : Nat) (M : St → Prop) : ∀ {c : Code} {Q : Ex → St → Prop} {σ : St}, vc P cfg (headC n c) (normQ M) σ → (∀ σ', M σ' → vc P cfg (tailC n c) Q σ') → vc P cfg c Q σ := by
  induction n with
  | zero => intro c Q σ h1 h2; have := h2 σ h1; rw [tail_0] at this; exact this
  | succ n ih =>
    intro c Q σ h1 h2
    cases c with
    | seq a b =>
      refine vc_mono a _ _ (fun e σ' h => ?_) σ h1
      cases e with
      | normal => exact ih h h2
      | exit j => exact h.elim
      | ret => exact h.elim
    | _ => exact h2 σ h1
attribute [simp ↓] norm_n
end
end Go.Am
