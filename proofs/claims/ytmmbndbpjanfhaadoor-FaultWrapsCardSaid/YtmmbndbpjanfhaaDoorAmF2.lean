/- errors.Is at errors of the program's own make: turned from the kit's worked examples SentryIs and Nf8Chain. -/
import Derived.Test.YtmmbndbpjanfhaaDoorAmF1
import Derived.Elder7
import Derived.Deep.Draws
import Derived.Deep.LoopGhost
import Derived.Shelf.RegionOpenPlain
set_option linter.unusedVariables false
set_option linter.unusedSimpArgs false
set_option linter.unusedSectionVars false
namespace Go.Proofs.Flt
open Go.RowKit Go.Extern.Stop Go.Stop Go.Extern
theorem Fa.toF (v : Value) (w : World) : (Instr.typeAssert (.iface 41 v) 23 41 true).run Tryd.prog w = .ok (.tuple #[v, .bool true]) w := by kernel_rfl
set_option maxHeartbeats 4000000 in
theorem unwrap_ok (pb po : Nat) (E : Value) (w : World) (h : w.cell? ⟨pb, po + 3, none⟩ = some E) : Calls Tryd.prog 71 #[.pointer (some ⟨pb, po, none⟩)] w fun e w' => e = .returned E ∧ w' = w := by
  go_enter Tryd.func71, Tryd.ntmps71
  go_wp2
  go_ret
  exact ⟨rfl, rfl⟩
set_option maxHeartbeats 4000000 in
theorem isM_ok (pb po tb to' : Nat) (c d : Int) (w : World) (h : w.cell? ⟨pb, po, none⟩ = some (.int .i64 c)) (h2 : w.cell? ⟨tb, to', none⟩ = some (.int .i64 d)) :
    Calls Tryd.prog 70 #[.pointer (some ⟨pb, po, none⟩), .iface 41 (.pointer (some ⟨tb, to', none⟩))] w fun e w' => e = .returned (.bool (decide (d = c))) ∧ ∃ n, w' = w.drewN n := by
  have mixed : Tryd.prog.follows .mixedOrders = true := by kernel_rfl
  have tF := Fa.toF
  go_enter Tryd.func70, Tryd.ntmps70
  go_wp2
  go_region_o
  go_wp2
  go_ret
  exact ⟨rfl, 1, rfl⟩
/-! ### closed facts -/
theorem Fa.hasIs (v : Value) (xT : TypeId) (w : World) : (Instr.typeAssert (.iface 41 v) xT 88 true).run Tryd.prog w = .ok (.tuple #[.iface 41 v, .bool true]) w := run_typeAssert_hasB Tryd.underlying88 (by kernel_rfl) v xT w
theorem Fa.hasUnwrap (v : Value) (xT : TypeId) (w : World) : (Instr.typeAssert (.iface 41 v) xT 83 true).run Tryd.prog w = .ok (.tuple #[.iface 41 v, .bool true]) w := run_typeAssert_hasB Tryd.underlying83 (by kernel_rfl) v xT w
theorem Fa.methodIs (v : Value) (w : World) : (Go.method 237 41 v "Is").run Tryd.prog w = .ok (70, v) w := by kernel_rfl
theorem Fa.methodUnwrap (v : Value) (w : World) : (Go.method 237 41 v "Unwrap").run Tryd.prog w = .ok (71, v) w := by kernel_rfl
theorem Fa.isComp : (Tryd.prog.info? 41).map (·.comparable) = some true := by kernel_rfl
theorem Fa.isSize : (Tryd.prog.info? 43).map (·.size) = some 4 := by kernel_rfl
theorem Fa.isTypeOf (v : Value) (w : World) : (Extern.ReflectliteType.typeOf #[.iface 41 v]).run Tryd.prog w = .ok (.iface 76 (.agg #[.pointer (some ⟨5, 41, none⟩)])) w := by kernel_rfl
noncomputable def Fa.cmpE : Array Value → Sem Value := Extern.ReflectliteType.method fun t => do Extern.Rtype.noPackHeld "Comparable" t; pure (.bool (← typeInfo t).comparable)
theorem Fa.isComparable (w : World) : (Fa.cmpE #[.agg #[.pointer (some ⟨5, 41, none⟩)]]).run Tryd.prog w = .ok (.bool true) w := by kernel_rfl
theorem Fa.isMethodComparable (v : Value) (w : World) : (Go.method 237 76 v "Comparable").run Tryd.prog w = .ok (78, v) w := by kernel_rfl
/-- a chain of errors in the world W: the value, the codes, the outer one first; none of them lies in block tb -/
inductive ChW (W : World) (tb : Nat) : Value → List Int → Prop
  | last (pb po : Nat) (c : Int) (C : Array Value) (t : TypeId) : W.heap[pb]? = some (.cells C t (0, 0)) → pb ≠ tb → W.cell? ⟨pb, po, none⟩ = some (.int .i64 c) → W.cell? ⟨pb, po + 3, none⟩ = some .nilIface → ChW W tb (.iface 41 (.pointer (some ⟨pb, po, none⟩))) [c]
  | more (pb po : Nat) (c : Int) (C : Array Value) (t : TypeId) (E : Value) (l : List Int) : W.heap[pb]? = some (.cells C t (0, 0)) → pb ≠ tb → W.cell? ⟨pb, po, none⟩ = some (.int .i64 c) → W.cell? ⟨pb, po + 3, none⟩ = some E → ChW W tb E l →
      ChW W tb (.iface 41 (.pointer (some ⟨pb, po, none⟩))) (c :: l)
theorem ChW.unique {W : World} {tb : Nat} {E : Value} {l l' : List Int} (h : ChW W tb E l) (h' : ChW W tb E l') : l = l' := by
  induction h generalizing l' with
  | last pb po c C t a1 a2 a3 a4 =>
    cases h' with
    | last _ _ _ _ _ _ _ b3 b4 => rw [a3] at b3; cases b3; rfl
    | more _ _ _ _ _ _ _ _ _ b3 b4 b5 => rw [a4] at b4; cases b4; cases b5
  | more pb po c C t E l a1 a2 a3 a4 a5 ih =>
    cases h' with
    | last _ _ _ _ _ _ _ b3 b4 => rw [a4] at b4; cases b4; cases a5
    | more _ _ _ _ _ _ _ _ _ b3 b4 b5 => rw [a3] at b3; cases b3; rw [a4] at b4; cases b4; rw [ih b5]
open Classical in
noncomputable def chainLen (W : World) (tb : Nat) (E : Value) : Nat := if h : ∃ l, ChW W tb E l then h.choose.length else 0
theorem chainLen_eq {W : World} {tb : Nat} {E : Value} {l : List Int} (h : ChW W tb E l) : chainLen W tb E = l.length := by
  unfold chainLen
  rw [dif_pos ⟨l, h⟩]
  rw [ChW.unique (Exists.choose_spec ⟨l, h⟩) h]
set_option maxRecDepth 1000000 in
set_option maxHeartbeats 8000000 in
theorem is_chain {W : World} (tb to' : Nat) (d : Int) (cb : Array Value) (tt : TypeId) (hb : W.heap[tb]? = some (.cells cb tt (0, 0))) (hd : W.cell? ⟨tb, to', none⟩ = some (.int .i64 d)) (E : Value) (l : List Int) (hch : ChW W tb E l) :
    Calls Tryd.prog 28 #[E, .iface 41 (.pointer (some ⟨tb, to', none⟩)), .bool true] W fun e w' => ∃ r : Bool, e = .returned (.bool r) ∧ (r = true ↔ d ∈ l) ∧ ∃ n, w' = W.drewN n := by
  obtain ⟨i, hi, hcmp⟩ := Option.map_eq_some_iff.1 Fa.isComp
  obtain ⟨j, hj, hjs⟩ := Option.map_eq_some_iff.1 Fa.isSize
  have aI := Fa.hasIs
  have aU := Fa.hasUnwrap
  have mI := Fa.methodIs
  have mU := Fa.methodUnwrap
  go_enter Tryd.func28, Tryd.ntmps28
  go_wp2
  go_loopw [0] (fun E' wl => (∃ n, wl = W.drewN n) ∧ ∃ l', ChW W tb E' l' ∧ (d ∈ l ↔ d ∈ l')) (fun E' _ => chainLen W tb E')
  case atStart => exact ⟨⟨0, rfl⟩, l, hch, Iff.rfl⟩
  case round =>
    obtain ⟨⟨n, rfl⟩, l', hc', hiff⟩ := hrel
    cases hc' with
    | last pb po c C t a1 a2 a3 a4 =>
      have heq := fun n => run_eql_iface_ptr_other (P := Tryd.prog) (W.drewN n) Tryd.underlying23 Tryd.underlying41 hi hcmp hj (by rw [hjs]; decide) (a := ⟨pb, po, none⟩) (b := ⟨tb, to', none⟩) (fun e => a2 (congrArg Addr.block e)) a1 hb
      by_cases hdc : d = c
      · go_wp2_with (go_at_call 70; refine (isM_ok pb po tb to' c d _ (by simpa using a3) (by simpa using hd)).mono ?_; rintro e w' ⟨he, k, rfl⟩; rw [decide_eq_true hdc] at he; subst he)
        go_ret
        exact ⟨true, rfl, by rw [hiff]; simp [hdc], n + k, rfl⟩
      · go_wp2_with (first | (go_at_call 70; refine (isM_ok pb po tb to' c d _ (by simpa using a3) (by simpa using hd)).mono ?_; rintro e w' ⟨he, k, rfl⟩; rw [decide_eq_false hdc] at he; subst he) | (go_at_call 71; refine (unwrap_ok pb po .nilIface _ (by simpa using a4)).mono ?_; rintro e w' ⟨rfl, rfl⟩))
        go_ret
        exact ⟨false, rfl, by simp [hiff, hdc], n + k, rfl⟩
    | more pb po c C t E1 l1 a1 a2 a3 a4 a5 =>
      have heq := fun n => run_eql_iface_ptr_other (P := Tryd.prog) (W.drewN n) Tryd.underlying23 Tryd.underlying41 hi hcmp hj (by rw [hjs]; decide) (a := ⟨pb, po, none⟩) (b := ⟨tb, to', none⟩) (fun e => a2 (congrArg Addr.block e)) a1 hb
      by_cases hdc : d = c
      · go_wp2_with (go_at_call 70; refine (isM_ok pb po tb to' c d _ (by simpa using a3) (by simpa using hd)).mono ?_; rintro e w' ⟨he, k, rfl⟩; rw [decide_eq_true hdc] at he; subst he)
        go_ret
        exact ⟨true, rfl, by rw [hiff]; simp [hdc], n + k, rfl⟩
      · have hlen := chainLen_eq a5
        have hlen0 := chainLen_eq (ChW.more pb po c C t E1 l1 a1 a2 a3 a4 a5)
        have hne : ∃ v, E1 = .iface 41 v := by cases a5 <;> exact ⟨_, rfl⟩
        obtain ⟨v1, rfl⟩ := hne
        have HC : Hid (ChW W tb (.iface 41 v1) l1) := a5
        clear a5
        go_wp2_with (first | (go_at_call 70; refine (isM_ok pb po tb to' c d _ (by simpa using a3) (by simpa using hd)).mono ?_; rintro e w' ⟨he, k, rfl⟩; rw [decide_eq_false hdc] at he; subst he) | (go_at_call 71; refine (unwrap_ok pb po (.iface 41 v1) _ (by simpa using a4)).mono ?_; rintro e w' ⟨rfl, rfl⟩))
        go_roundw
        case rel => exact ⟨⟨n + k, rfl⟩, l1, HC.out, by simp [hiff, hdc]⟩
        case measure =>
          show chainLen W tb (.iface 41 v1) < _
          rw [hlen]
          refine Nat.lt_of_lt_of_eq ?_ hlen0.symm
          simp
theorem is_nil (p : Addr) (w : World) : Calls Tryd.prog 19 #[.nilIface, .iface 41 (.pointer (some p))] w fun e w' => e = .returned (.bool false) ∧ w' = w := by
  have hn := run_eql_iface_nil_left (P := Tryd.prog) w 41 (.pointer (some p)) Tryd.underlying23
  go_enter Tryd.func19, Tryd.ntmps19
  go_wp2
  go_ret
  exact ⟨rfl, rfl⟩
set_option maxHeartbeats 8000000 in
theorem isE_chain {W : World} (tb to' : Nat) (d : Int) (cb : Array Value) (tt : TypeId) (hb : W.heap[tb]? = some (.cells cb tt (0, 0))) (hd : W.cell? ⟨tb, to', none⟩ = some (.int .i64 d)) (E : Value) (l : List Int) (hch : ChW W tb E l) :
    Calls Tryd.prog 19 #[E, .iface 41 (.pointer (some ⟨tb, to', none⟩))] W fun e w' => ∃ r : Bool, e = .returned (.bool r) ∧ (r = true ↔ d ∈ l) ∧ ∃ n, w' = W.drewN n := by
  have h27 := @run_callFunc_extern Tryd.prog 27 _ ReflectliteType.typeOf Tryd.func27 (by kernel_rfl) (by kernel_rfl) (by kernel_rfl) (by kernel_rfl)
  have h78 := @run_callFunc_extern Tryd.prog 78 _ Fa.cmpE Tryd.func78 (by kernel_rfl) (by kernel_rfl) (by kernel_rfl) (by kernel_rfl)
  have tT := Fa.isTypeOf
  have cT := Fa.isComparable
  have mR := Fa.isMethodComparable
  have hne : ∃ v, E = .iface 41 v := by cases hch <;> exact ⟨_, rfl⟩
  obtain ⟨v1, rfl⟩ := hne
  have HC : Hid (ChW W tb (.iface 41 v1) l) := hch
  clear hch
  go_enter Tryd.func19, Tryd.ntmps19
  go_wp2_with (go_at_call 28; refine (is_chain tb to' d cb tt hb hd _ l HC.out).mono ?_; rintro e w' ⟨r, rfl, hr, n, rfl⟩)
  go_ret
  exact ⟨r, rfl, hr, n, rfl⟩
end Go.Proofs.Flt
