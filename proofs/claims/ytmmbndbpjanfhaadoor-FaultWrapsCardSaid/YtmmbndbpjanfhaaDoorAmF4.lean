/- The library's functions at Fault's seat, as the abstract machine sees them. -/
import Derived.Test.YtmmbndbpjanfhaaDoorAmF0
import Derived.Test.YtmmbndbpjanfhaaDoorAmF2
import Derived.Test.YtmmbndbpjanfhaaDoorAmF3
import Derived.Test.YtmmbndbpjanfhaaDoorAmW
set_option linter.unusedVariables false
set_option linter.unusedSimpArgs false
set_option linter.unusedSectionVars false
namespace Go.Proofs.Flt
open Go Go.Am Go.RowKit
theorem PP_eq : PP = Tryd.prog := by unfold PP; rfl
section
variable {P : Program} {ρ : Rho} {h : Heap} {w w' : World} {m : Mem}
theorem rel_grow (R : MRel P ρ m w) (size : w.heap.size ≤ w'.heap.size) (same : ∀ B, B < w.heap.size → w'.heap[B]? = w.heap[B]?) : MRel P ρ m w' :=
  ⟨fun k pl q => Nat.lt_of_lt_of_le (R.bound k pl q) size, R.dom, fun k pl wr e cs q r => by rw [same _ (R.bound k pl q)]; exact R.row k pl wr e cs q r,
    fun b pl o q r => by rw [same _ (R.bound _ pl q)]; exact R.obj b pl o q r, R.sep, R.glob⟩
theorem tr_grow (hb : Below w.heap.size w w') (hg : h.g ≠ 0) : Tr ρ h w ρ h w' :=
  ⟨hb.os, hb.tape, hb.output, fun e => absurd e hg, hb.size, fun _ _ q => q, Nat.le_refl _, rfl, fun b pl q q' => (by rw [q] at q'; cases q'), fun _ _ q => q, fun _ _ q => q, fun B hB _ => hb.block B hB⟩
/-- a call of the library that keeps what there was, and answers flatly -/
theorem acalls_keep {f : FuncId} {args : List Value} {post : Value → Prop} (hE : Enter P f) (hg : h.g ≠ 0)
    (H : ∀ (ρ : Rho) (w : World) (args' : List Value), MRel P ρ ⟨Boxes.nil, h⟩ w → VRl ρ args args' → Calls P f ⟨args'⟩ w fun e w' => ∃ v, e = .returned v ∧ flat2 v = true ∧ post v ∧ Below w.heap.size w w') :
    ACalls P f args h (fun v h' => h' = h ∧ post v) := by
  refine ⟨hE, fun ρ w args' hb R V => (H ρ w args' R V).mono ?_⟩
  rintro e w' ⟨v, rfl, hf, hp, bel⟩
  exact ⟨v, v, h, ρ, rfl, ⟨rfl, hp⟩, hb, rel_grow R bel.size bel.block, tr_grow bel hg, .of_flat2 hf⟩
theorem below_drewN (w : World) (n : Nat) : Below w.heap.size w (w.drewN n) := ⟨rfl, rfl, rfl, Nat.le_refl _, fun _ _ => rfl⟩
theorem below_growN (w : World) (n : Nat) (os : Array Obj) : Below w.heap.size w (Sort.grow (w.drewN n) os) := by
  refine ⟨rfl, rfl, rfl, ?_, fun k hk => ?_⟩
  · show w.heap.size ≤ (w.heap ++ os).size
    simp
  · show (w.heap ++ os)[k]? = _
    rw [Array.getElem?_append_left hk]
end
/-- the package-level variables that the calls read -/
def GlobOK (h : Heap) : Prop := h.g = 2 ∧ 2 ≤ h.n ∧ (∃ t f, h.f 0 = .obj (.cells #[.iface 76 (.agg #[.pointer (some ⟨5, 23, none⟩)])] t f)) ∧
  (∃ t f, h.f 1 = .obj (.cells (Lib.pow10Tab.map fun z => Value.int .u64 z).toArray t f))
theorem GlobOK.ext {h h' : Heap} (G : GlobOK h) (E : Ext h h') : GlobOK h' := by
  obtain ⟨g1, g2, ⟨t0, f0, g3⟩, ⟨t1, f1, g4⟩⟩ := G
  exact ⟨by rw [E.g]; exact g1, Nat.le_trans g2 E.n, ⟨t0, f0, by rw [E.f 0 (by omega)]; exact g3⟩, ⟨t1, f1, by rw [E.f 1 (by omega)]; exact g4⟩⟩
theorem GlobOK.set {h : Heap} (G : GlobOK h) {b : Nat} (hb : 2 ≤ b) (c : Blk) : GlobOK (h.set b c) := by
  obtain ⟨g1, g2, ⟨t0, f0, g3⟩, ⟨t1, f1, g4⟩⟩ := G
  exact ⟨g1, g2, ⟨t0, f0, by rw [f_set, if_neg (by omega)]; exact g3⟩, ⟨t1, f1, by rw [f_set, if_neg (by omega)]; exact g4⟩⟩
theorem GlobOK.ne {h : Heap} (G : GlobOK h) : h.g ≠ 0 := by rw [G.1]; decide
theorem GlobOK.heap0 {h : Heap} {ρ : Rho} {w : World} (G : GlobOK h) (R : MRel PP ρ ⟨Boxes.nil, h⟩ w) : w.cell? ⟨0, 0, none⟩ = some (.iface 76 (.agg #[.pointer (some ⟨5, 23, none⟩)])) := by
  obtain ⟨g1, g2, ⟨t0, f0, g3⟩, _⟩ := G
  obtain ⟨pl, q1, q2, q3⟩ := R.glob 0 (by show 0 < h.g; omega)
  obtain ⟨r1, _⟩ := R.obj 0 pl _ q1 g3
  rw [q2] at r1
  simp [World.cell?, r1]
theorem GlobOK.tab {h : Heap} {ρ : Rho} {w : World} (G : GlobOK h) (R : MRel PP ρ ⟨Boxes.nil, h⟩ w) : Lib.TabIs Tryd.prog w "internal/strconv.uint64pow10" .u64 Lib.pow10Tab := by
  obtain ⟨g1, g2, _, ⟨t1, f1, g4⟩⟩ := G
  obtain ⟨pl, q1, q2, q3⟩ := R.glob 1 (by show 1 < h.g; omega)
  obtain ⟨r1, _⟩ := R.obj 1 pl _ q1 g4
  rw [q2] at r1
  unfold Lib.TabIs World.var?
  have : Tryd.prog.globalNamed "internal/strconv.uint64pow10" = some 1 := by kernel_rfl
  rw [this]
  simp only [Option.bind_some, r1]
theorem itoa_ok (n : Int) (hn : -9223372036854775808 ≤ n ∧ n ≤ 9223372036854775807) (h : Heap) (G : GlobOK h) : ACalls PP 21 [.int .i64 n] h (fun v h' => h' = h ∧ v = .string (B (Lib.itoa n))) := by
  refine acalls_keep ⟨Tryd.f21, by rw [PP_eq]; exact Tryd.func21, by kernel_rfl, by kernel_rfl⟩ G.ne fun ρ w args' R V => ?_
  have hargs : args' = [.int .i64 n] := by
    obtain ⟨v0, hv0, V0⟩ := V.2 0 _ rfl
    have := V.1
    match args', hv0, this with
    | [p], h0, _ => simp at h0; rw [h0, V0.flat1 rfl]
  subst hargs
  have htab := G.tab R
  rw [PP_eq]
  refine (Any.strconv_Itoa Tryd.itoa n hn.1 hn.2 w htab).mono ?_
  rintro e w' ⟨rfl, k, os, rfl⟩
  exact ⟨_, rfl, rfl, rfl, below_growN w k os⟩
/-! slices of one's own -/
def OwO {α : Type} (e : TypeId) (enc : α → List Value) (h0 h : Heap) (o : Option Nat) (xs : List α) (v : Value) : Prop :=
  v = .slice (o.map fun b => ⟨b, 0, none⟩) xs.length xs.length ∧ (match o with
    | none => xs = []
    | some b => h.f b = .row true e (xs.flatMap enc) ∧ h0.n ≤ b ∧ b < h.n)
theorem OwO.own {α : Type} {e : TypeId} {enc : α → List Value} {h0 h : Heap} {o : Option Nat} {xs : List α} {v : Value} (H : OwO e enc h0 h o xs v) : OwA e enc h0 h v xs := by
  obtain ⟨rfl, z⟩ := H
  cases o with
  | none => exact ⟨none, rfl, .inl ⟨rfl, z⟩⟩
  | some b => exact ⟨_, rfl, .inr ⟨b, rfl, z.1, z.2.1, z.2.2⟩⟩
theorem OwO.ext {α : Type} {e : TypeId} {enc : α → List Value} {h0 h h' : Heap} {o : Option Nat} {xs : List α} {v : Value} (H : OwO e enc h0 h o xs v) (E : Ext h h') : OwO e enc h0 h' o xs v := by
  obtain ⟨rfl, z⟩ := H
  refine ⟨rfl, ?_⟩
  cases o with
  | none => exact z
  | some b => exact ⟨by rw [E.f b z.2.2]; exact z.1, z.2.1, Nat.lt_of_lt_of_le z.2.2 E.n⟩
theorem OwO.setNe {α : Type} {e : TypeId} {enc : α → List Value} {h0 h : Heap} {o : Option Nat} {xs : List α} {v : Value} (H : OwO e enc h0 h o xs v) {b : Nat} (c : Blk) (hb : o ≠ some b) : OwO e enc h0 (h.set b c) o xs v := by
  obtain ⟨rfl, z⟩ := H
  refine ⟨rfl, ?_⟩
  cases o with
  | none => exact z
  | some b' => exact ⟨by rw [f_set, if_neg (fun q => hb (by rw [q]))]; exact z.1, z.2.1, z.2.2⟩
theorem OwO.lt {α : Type} {e : TypeId} {enc : α → List Value} {h0 h : Heap} {o : Option Nat} {xs : List α} {v : Value} (H : OwO e enc h0 h o xs v) {m : Nat} (hm : h.n ≤ m) : o ≠ some m := by
  intro q; subst q; have := H.2.2.2; omega
theorem OwO.nil {α : Type} {e : TypeId} {enc : α → List Value} {h0 h : Heap} : OwO e enc h0 h none ([] : List α) (.slice none 0 0) := ⟨rfl, rfl⟩
theorem OwO.keep {α : Type} {e : TypeId} {enc : α → List Value} {h0 h : Heap} {o : Option Nat} {xs : List α} {v : Value} (H : OwO e enc h0 h o xs v) {b : Nat} (c0 c1 : Blk) (hb : o ≠ some b) : OwO e enc h0 (((h.new c0).set b .dead).new c1) o xs v :=
  ((H.ext (Ext.new _ _)).setNe _ hb).ext (Ext.new _ _)
theorem OwO.push {α : Type} {e : TypeId} {enc : α → List Value} {h0 h : Heap} {b : Nat} {xs : List α} {v : Value} (H : OwO e enc h0 h (some b) xs v) (c0 : Blk) (x : α) {cells : List Value} (hc : cells = (xs ++ [x]).flatMap enc) :
    OwO e enc h0 (((h.new c0).set b .dead).new (.row true e cells)) (some (h.n + 1)) (xs ++ [x]) (.slice (some ⟨h.n + 1, 0, none⟩) (xs.length + 1) (xs.length + 1)) := by
  obtain ⟨_, _, h1, h2⟩ := H
  refine ⟨by simp, ?_, ?_, ?_⟩
  · simp [hc]
  · omega
  · simp
theorem OwO.push0 {α : Type} {e : TypeId} {enc : α → List Value} {h0 h : Heap} (hn : h0.n ≤ h.n) (c0 : Blk) (x : α) {cells : List Value} (hc : cells = enc x) :
    OwO e enc h0 ((h.new c0).new (.row true e cells)) (some (h.n + 1)) [x] (.slice (some ⟨h.n + 1, 0, none⟩) 1 1) := by
  refine ⟨by simp, ?_, ?_, ?_⟩
  · simp [hc]
  · omega
  · simp
theorem ext_push {h0 h : Heap} (E : Ext h0 h) {b : Nat} (hb : h0.n ≤ b) (c0 c1 c2 : Blk) : Ext h0 (((h.new c0).set b c2).new c1) := ((E.newOf _).setOf hb _).newOf _
def strC (l : List UInt8) : List Value := [.string (B l)]
theorem str_map (xs : List (List UInt8)) : xs.flatMap strC = xs.map fun l => Value.string (B l) := by
  induction xs with
  | nil => rfl
  | cons a r ih => rw [List.flatMap_cons, ih]; rfl
theorem join_ok (v : Value) (xs : List (List UInt8)) (sep : List UInt8) (hl : xs.length ≤ 1000000) (hj : (Lib.join xs sep).length ≤ 140737488355328) (h0 h : Heap) (G : GlobOK h) (o : Option Nat) (H : OwO 9 strC h0 h o xs v) :
    ACalls PP 22 [v, .string (B sep)] h (fun r h' => h' = h ∧ r = .string (B (Lib.join xs sep))) := by
  refine acalls_keep ⟨Tryd.f22, by rw [PP_eq]; exact Tryd.func22, by kernel_rfl, by kernel_rfl⟩ G.ne fun ρ w args' R V => ?_
  obtain ⟨v0, hv0, V0⟩ := V.2 0 _ rfl
  obtain ⟨v1, hv1, V1⟩ := V.2 1 _ rfl
  have e1 : v1 = .string (B sep) := V1.flat1 rfl
  subst e1
  have hargs : args' = [v0, .string (B sep)] := by
    have := V.1
    match args', hv0, hv1, this with
    | [p, q], h0, h1, _ => simp at h0 h1; rw [h0, h1]
  subst hargs
  obtain ⟨rfl, ho⟩ := H
  have em : (xs.map B).map (fun x : ByteArray => x.data.toList) = xs := by
    rw [List.map_map]
    exact (List.map_congr_left (fun a _ => rfl)).trans (List.map_id _)
  rw [PP_eq]
  cases o with
  | none =>
    simp only at ho
    subst ho
    cases V0
    refine (Any.strings_Join_none Tryd.join Tryd.joinX none 0 (B sep) w).mono ?_
    rintro e w' ⟨rfl, rfl⟩
    exact ⟨_, rfl, rfl, rfl, Below.refl _ _⟩
  | some b =>
    simp only at ho
    obtain ⟨hb, hb1, hb2⟩ := ho
    rcases V0.slice_some with ⟨a', e, rfl⟩ | ⟨b', off, pl, cap, e, hk, hc, hn', rfl⟩
    · have hx : xs = [] := List.length_eq_zero_iff.1 e
      subst hx
      refine (Any.strings_Join_none Tryd.join Tryd.joinX (some a') 0 (B sep) w).mono ?_
      rintro e w' ⟨rfl, rfl⟩
      exact ⟨_, rfl, rfl, rfl, Below.refl _ _⟩
    · simp only [Addr.mk.injEq, and_true] at e
      obtain ⟨rfl, rfl⟩ := e
      obtain ⟨C, e', fz, c1, c2, c3, c4, c5, c6⟩ := R.row (false, b) pl true 9 (xs.flatMap strC) hk (by simp [Mem.row?, hb])
      have hcells : ∀ (j : Nat) x, (xs.map B)[j]? = some x → w.cell? ⟨pl.B, pl.o + 0 + j, none⟩ = some (.string x) := by
        intro j x hx
        rw [List.getElem?_map] at hx
        cases hxj : xs[j]? with
        | none => rw [hxj] at hx; cases hx
        | some l =>
          rw [hxj] at hx
          simp only [Option.map_some, Option.some.injEq] at hx
          subst hx
          obtain ⟨v', q1, q2⟩ := c6 j (.string (B l)) (by rw [str_map, List.getElem?_map, hxj]; rfl)
          rw [q2.flat1 rfl] at q1
          unfold World.cell?
          simp only [c1, Option.isSome_none]
          simpa using q1
      have hbound := R.bound _ _ hk
      have hj' : (Lib.join ((xs.map B).map (·.data.toList)) (B sep).data.toList).length ≤ 140737488355328 := by rw [em]; exact hj
      have := Any.strings_Join Tryd.join Tryd.joinX pl.B (pl.o + 0) cap (xs.map B) (B sep) w hcells hbound (by rw [List.length_map]; omega) (by rw [List.length_map]; exact hc) hj'
      rw [List.length_map, em] at this
      refine this.mono ?_
      rintro e w' ⟨rfl, bel⟩
      exact ⟨_, rfl, rfl, rfl, bel⟩
/-! errors.As, errors.Is -/
structure FR where
  code : Int
  line : Int
  col : Int
deriving DecidableEq
/-- an error of the program's own make: a chain of Failures in blocks below n, the outer one first -/
inductive ChA (h : Heap) (n : Nat) : Value → List FR → Prop
  | nil : ChA h n .nilIface []
  | cons (b : Nat) (f : FR) (E : Value) (l : List FR) : h.f b = .row true 43 [.int .i64 f.code, .int .i64 f.line, .int .i64 f.col, E] → b < n → ChA h n E l → ChA h n (.iface 41 (.pointer (some ⟨b, 0, none⟩))) (f :: l)
theorem ChA.up {h h' : Heap} {n n' : Nat} {E : Value} {l : List FR} (H : ChA h n E l) (hn : n ≤ n') (hf : ∀ b, b < n → h'.f b = h.f b) : ChA h' n' E l := by
  induction H with
  | nil => exact .nil
  | cons b f E l h1 h2 _ ih => exact .cons b f E l (by rw [hf b h2]; exact h1) (by omega) ih
theorem ChA.ext {h h' : Heap} {E : Value} {l : List FR} (H : ChA h h.n E l) (X : Ext h h') : ChA h' h'.n E l := H.up X.n X.f
theorem as_nil_ok (tv : Value) (h : Heap) (G : GlobOK h) : ACalls PP 17 [.nilIface, tv] h (fun v h' => h' = h ∧ v = .bool false) := by
  refine acalls_keep ⟨Tryd.f17, by rw [PP_eq]; exact Tryd.func17, by kernel_rfl, by kernel_rfl⟩ G.ne fun ρ w args' R V => ?_
  obtain ⟨v0, hv0, V0⟩ := V.2 0 _ rfl
  obtain ⟨v1, hv1, V1⟩ := V.2 1 _ rfl
  have e0 : v0 = .nilIface := V0.flat1 rfl
  subst e0
  have hargs : args' = [.nilIface, v1] := by
    have := V.1
    match args', hv0, hv1, this with
    | [p, q], h0, h1, _ => simp at h0 h1; rw [h0, h1]
  subst hargs
  rw [PP_eq]
  refine (as_nil v1 w).mono ?_
  rintro e w' ⟨rfl, rfl⟩
  exact ⟨_, rfl, rfl, rfl, Below.refl _ _⟩
theorem as_hit_ok (b t : Nat) (old : Value) (h : Heap) (G : GlobOK h) (ht : h.f t = .row true 41 [old]) :
    ACalls PP 17 [.iface 41 (.pointer (some ⟨b, 0, none⟩)), .iface 45 (.pointer (some ⟨t, 0, none⟩))] h (fun v h' => v = .bool true ∧ h' = h.set t (.row true 41 [.pointer (some ⟨b, 0, none⟩)])) := by
  refine ⟨⟨Tryd.f17, by rw [PP_eq]; exact Tryd.func17, by kernel_rfl, by kernel_rfl⟩, fun ρ w args' hbx R V => ?_⟩
  obtain ⟨v0, hv0, V0⟩ := V.2 0 _ rfl
  obtain ⟨v1, hv1, V1⟩ := V.2 1 _ rfl
  have hargs : args' = [v0, v1] := by
    have := V.1
    match args', hv0, hv1, this with
    | [p, q], h0, h1, _ => simp at h0 h1; rw [h0, h1]
  subst hargs
  cases V0 with
  | iface _ _ u0 V0 =>
  cases V1 with
  | iface _ _ u1 V1 =>
  have V0' := V0
  cases V0 with
  | ptr _ _ plb hkb =>
  cases V1 with
  | ptr _ _ plt hkt =>
  obtain ⟨C, e', fz, c1, c2, c3, c4, c5, c6⟩ := R.row (false, t) plt true 41 [old] hkt (by simp [Mem.row?, ht])
  obtain rfl := c2 rfl
  obtain ⟨old', o1, o2⟩ := c6 0 old rfl
  have hbt := R.bound _ _ hkt
  have ht0 : w.cell? ⟨plt.B, plt.o + 0, none⟩ = some old' := by
    unfold World.cell?
    simp only [c1, Option.isSome_none]
    simpa using o1
  have hf0 : w.frozen? ⟨plt.B, plt.o + 0, none⟩ = false := by
    unfold World.frozen?
    simp only [c1]
    simp
  have hg := G.heap0 R
  have key := as_hit ⟨plb.B, plb.o + 0, none⟩ ⟨plt.B, plt.o + 0, none⟩ old' w hg ht0 hf0
  rw [← PP_eq] at key
  refine key.mono ?_
  rintro e w' ⟨rfl, hw⟩
  have hpush : ∀ (B : Nat) (o1 o2 o3 o4 : Obj), B < w.heap.size → ((((w.heap.push o1).push o2).push o3).push o4)[B]? = w.heap[B]? := by
    intro B o1 o2 o3 o4 hB
    rw [Array.getElem?_push, if_neg (by simp; omega), Array.getElem?_push, if_neg (by simp; omega), Array.getElem?_push, if_neg (by simp; omega), Array.getElem?_push, if_neg (by omega)]
  obtain ⟨q1, q2⟩ := turned (w' := w') R hkt ht (cs' := [.pointer (some ⟨b, 0, none⟩)]) rfl (by rw [hw]; rfl) (by rw [hw]; rfl) (by rw [hw]; rfl) (by rw [hw]; exact Nat.le_refl _)
    (by rw [hw]; simp only [World.setCell, World.alloc, Array.size_modify, Array.size_push]; omega)
    (fun B hB hne => by
      rw [hw]
      simp only [World.setCell, World.alloc]
      rw [Array.getElem?_modify, if_neg (Ne.symm hne), hpush B _ _ _ _ hB])
    (fun C2 e2 fz2 hC2 => by
      rw [c1] at hC2
      simp only [Option.some.injEq, Obj.cells.injEq] at hC2
      obtain ⟨rfl, rfl, rfl⟩ := hC2
      refine ⟨C.setIfInBounds (plt.o + 0) (.pointer (some ⟨plb.B, plb.o + 0, none⟩)), ?_, by simp, fun i v hi => ?_⟩
      · rw [hw]
        simp only [World.setCell, World.alloc]
        rw [Array.getElem?_modify, if_pos rfl, hpush plt.B _ _ _ _ hbt, c1]
        rfl
      · cases i with
        | succ i => simp at hi
        | zero =>
          simp at hi
          subst hi
          have hlt : plt.o < C.size := by
            rcases Nat.lt_or_ge plt.o C.size with z | z
            · exact z
            · rw [Nat.add_zero, Array.getElem?_eq_none z] at o1; cases o1
          exact ⟨_, by simp [hlt], V0'⟩)
  exact ⟨.bool true, .bool true, _, ρ, rfl, ⟨rfl, rfl⟩, hbx, q1, q2, .bool true⟩
theorem chain_w {h : Heap} {ρ : Rho} {w : World} (R : MRel PP ρ ⟨Boxes.nil, h⟩ w) {n : Nat} {plt : Pl} (hk : ρ (false, n) = some plt) (hlive : h.f n ≠ .dead) {E : Value} {l : List FR} (H : ChA h n E l) (hne : l ≠ []) : ∀ {E' : Value}, VR ρ E E' → ChW w plt.B E' (l.map (·.code)) := by
  induction H with
  | nil => exact absurd rfl hne
  | cons b f E l h1 h2 h3 ih =>
    intro E' V
    cases V with
    | iface _ _ u V =>
    cases V with
    | ptr _ _ pl hkb =>
    obtain ⟨C, e', fz, c1, c2, c3, c4, c5, c6⟩ := R.row (false, b) pl true 43 [.int .i64 f.code, .int .i64 f.line, .int .i64 f.col, E] hkb (by simp [Mem.row?, h1])
    obtain rfl := c2 rfl
    have hcell : ∀ (i : Nat) (v : Value), C[pl.o + i]? = some v → w.cell? ⟨pl.B, pl.o + 0 + i, none⟩ = some v := fun i v hv => by
      unfold World.cell?
      simp only [c1, Option.isSome_none]
      simpa using hv
    have hB : pl.B ≠ plt.B := R.sep (false, b) (false, n) pl plt (by simp; omega) hkb hk (by simp [Mem.wr, Heap.wr, h1]) hlive
    obtain ⟨v0, a1, a2⟩ := c6 0 (.int .i64 f.code) rfl
    rw [a2.flat1 rfl] at a1
    obtain ⟨v3, d1, d2⟩ := c6 3 E rfl
    cases l with
    | nil =>
      cases h3
      rw [d2.flat1 rfl] at d1
      exact .last pl.B (pl.o + 0) f.code C e' c1 hB (by simpa using hcell 0 _ a1) (by simpa using hcell 3 _ d1)
    | cons g r =>
      exact .more pl.B (pl.o + 0) f.code C e' v3 _ c1 hB (by simpa using hcell 0 _ a1) (by simpa using hcell 3 _ d1) (ih (by simp) d2)
theorem is_ok (E : Value) (l : List FR) (c : Int) (h : Heap) (G : GlobOK h) (n : Nat) (x y z : Value) (hn : h.f n = .row true 43 [.int .i64 c, x, y, z]) (H : ChA h n E l) :
    ACalls PP 19 [E, .iface 41 (.pointer (some ⟨n, 0, none⟩))] h (fun v h' => h' = h ∧ v = .bool (decide (c ∈ l.map (·.code)))) := by
  refine acalls_keep ⟨Tryd.f19, by rw [PP_eq]; exact Tryd.func19, by kernel_rfl, by kernel_rfl⟩ G.ne fun ρ w args' R V => ?_
  obtain ⟨v0, hv0, V0⟩ := V.2 0 _ rfl
  obtain ⟨v1, hv1, V1⟩ := V.2 1 _ rfl
  have hargs : args' = [v0, v1] := by
    have := V.1
    match args', hv0, hv1, this with
    | [p, q], h0, h1, _ => simp at h0 h1; rw [h0, h1]
  subst hargs
  cases V1 with
  | iface _ _ u1 V1 =>
  cases V1 with
  | ptr _ _ plt hkt =>
  obtain ⟨C, e', fz, c1, c2, c3, c4, c5, c6⟩ := R.row (false, n) plt true 43 [.int .i64 c, x, y, z] hkt (by simp [Mem.row?, hn])
  obtain rfl := c2 rfl
  obtain ⟨v0', a1, a2⟩ := c6 0 (.int .i64 c) rfl
  rw [a2.flat1 rfl] at a1
  have hd : w.cell? ⟨plt.B, plt.o + 0, none⟩ = some (.int .i64 c) := by
    unfold World.cell?
    simp only [c1, Option.isSome_none]
    simpa using a1
  cases l with
  | nil =>
    cases H
    have e0 : v0 = .nilIface := V0.flat1 rfl
    subst e0
    rw [PP_eq]
    refine (is_nil _ w).mono ?_
    rintro e w' ⟨rfl, rfl⟩
    exact ⟨_, rfl, rfl, by simp, Below.refl _ _⟩
  | cons f r =>
    have hch := chain_w R hkt (by rw [hn]; simp) H (by simp) V0
    rw [PP_eq]
    refine (isE_chain plt.B (plt.o + 0) c C e' c1 hd v0 _ hch).mono ?_
    rintro e w' ⟨r', rfl, hr, k, rfl⟩
    refine ⟨_, rfl, rfl, ?_, below_drewN w k⟩
    congr 1
    rw [Bool.eq_iff_iff, hr, decide_eq_true_eq]
end Go.Proofs.Flt
