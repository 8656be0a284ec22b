import Derived.Test.YthglohpeijfcfaaGreatDoorMd
import Derived.Deep.Slices
import Derived.Deep.Fields
import Derived.Test.YthglohpeijfcfaaGreatDoorRows
import Derived.LaidLaws
import Derived.LaidHandle
import Derived.LaidSub
import Derived.Stop.LaidErr
import Derived.SizedLaws
import Derived.ChangeSlices
import Derived.Laws.RangeString
set_option linter.unusedVariables false
set_option linter.unusedSimpArgs false
set_option linter.unusedSectionVars false
set_option linter.constructorNameAsVariable false
/- The library's functions at Fault's seat, as the abstract machine sees them. -/
namespace Go.Proofs.Yph.F
open Go Go.Am Go.RowKit
theorem PP_eq : PP = Tryz.prog := by unfold PP; rfl
section
variable {P : Program} {ρ : Rho} {h : Heap} {w w' : World} {m : Mem}
theorem rel_grow (R : MRel P ρ m w) (size : w.heap.size ≤ w'.heap.size) (same : ∀ B, B < w.heap.size → w'.heap[B]? = w.heap[B]?) : MRel P ρ m w' :=
  ⟨fun k pl q => Nat.lt_of_lt_of_le (R.bound k pl q) size, R.dom, fun k pl wr e cs q r => by rw [same _ (R.bound k pl q)]; exact R.row k pl wr e cs q r,
    fun b pl o q r => by rw [same _ (R.bound _ pl q)]; exact R.obj b pl o q r, R.sep, R.glob⟩
theorem tr_grow (hb : Below w.heap.size w w') (hg : h.g ≠ 0) : Tr ρ h w ρ h w' :=
  ⟨hb.os, hb.tape, hb.output, fun e => absurd e hg, hb.size, fun _ _ q => q, Nat.le_refl _, rfl, fun b pl q q' => (by rw [q] at q'; cases q'), fun _ _ q => q, fun _ _ q => q, fun B hB _ => hb.block B hB⟩
/-- a call of the library that keeps what there was, and answers flatly -/
theorem acalls_keep {f : FuncId} {args : List Value} {post : Value → Prop} (hE : Enter P f) (hg : h.g ≠ 0)
    (H : ∀ (ρ : Rho) (w : World) (args' : List Value), MRel P ρ ⟨Boxes.nil, h⟩ w → VRl ρ args args' → Calls P f ⟨args'⟩ w fun e w' => ∃ v, e = .returned v ∧ flat2 v = true ∧ post v ∧ Below w.heap.size w w') :
    ACalls P f args h (fun v h' => h' = h ∧ post v) := by
  refine ⟨hE, fun ρ w args' hb R V => (H ρ w args' R V).mono ?_⟩
  rintro e w' ⟨v, rfl, hf, hp, bel⟩
  exact ⟨v, v, h, ρ, rfl, ⟨rfl, hp⟩, hb, rel_grow R bel.size bel.block, tr_grow bel hg, .of_flat2 hf⟩
theorem below_drewN (w : World) (n : Nat) : Below w.heap.size w (w.drewN n) := ⟨rfl, rfl, rfl, Nat.le_refl _, fun _ _ => rfl⟩
theorem below_growN (w : World) (n : Nat) (os : Array Obj) : Below w.heap.size w (Sort.grow (w.drewN n) os) := by
  refine ⟨rfl, rfl, rfl, ?_, fun k hk => ?_⟩
  · show w.heap.size ≤ (w.heap ++ os).size
    simp
  · show (w.heap ++ os)[k]? = _
    rw [Array.getElem?_append_left hk]
end
/-- the package-level variable that the calls read -/
def GlobOK (h : Heap) : Prop := h.g = 1 ∧ 1 ≤ h.n ∧ ∃ t f, h.f 0 = .obj (.cells #[.iface 138 (.agg #[.pointer (some ⟨1, 35, none⟩)])] t f)
theorem GlobOK.ext {h h' : Heap} (G : GlobOK h) (E : Ext h h') : GlobOK h' := by
  obtain ⟨g1, g2, t0, f0, g3⟩ := G
  exact ⟨by rw [E.g]; exact g1, Nat.le_trans g2 E.n, t0, f0, by rw [E.f 0 (by omega)]; exact g3⟩
theorem GlobOK.set {h : Heap} (G : GlobOK h) {b : Nat} (hb : 1 ≤ b) (c : Blk) : GlobOK (h.set b c) := by
  obtain ⟨g1, g2, t0, f0, g3⟩ := G
  exact ⟨g1, g2, t0, f0, by rw [f_set, if_neg (by omega)]; exact g3⟩
theorem GlobOK.ne {h : Heap} (G : GlobOK h) : h.g ≠ 0 := by rw [G.1]; decide
theorem GlobOK.heap0 {h : Heap} {ρ : Rho} {w : World} (G : GlobOK h) (R : MRel PP ρ ⟨Boxes.nil, h⟩ w) : w.cell? ⟨0, 0, none⟩ = some (.iface 138 (.agg #[.pointer (some ⟨1, 35, none⟩)])) := by
  obtain ⟨g1, g2, t0, f0, g3⟩ := G
  obtain ⟨pl, q1, q2, q3⟩ := R.glob 0 (by show 0 < h.g; omega)
  obtain ⟨r1, _⟩ := R.obj 0 pl _ q1 g3
  rw [q2] at r1
  simp [World.cell?, r1]
/-! slices of one's own -/
def OwO {α : Type} (e : TypeId) (enc : α → List Value) (h0 h : Heap) (o : Option Nat) (xs : List α) (v : Value) : Prop :=
  v = .slice (o.map fun b => ⟨b, 0, none⟩) xs.length xs.length ∧ (match o with
    | none => xs = []
    | some b => h.f b = .row true e (xs.flatMap enc) ∧ h0.n ≤ b ∧ b < h.n)
theorem OwO.own {α : Type} {e : TypeId} {enc : α → List Value} {h0 h : Heap} {o : Option Nat} {xs : List α} {v : Value} (H : OwO e enc h0 h o xs v) : OwA e enc h0 h v xs := by
  obtain ⟨rfl, z⟩ := H
  cases o with
  | none => exact ⟨none, rfl, .inl ⟨rfl, z⟩⟩
  | some b => exact ⟨_, rfl, .inr ⟨b, rfl, z.1, z.2.1, z.2.2⟩⟩
theorem OwO.ext {α : Type} {e : TypeId} {enc : α → List Value} {h0 h h' : Heap} {o : Option Nat} {xs : List α} {v : Value} (H : OwO e enc h0 h o xs v) (E : Ext h h') : OwO e enc h0 h' o xs v := by
  obtain ⟨rfl, z⟩ := H
  refine ⟨rfl, ?_⟩
  cases o with
  | none => exact z
  | some b => exact ⟨by rw [E.f b z.2.2]; exact z.1, z.2.1, Nat.lt_of_lt_of_le z.2.2 E.n⟩
theorem OwO.setNe {α : Type} {e : TypeId} {enc : α → List Value} {h0 h : Heap} {o : Option Nat} {xs : List α} {v : Value} (H : OwO e enc h0 h o xs v) {b : Nat} (c : Blk) (hb : o ≠ some b) : OwO e enc h0 (h.set b c) o xs v := by
  obtain ⟨rfl, z⟩ := H
  refine ⟨rfl, ?_⟩
  cases o with
  | none => exact z
  | some b' => exact ⟨by rw [f_set, if_neg (fun q => hb (by rw [q]))]; exact z.1, z.2.1, z.2.2⟩
theorem OwO.lt {α : Type} {e : TypeId} {enc : α → List Value} {h0 h : Heap} {o : Option Nat} {xs : List α} {v : Value} (H : OwO e enc h0 h o xs v) {m : Nat} (hm : h.n ≤ m) : o ≠ some m := by
  intro q; subst q; have := H.2.2.2; omega
theorem OwO.nil {α : Type} {e : TypeId} {enc : α → List Value} {h0 h : Heap} : OwO e enc h0 h none ([] : List α) (.slice none 0 0) := ⟨rfl, rfl⟩
theorem OwO.keep {α : Type} {e : TypeId} {enc : α → List Value} {h0 h : Heap} {o : Option Nat} {xs : List α} {v : Value} (H : OwO e enc h0 h o xs v) {b : Nat} (c0 c1 : Blk) (hb : o ≠ some b) : OwO e enc h0 (((h.new c0).set b .dead).new c1) o xs v :=
  ((H.ext (Ext.new _ _)).setNe _ hb).ext (Ext.new _ _)
theorem OwO.push {α : Type} {e : TypeId} {enc : α → List Value} {h0 h : Heap} {b : Nat} {xs : List α} {v : Value} (H : OwO e enc h0 h (some b) xs v) (c0 : Blk) (x : α) {cells : List Value} (hc : cells = (xs ++ [x]).flatMap enc) :
    OwO e enc h0 (((h.new c0).set b .dead).new (.row true e cells)) (some (h.n + 1)) (xs ++ [x]) (.slice (some ⟨h.n + 1, 0, none⟩) (xs.length + 1) (xs.length + 1)) := by
  obtain ⟨_, _, h1, h2⟩ := H
  refine ⟨by simp, ?_, ?_, ?_⟩
  · simp [hc]
  · omega
  · simp
theorem OwO.push0 {α : Type} {e : TypeId} {enc : α → List Value} {h0 h : Heap} (hn : h0.n ≤ h.n) (c0 : Blk) (x : α) {cells : List Value} (hc : cells = enc x) :
    OwO e enc h0 ((h.new c0).new (.row true e cells)) (some (h.n + 1)) [x] (.slice (some ⟨h.n + 1, 0, none⟩) 1 1) := by
  refine ⟨by simp, ?_, ?_, ?_⟩
  · simp [hc]
  · omega
  · simp
theorem ext_push {h0 h : Heap} (E : Ext h0 h) {b : Nat} (hb : h0.n ≤ b) (c0 c1 c2 : Blk) : Ext h0 (((h.new c0).set b c2).new c1) := ((E.newOf _).setOf hb _).newOf _
/-! errors.As, errors.Is -/
structure FR where
  code : Int
  line : Int
  col : Int
deriving DecidableEq
/-- an error of the program's own make: a chain of Failures in blocks below n, the outer one first -/
inductive ChA (h : Heap) (n : Nat) : Value → List FR → Prop
  | nil : ChA h n .nilIface []
  | cons (b : Nat) (f : FR) (E : Value) (l : List FR) : h.f b = .row true 89 [.int .i64 f.code, .int .i64 f.line, .int .i64 f.col, E] → b < n → ChA h n E l → ChA h n (.iface 58 (.pointer (some ⟨b, 0, none⟩))) (f :: l)
theorem ChA.up {h h' : Heap} {n n' : Nat} {E : Value} {l : List FR} (H : ChA h n E l) (hn : n ≤ n') (hf : ∀ b, b < n → h'.f b = h.f b) : ChA h' n' E l := by
  induction H with
  | nil => exact .nil
  | cons b f E l h1 h2 _ ih => exact .cons b f E l (by rw [hf b h2]; exact h1) (by omega) ih
theorem ChA.ext {h h' : Heap} {E : Value} {l : List FR} (H : ChA h h.n E l) (X : Ext h h') : ChA h' h'.n E l := H.up X.n X.f
theorem as_nil_ok (tv : Value) (h : Heap) (G : GlobOK h) : ACalls PP 21 [.nilIface, tv] h (fun v h' => h' = h ∧ v = .bool false) := by
  refine acalls_keep ⟨Tryz.f21, by rw [PP_eq]; exact Tryz.func21, by kernel_rfl, by kernel_rfl⟩ G.ne fun ρ w args' R V => ?_
  obtain ⟨v0, hv0, V0⟩ := V.2 0 _ rfl
  obtain ⟨v1, hv1, V1⟩ := V.2 1 _ rfl
  have e0 : v0 = .nilIface := V0.flat1 rfl
  subst e0
  have hargs : args' = [.nilIface, v1] := by
    have := V.1
    match args', hv0, hv1, this with
    | [p, q], h0, h1, _ => simp at h0 h1; rw [h0, h1]
  subst hargs
  rw [PP_eq]
  refine (as_nil v1 w).mono ?_
  rintro e w' ⟨rfl, rfl⟩
  exact ⟨_, rfl, rfl, rfl, Below.refl _ _⟩
theorem as_hit_ok (b t : Nat) (old : Value) (h : Heap) (G : GlobOK h) (ht : h.f t = .row true 58 [old]) :
    ACalls PP 21 [.iface 58 (.pointer (some ⟨b, 0, none⟩)), .iface 60 (.pointer (some ⟨t, 0, none⟩))] h (fun v h' => v = .bool true ∧ h' = h.set t (.row true 58 [.pointer (some ⟨b, 0, none⟩)])) := by
  refine ⟨⟨Tryz.f21, by rw [PP_eq]; exact Tryz.func21, by kernel_rfl, by kernel_rfl⟩, fun ρ w args' hbx R V => ?_⟩
  obtain ⟨v0, hv0, V0⟩ := V.2 0 _ rfl
  obtain ⟨v1, hv1, V1⟩ := V.2 1 _ rfl
  have hargs : args' = [v0, v1] := by
    have := V.1
    match args', hv0, hv1, this with
    | [p, q], h0, h1, _ => simp at h0 h1; rw [h0, h1]
  subst hargs
  cases V0 with
  | iface _ _ u0 V0 =>
  cases V1 with
  | iface _ _ u1 V1 =>
  have V0' := V0
  cases V0 with
  | ptr _ _ plb hkb =>
  cases V1 with
  | ptr _ _ plt hkt =>
  obtain ⟨C, e', fz, c1, c2, c3, c4, c5, c6⟩ := R.row (false, t) plt true 58 [old] hkt (by simp [Mem.row?, ht])
  obtain rfl := c2 rfl
  obtain ⟨old', o1, o2⟩ := c6 0 old rfl
  have hbt := R.bound _ _ hkt
  have ht0 : w.cell? ⟨plt.B, plt.o + 0, none⟩ = some old' := by
    unfold World.cell?
    simp only [c1, Option.isSome_none]
    simpa using o1
  have hf0 : w.frozen? ⟨plt.B, plt.o + 0, none⟩ = false := by
    unfold World.frozen?
    simp only [c1]
    simp
  have hg := G.heap0 R
  have key := as_hit ⟨plb.B, plb.o + 0, none⟩ ⟨plt.B, plt.o + 0, none⟩ old' w hg ht0 hf0
  rw [← PP_eq] at key
  refine key.mono ?_
  rintro e w' ⟨rfl, hw⟩
  have hpush : ∀ (B : Nat) (o1 o2 o3 o4 : Obj), B < w.heap.size → ((((w.heap.push o1).push o2).push o3).push o4)[B]? = w.heap[B]? := by
    intro B o1 o2 o3 o4 hB
    rw [Array.getElem?_push, if_neg (by simp; omega), Array.getElem?_push, if_neg (by simp; omega), Array.getElem?_push, if_neg (by simp; omega), Array.getElem?_push, if_neg (by omega)]
  obtain ⟨q1, q2⟩ := turned (w' := w') R hkt ht (cs' := [.pointer (some ⟨b, 0, none⟩)]) rfl (by rw [hw]; rfl) (by rw [hw]; rfl) (by rw [hw]; rfl) (by rw [hw]; exact Nat.le_refl _)
    (by rw [hw]; simp only [World.setCell, World.alloc, Array.size_modify, Array.size_push]; omega)
    (fun B hB hne => by
      rw [hw]
      simp only [World.setCell, World.alloc]
      rw [Array.getElem?_modify, if_neg (Ne.symm hne), hpush B _ _ _ _ hB])
    (fun C2 e2 fz2 hC2 => by
      rw [c1] at hC2
      simp only [Option.some.injEq, Obj.cells.injEq] at hC2
      obtain ⟨rfl, rfl, rfl⟩ := hC2
      refine ⟨C.setIfInBounds (plt.o + 0) (.pointer (some ⟨plb.B, plb.o + 0, none⟩)), ?_, by simp, fun i v hi => ?_⟩
      · rw [hw]
        simp only [World.setCell, World.alloc]
        rw [Array.getElem?_modify, if_pos rfl, hpush plt.B _ _ _ _ hbt, c1]
        rfl
      · cases i with
        | succ i => simp at hi
        | zero =>
          simp at hi
          subst hi
          have hlt : plt.o < C.size := by
            rcases Nat.lt_or_ge plt.o C.size with z | z
            · exact z
            · rw [Nat.add_zero, Array.getElem?_eq_none z] at o1; cases o1
          exact ⟨_, by simp [hlt], V0'⟩)
  exact ⟨.bool true, .bool true, _, ρ, rfl, ⟨rfl, rfl⟩, hbx, q1, q2, .bool true⟩
end Go.Proofs.Yph.F
/- The abstract machine, part Y: arguments that are slices of whatever is made of whole numbers, one behind the other. -/
namespace Go.Am
open Go Go.RowKit
/-- a slice whose elements are of sz cells, all of them whole numbers -/
def RowW (w : World) (sz : Nat) (a : Option Addr) (len cap : Nat) (zs : List Int) : Prop :=
  (a = none ∧ len = 0 ∧ cap = 0 ∧ zs = []) ∨
  ∃ x, a = some x ∧ len ≤ cap ∧ zs.length = cap * sz ∧ (∀ i, i < zs.length → w.cell? (x.add i) = some (.int .i64 (zs.getD i 0)))
/-- as a function sees it: the cells of the elements -/
def RowA (e : TypeId) (h : Heap) (v : Value) (len : Nat) (zs : List Int) : Prop := ∃ ad c, v = .slice ad len c ∧ (ad = none → c = 0) ∧ (len = 0 ∨ ∃ b cs, ad = some ⟨b, 0, none⟩ ∧ h.f b = .row false e (zs.map (Value.int .i64) ++ cs) ∧ b < h.n)
theorem RowA.ext {e : TypeId} {h h' : Heap} {v : Value} {len : Nat} {zs : List Int} (H : RowA e h v len zs) (E : Ext h h') : RowA e h' v len zs := by
  obtain ⟨ad, c, rfl, hc, z⟩ := H
  refine ⟨ad, c, rfl, hc, ?_⟩
  rcases z with z | ⟨b, cs, rfl, h2, h3⟩
  · exact .inl z
  · exact .inr ⟨b, cs, rfl, by rw [E.f b h3]; exact h2, Nat.lt_of_lt_of_le h3 E.n⟩
/-- what is known of the arguments that are laid so far -/
structure Laid (P : Program) (w : World) (ρ : Rho) (h : Heap) : Prop where
  box : ∀ s, ρ (true, s) = none
  rel : MRel P ρ ⟨Boxes.nil, h⟩ w
  g : h.g = 0
  own : ∀ B, ¬ Own ρ h B
theorem Laid.start (P : Program) (w : World) : Laid P w rho0 h0 := ⟨fun _ => rfl, mrel0 P w h0 rfl, rfl, fun B ⟨b, pl, q, _⟩ => by simp [rho0] at q⟩
theorem glue_add {P : Program} {e : TypeId} {sz : Nat} (hc : P.cellsOf e = sz) (hs0 : 0 < sz) {w : World} {ρ : Rho} {h : Heap} (L : Laid P w ρ h) {a : Option Addr} {len cap : Nat} {zs : List Int} (H : RowW w sz a len cap zs) :
    ∃ (h' : Heap) (v : Value) (ρ' : Rho), Laid P w ρ' h' ∧ Ext h h' ∧ (∀ b pl, ρ (false, b) = some pl → ρ' (false, b) = some pl) ∧ VR ρ' v (.slice a len cap) ∧ RowA e h' v len (zs.take (len * sz)) ∧ (zs.take (len * sz)).length = len * sz := by
  rcases H with ⟨rfl, rfl, rfl, rfl⟩ | ⟨x, rfl, hl, hz, hcell⟩
  · exact ⟨h, _, ρ, L, Ext.rfl' h, fun _ _ q => q, .sln, ⟨none, 0, rfl, fun _ => rfl, .inl rfl⟩, by simp⟩
  · by_cases hcap : cap = 0
    · subst hcap
      have : len = 0 := by omega
      subst this
      exact ⟨h, _, ρ, L, Ext.rfl' h, fun _ _ q => q, .sl0 default x 0, ⟨_, _, rfl, fun _ => rfl, .inl rfl⟩, by simp⟩
    · have hpos : 0 < zs.length := by rw [hz]; exact Nat.mul_pos (by omega) hs0
      have hc0 := hcell 0 hpos
      obtain ⟨blk, off, spot⟩ := x
      have key : ∀ i, i < zs.length → ∃ C e fz, w.heap[blk]? = some (.cells C e fz) ∧ C[off + i]? = some (.int .i64 (zs.getD i 0)) ∧ (i = 0 → spot = none) := by
        intro i hi
        have := hcell i hi
        unfold World.cell? at this
        rw [Go.Am.add_add] at this
        split at this
        · rename_i C e fz hh
          split at this
          · simp at this
          · rename_i hs
            refine ⟨C, e, fz, hh, ?_, fun e0 => ?_⟩
            · by_cases hi0 : i = 0
              · subst hi0; simpa [Addr.add] using this
              · simpa [Addr.add, hi0] using this
            · subst e0; simpa [Addr.add] using hs
        · simp at this
      obtain ⟨C, e0, fz, hh, _, hsp⟩ := key 0 hpos
      obtain rfl := hsp rfl
      have hC : ∀ i, i < zs.length → C[off + i]? = some (.int .i64 (zs.getD i 0)) := fun i hi => by
        obtain ⟨C', e', fz', q1, q2, _⟩ := key i hi
        rw [hh] at q1; simp only [Option.some.injEq, Obj.cells.injEq] at q1
        rw [q1.1]; exact q2
      have hsz : off + zs.length ≤ C.size := by
        have := hC (zs.length - 1) (by omega)
        have h2 : off + (zs.length - 1) < C.size := by rcases Nat.lt_or_ge (off + (zs.length - 1)) C.size with z | z; exact z; rw [Array.getElem?_eq_none z] at this; cases this
        omega
      have hblk : blk < w.heap.size := by
        rcases Nat.lt_or_ge blk w.heap.size with z | z
        · exact z
        · rw [Array.getElem?_eq_none z] at hh; cases hh
      obtain ⟨pl, hpl⟩ : ∃ pl : Pl, pl = ⟨blk, off, zs.length, sz⟩ := ⟨_, rfl⟩
      obtain ⟨h', hh'⟩ : ∃ h', h' = h.new (.row false e (zs.map (Value.int .i64))) := ⟨_, rfl⟩
      obtain ⟨ρ', hρ'⟩ : ∃ ρ' : Rho, ρ' = fun k => if k = (false, h.n) then some pl else ρ k := ⟨_, rfl⟩
      have E : Ext h h' := by rw [hh']; exact Ext.new h _
      have hold : ∀ k pl', ρ k = some pl' → ρ' k = some pl' := fun k pl' q => by
        obtain ⟨t, b⟩ := k
        rw [hρ']
        cases t with
        | true => rw [L.box] at q; cases q
        | false =>
          have := L.rel.dom b pl' q
          simp only at this
          show (if ((false, b) : Key) = (false, h.n) then some pl else ρ (false, b)) = some pl'
          rw [if_neg (by simp; omega)]; exact q
      have hcase : ∀ k pl', ρ' k = some pl' → (k = (false, h.n) ∧ pl' = pl) ∨ (k ≠ (false, h.n) ∧ ρ k = some pl') := fun k pl' q => by
        rw [hρ'] at q
        simp only at q
        split at q
        · rename_i e1; exact .inl ⟨e1, (Option.some.inj q).symm⟩
        · rename_i e1; exact .inr ⟨e1, q⟩
      have hfold : ∀ b pl', ρ (false, b) = some pl' → h'.f b = h.f b := fun b pl' q => E.f b (L.rel.dom b pl' q)
      have hfnew : h'.f h.n = .row false e (zs.map (Value.int .i64)) := by rw [hh']; simp [Heap.new]
      have nowr : ∀ k pl', ρ' k = some pl' → ¬ (Mem.mk Boxes.nil h').wr k := by
        intro k pl' q hw
        obtain ⟨t, b⟩ := k
        rcases hcase _ _ q with ⟨e1, _⟩ | ⟨_, q'⟩
        · simp only [Prod.mk.injEq] at e1
          obtain ⟨rfl, rfl⟩ := e1
          simp [Mem.wr, Heap.wr, hfnew] at hw
        · cases t with
          | true => rw [L.box] at q'; cases q'
          | false =>
            refine L.own pl'.B ⟨b, pl', q', rfl, ?_⟩
            simp only [Mem.wr, Heap.wr] at hw
            rw [hfold b pl' q'] at hw
            exact hw
      have hn' : h'.n = h.n + 1 := by rw [hh']; rfl
      have R : MRel P ρ' ⟨Boxes.nil, h'⟩ w := by
        refine ⟨fun k pl' q => ?_, fun b pl' q => ?_, fun k pl' wr e' cs q r => ?_, fun b pl' o q r => ?_, fun k k' pl1 pl2 hne q q' hw => absurd hw (nowr k pl1 q), fun i hi => ?_⟩
        · rcases hcase _ _ q with ⟨_, rfl⟩ | ⟨_, q'⟩
          · rw [hpl]; exact hblk
          · exact L.rel.bound k pl' q'
        · rcases hcase _ _ q with ⟨e1, _⟩ | ⟨_, q'⟩
          · simp only [Prod.mk.injEq, true_and] at e1
            show b < h'.n
            omega
          · have := L.rel.dom b pl' q'
            exact Nat.lt_of_lt_of_le this E.n
        · rcases hcase _ _ q with ⟨rfl, rfl⟩ | ⟨_, q'⟩
          · simp only [Mem.row?, hfnew, Option.some.injEq, Prod.mk.injEq] at r
            obtain ⟨rfl, rfl, rfl⟩ := r
            subst hpl
            refine ⟨C, e0, fz, hh, by simp, by simp, hsz, hc.symm, fun i v hi => ?_⟩
            rw [List.getElem?_map] at hi
            cases hzi : zs[i]? with
            | none => rw [hzi] at hi; simp at hi
            | some z =>
              rw [hzi] at hi; simp at hi; subst hi
              have hlt : i < zs.length := by rw [List.getElem?_eq_some_iff] at hzi; exact hzi.1
              refine ⟨_, hC i hlt, ?_⟩
              rw [List.getD_eq_getElem?_getD, hzi]
              exact .int _ _
          · obtain ⟨t, b⟩ := k
            cases t with
            | true => rw [L.box] at q'; cases q'
            | false =>
              have r' : (Mem.mk Boxes.nil h).row? (false, b) = some (wr, e', cs) := by
                simp only [Mem.row?] at r ⊢
                rw [hfold b pl' q'] at r; exact r
              obtain ⟨C1, e1, fz1, c1, c2, c3, c4, c5, c6⟩ := L.rel.row _ _ _ _ _ q' r'
              exact ⟨C1, e1, fz1, c1, c2, c3, c4, c5, fun i v hi => let ⟨v', z1, z2⟩ := c6 i v hi; ⟨v', z1, z2.mono fun b pl z => hold _ _ z⟩⟩
        · rcases hcase _ _ q with ⟨e1, rfl⟩ | ⟨_, q'⟩
          · simp only [Prod.mk.injEq, true_and] at e1
            subst e1
            simp only at r
            rw [hfnew] at r; cases r
          · exact L.rel.obj b pl' o q' (by simp only at r ⊢; rw [hfold b pl' q'] at r; exact r)
        · have : h'.g = 0 := by rw [hh']; exact L.g
          simp only at hi
          omega
      refine ⟨h', .slice (some ⟨h.n, 0, none⟩) len len, ρ', ⟨fun s => ?_, R, by rw [hh']; exact L.g, fun B ⟨b, pl', q, _, hw⟩ => ?_⟩, E, fun b pl' q => hold _ _ q, ?_, ?_, ?_⟩
      · rw [hρ']
        show (if ((true, s) : Key) = (false, h.n) then some pl else ρ (true, s)) = none
        rw [if_neg (by simp)]; exact L.box s
      · exact nowr (false, b) pl' q hw
      · have hk : ρ' (false, h.n) = some pl := by rw [hρ']; simp
        have := VR.sl (ρ := ρ') h.n 0 len len pl cap hk hl (by rw [hpl]; simp only; omega)
        rw [hpl] at this
        simpa using this
      · refine ⟨_, _, rfl, fun q => by simp at q, ?_⟩
        by_cases hl0 : len = 0
        · exact .inl hl0
        · exact .inr ⟨h.n, (zs.drop (len * sz)).map (Value.int .i64), rfl, by rw [hfnew, ← List.map_append, List.take_append_drop], by omega⟩
      · rw [List.length_take, hz]
        have := Nat.mul_le_mul_right sz hl
        omega
end Go.Am
/- The abstract machine: a world with listed variables, and arguments that are slices of whole numbers behind them; from a contract to a row's walk. -/
namespace Go.Am
open Go Go.RowKit
/-- what is known of the listed variables, and of the arguments that are laid so far -/
structure LaidG (P : Program) (g : Nat) (w : World) (ρ : Rho) (h : Heap) : Prop where
  box : ∀ s, ρ (true, s) = none
  rel : MRel P ρ ⟨Boxes.nil, h⟩ w
  gl : h.g = g
  own : ∀ B, Own ρ h B → B < g
  ats : ∀ i, i < g → ρ (false, i) = some ⟨i, 0, 0, 0⟩ ∧ i < h.n ∧ ∃ o, h.f i = .obj o ∧ w.heap[i]? = some o
  no : ∀ i, i < g → ∀ C t f, w.heap[i]? = some (.cells C t f) → ∀ (j : Nat) (z : Int), C[j]? ≠ some (.int .i64 z)
def rhoN (g : Nat) : Rho := fun k => match k with
  | (false, i) => if i < g then some ⟨i, 0, 0, 0⟩ else none
  | (true, _) => none
def hN (g : Nat) (os : Nat → Obj) : Heap := ⟨g, g, fun b => if b < g then .obj (os b) else .dead⟩
theorem rhoN_some {g : Nat} {k : Key} {pl : Pl} (h : rhoN g k = some pl) : ∃ i, i < g ∧ k = (false, i) ∧ pl = ⟨i, 0, 0, 0⟩ := by
  obtain ⟨t, i⟩ := k
  cases t with
  | true => simp [rhoN] at h
  | false =>
    simp only [rhoN] at h
    split at h
    · exact ⟨i, by assumption, rfl, (Option.some.inj h).symm⟩
    · cases h
theorem LaidG.start (P : Program) {g : Nat} {w : World} (os : Nat → Obj) (H : ∀ i, i < g → w.heap[i]? = some (os i)) (no : ∀ i, i < g → ∀ C t f, w.heap[i]? = some (.cells C t f) → ∀ (j : Nat) (z : Int), C[j]? ≠ some (.int .i64 z)) : LaidG P g w (rhoN g) (hN g os) := by
  have hlt : ∀ i, i < g → i < w.heap.size := fun i hi => by
    rcases Nat.lt_or_ge i w.heap.size with z | z
    · exact z
    · have := H i hi; rw [Array.getElem?_eq_none z] at this; cases this
  refine ⟨fun s => rfl, ⟨?_, ?_, ?_, ?_, ?_, ?_⟩, rfl, ?_, ?_, no⟩
  · intro k pl q
    obtain ⟨i, hi, rfl, rfl⟩ := rhoN_some q
    exact hlt i hi
  · intro b pl q
    obtain ⟨i, hi, e, rfl⟩ := rhoN_some q
    simp only [Prod.mk.injEq, true_and] at e
    subst e
    exact hi
  · intro k pl wr e cs q r
    obtain ⟨i, hi, rfl, rfl⟩ := rhoN_some q
    simp [Mem.row?, hN, hi] at r
  · intro b pl o q r
    obtain ⟨i, hi, e, rfl⟩ := rhoN_some q
    simp only [Prod.mk.injEq, true_and] at e
    subst e
    simp [hN, hi] at r
    subst r
    exact ⟨H b hi, rfl⟩
  · intro k k' pl pl' hne q q' _ _
    obtain ⟨i, hi, rfl, rfl⟩ := rhoN_some q
    obtain ⟨j, hj, rfl, rfl⟩ := rhoN_some q'
    intro e
    simp only at e
    exact hne (by rw [e])
  · intro i hi
    have hi' : i < g := hi
    exact ⟨⟨i, 0, 0, 0⟩, by simp [rhoN, hi'], rfl, rfl⟩
  · rintro B ⟨b, pl, q, rfl, hw⟩
    obtain ⟨i, hi, e, rfl⟩ := rhoN_some q
    exact hi
  · intro i hi
    exact ⟨by simp [rhoN, hi], hi, os i, by simp [hN, hi], H i hi⟩
theorem glue_addG {P : Program} {g : Nat} {e : TypeId} {sz : Nat} (hc : P.cellsOf e = sz) (hs0 : 0 < sz) {w : World} {ρ : Rho} {h : Heap} (L : LaidG P g w ρ h) {a : Option Addr} {len cap : Nat} {zs : List Int} (H : RowW w sz a len cap zs) :
    ∃ (h' : Heap) (v : Value) (ρ' : Rho), LaidG P g w ρ' h' ∧ Ext h h' ∧ (∀ b pl, ρ (false, b) = some pl → ρ' (false, b) = some pl) ∧ VR ρ' v (.slice a len cap) ∧ RowA e h' v len (zs.take (len * sz)) ∧ (zs.take (len * sz)).length = len * sz := by
  rcases H with ⟨rfl, rfl, rfl, rfl⟩ | ⟨x, rfl, hl, hz, hcell⟩
  · exact ⟨h, _, ρ, L, Ext.rfl' h, fun _ _ q => q, .sln, ⟨none, 0, rfl, fun _ => rfl, .inl rfl⟩, by simp⟩
  · by_cases hcap : cap = 0
    · subst hcap
      have : len = 0 := by omega
      subst this
      exact ⟨h, _, ρ, L, Ext.rfl' h, fun _ _ q => q, .sl0 default x 0, ⟨_, _, rfl, fun _ => rfl, .inl rfl⟩, by simp⟩
    · have hpos : 0 < zs.length := by rw [hz]; exact Nat.mul_pos (by omega) hs0
      have hc0 := hcell 0 hpos
      obtain ⟨blk, off, spot⟩ := x
      have key : ∀ i, i < zs.length → ∃ C e fz, w.heap[blk]? = some (.cells C e fz) ∧ C[off + i]? = some (.int .i64 (zs.getD i 0)) ∧ (i = 0 → spot = none) := by
        intro i hi
        have := hcell i hi
        unfold World.cell? at this
        rw [Go.Am.add_add] at this
        split at this
        · rename_i C e fz hh
          split at this
          · simp at this
          · rename_i hs
            refine ⟨C, e, fz, hh, ?_, fun e0 => ?_⟩
            · by_cases hi0 : i = 0
              · subst hi0; simpa [Addr.add] using this
              · simpa [Addr.add, hi0] using this
            · subst e0; simpa [Addr.add] using hs
        · simp at this
      obtain ⟨C, e0, fz, hh, _, hsp⟩ := key 0 hpos
      obtain rfl := hsp rfl
      have hC : ∀ i, i < zs.length → C[off + i]? = some (.int .i64 (zs.getD i 0)) := fun i hi => by
        obtain ⟨C', e', fz', q1, q2, _⟩ := key i hi
        rw [hh] at q1; simp only [Option.some.injEq, Obj.cells.injEq] at q1
        rw [q1.1]; exact q2
      have hsz : off + zs.length ≤ C.size := by
        have := hC (zs.length - 1) (by omega)
        have h2 : off + (zs.length - 1) < C.size := by rcases Nat.lt_or_ge (off + (zs.length - 1)) C.size with z | z; exact z; rw [Array.getElem?_eq_none z] at this; cases this
        omega
      have hblk : blk < w.heap.size := by
        rcases Nat.lt_or_ge blk w.heap.size with z | z
        · exact z
        · rw [Array.getElem?_eq_none z] at hh; cases hh
      obtain ⟨pl, hpl⟩ : ∃ pl : Pl, pl = ⟨blk, off, zs.length, sz⟩ := ⟨_, rfl⟩
      obtain ⟨h', hh'⟩ : ∃ h', h' = h.new (.row false e (zs.map (Value.int .i64))) := ⟨_, rfl⟩
      obtain ⟨ρ', hρ'⟩ : ∃ ρ' : Rho, ρ' = fun k => if k = (false, h.n) then some pl else ρ k := ⟨_, rfl⟩
      have E : Ext h h' := by rw [hh']; exact Ext.new h _
      have hold : ∀ k pl', ρ k = some pl' → ρ' k = some pl' := fun k pl' q => by
        obtain ⟨t, b⟩ := k
        rw [hρ']
        cases t with
        | true => rw [L.box] at q; cases q
        | false =>
          have := L.rel.dom b pl' q
          simp only at this
          show (if ((false, b) : Key) = (false, h.n) then some pl else ρ (false, b)) = some pl'
          rw [if_neg (by simp; omega)]; exact q
      have hcase : ∀ k pl', ρ' k = some pl' → (k = (false, h.n) ∧ pl' = pl) ∨ (k ≠ (false, h.n) ∧ ρ k = some pl') := fun k pl' q => by
        rw [hρ'] at q
        simp only at q
        split at q
        · rename_i e1; exact .inl ⟨e1, (Option.some.inj q).symm⟩
        · rename_i e1; exact .inr ⟨e1, q⟩
      have hfold : ∀ b pl', ρ (false, b) = some pl' → h'.f b = h.f b := fun b pl' q => E.f b (L.rel.dom b pl' q)
      have hfnew : h'.f h.n = .row false e (zs.map (Value.int .i64)) := by rw [hh']; simp [Heap.new]
      have hblkg : g ≤ blk := by
        rcases Nat.lt_or_ge blk g with z | z
        · exact absurd (hC 0 hpos) (L.no blk z C e0 fz hh _ _)
        · exact z
      have nowr : ∀ k pl', ρ' k = some pl' → (Mem.mk Boxes.nil h').wr k → ∃ b, k = (false, b) ∧ ρ (false, b) = some pl' ∧ h.wr b := by
        intro k pl' q hw
        obtain ⟨t, b⟩ := k
        rcases hcase _ _ q with ⟨e1, _⟩ | ⟨_, q'⟩
        · simp only [Prod.mk.injEq] at e1
          obtain ⟨rfl, rfl⟩ := e1
          simp [Mem.wr, Heap.wr, hfnew] at hw
        · cases t with
          | true => rw [L.box] at q'; cases q'
          | false =>
            refine ⟨b, rfl, q', ?_⟩
            simp only [Mem.wr, Heap.wr] at hw
            rw [hfold b pl' q'] at hw
            exact hw
      have hn' : h'.n = h.n + 1 := by rw [hh']; rfl
      have R : MRel P ρ' ⟨Boxes.nil, h'⟩ w := by
        refine ⟨fun k pl' q => ?_, fun b pl' q => ?_, fun k pl' wr e' cs q r => ?_, fun b pl' o q r => ?_, fun k k' pl1 pl2 hne q q' hw hl => ?_, fun i hi => ?_⟩
        · rcases hcase _ _ q with ⟨_, rfl⟩ | ⟨_, q'⟩
          · rw [hpl]; exact hblk
          · exact L.rel.bound k pl' q'
        · rcases hcase _ _ q with ⟨e1, _⟩ | ⟨_, q'⟩
          · simp only [Prod.mk.injEq, true_and] at e1
            show b < h'.n
            omega
          · have := L.rel.dom b pl' q'
            exact Nat.lt_of_lt_of_le this E.n
        · rcases hcase _ _ q with ⟨rfl, rfl⟩ | ⟨_, q'⟩
          · simp only [Mem.row?, hfnew, Option.some.injEq, Prod.mk.injEq] at r
            obtain ⟨rfl, rfl, rfl⟩ := r
            subst hpl
            refine ⟨C, e0, fz, hh, by simp, by simp, hsz, hc.symm, fun i v hi => ?_⟩
            rw [List.getElem?_map] at hi
            cases hzi : zs[i]? with
            | none => rw [hzi] at hi; simp at hi
            | some z =>
              rw [hzi] at hi; simp at hi; subst hi
              have hlt : i < zs.length := by rw [List.getElem?_eq_some_iff] at hzi; exact hzi.1
              refine ⟨_, hC i hlt, ?_⟩
              rw [List.getD_eq_getElem?_getD, hzi]
              exact .int _ _
          · obtain ⟨t, b⟩ := k
            cases t with
            | true => rw [L.box] at q'; cases q'
            | false =>
              have r' : (Mem.mk Boxes.nil h).row? (false, b) = some (wr, e', cs) := by
                simp only [Mem.row?] at r ⊢
                rw [hfold b pl' q'] at r; exact r
              obtain ⟨C1, e1, fz1, c1, c2, c3, c4, c5, c6⟩ := L.rel.row _ _ _ _ _ q' r'
              exact ⟨C1, e1, fz1, c1, c2, c3, c4, c5, fun i v hi => let ⟨v', z1, z2⟩ := c6 i v hi; ⟨v', z1, z2.mono fun b pl z => hold _ _ z⟩⟩
        · rcases hcase _ _ q with ⟨e1, rfl⟩ | ⟨_, q'⟩
          · simp only [Prod.mk.injEq, true_and] at e1
            subst e1
            simp only at r
            rw [hfnew] at r; cases r
          · exact L.rel.obj b pl' o q' (by simp only at r ⊢; rw [hfold b pl' q'] at r; exact r)
        · obtain ⟨b, rfl, q1, hwb⟩ := nowr _ _ q hw
          have h1 := L.own pl1.B ⟨b, pl1, q1, rfl, hwb⟩
          rcases hcase _ _ q' with ⟨_, rfl⟩ | ⟨_, q2⟩
          · rw [hpl]; simp only; omega
          · obtain ⟨t, b'⟩ := k'
            cases t with
            | true => rw [L.box] at q2; cases q2
            | false =>
              refine L.rel.sep (false, b) (false, b') pl1 pl2 hne q1 q2 hwb ?_
              simp only [Mem.live] at hl ⊢
              rw [hfold b' pl2 q2] at hl
              exact hl
        · have hg' : h'.g = h.g := by rw [hh']; rfl
          obtain ⟨pl', z1, z2⟩ := L.rel.glob i (by simp only at hi ⊢; omega)
          exact ⟨pl', hold _ _ z1, z2⟩
      refine ⟨h', .slice (some ⟨h.n, 0, none⟩) len len, ρ', ⟨fun s => ?_, R, by rw [hh']; exact L.gl, fun B ⟨b, pl', q, e2, hw⟩ => ?_, fun i hi => ?_, L.no⟩, E, fun b pl' q => hold _ _ q, ?_, ?_, ?_⟩
      · rw [hρ']
        show (if ((true, s) : Key) = (false, h.n) then some pl else ρ (true, s)) = none
        rw [if_neg (by simp)]; exact L.box s
      · obtain ⟨b', e3, q1, hwb⟩ := nowr (false, b) pl' q hw
        simp only [Prod.mk.injEq, true_and] at e3
        subst e3
        rw [← e2]
        exact L.own pl'.B ⟨b, pl', q1, rfl, hwb⟩
      · obtain ⟨z1, z2, o, z3, z4⟩ := L.ats i hi
        exact ⟨hold _ _ z1, by omega, o, by rw [E.f i z2]; exact z3, z4⟩
      · have hk : ρ' (false, h.n) = some pl := by rw [hρ']; simp
        have := VR.sl (ρ := ρ') h.n 0 len len pl cap hk hl (by rw [hpl]; simp only; omega)
        rw [hpl] at this
        simpa using this
      · refine ⟨_, _, rfl, fun q => by simp at q, ?_⟩
        by_cases hl0 : len = 0
        · exact .inl hl0
        · exact .inr ⟨h.n, (zs.drop (len * sz)).map (Value.int .i64), rfl, by rw [hfnew, ← List.map_append, List.take_append_drop], by omega⟩
      · rw [List.length_take, hz]
        have := Nat.mul_le_mul_right sz hl
        omega
/-- the whole numbers of a slice, as the laws speak of them -/
theorem RowA.ints {h : Heap} {v : Value} {len : Nat} {zs : List Int} (H : RowA 3 h v len zs) (hl : zs.length = len) : IntsA h v zs := by
  obtain ⟨ad, c, rfl, hc, z⟩ := H
  refine ⟨ad, c, by rw [hl], ?_⟩
  rcases z with z | ⟨b, cs, rfl, h2, h3⟩
  · exact .inl (List.length_eq_zero_iff.1 (by omega))
  · exact .inr ⟨b, false, cs, rfl, h2, h3⟩
theorem IntsW.row {w : World} {a : Option Addr} {len cap : Nat} {zs : List Int} (H : IntsW w a len cap zs) : RowW w 1 a len cap zs := by
  rcases H with ⟨h1, h2, h3, h4⟩ | ⟨x, h1, h2, h3, h4⟩
  · exact .inl ⟨h1, h2, h3, h4⟩
  · exact .inr ⟨x, h1, h2, by omega, h4⟩
/-- a law that answers true, and makes things of its own alone -/
theorem law_walkG {P : Program} {g : Nat} {f : FuncId} {args args' : List Value} {h : Heap} {ρ : Rho} {w : World} (L : LaidG P g w ρ h) (H : ACalls P f args h (fun v h' => Ext h h' ∧ v = .bool true)) (V : VRl ρ args args') :
    Calls P f ⟨args'⟩ w fun e w' => e = .returned (.bool true) ∧ Below w.heap.size w w' := by
  refine (H.2 ρ w args' L.box L.rel V).mono ?_
  rintro e w' ⟨v, v', h', ρ', rfl, ⟨E, rfl⟩, _, R, T, hv⟩
  cases hv
  refine ⟨rfl, T.os, T.tape, T.output, T.size, fun k hk => ?_⟩
  rcases Nat.lt_or_ge k g with z | z
  · obtain ⟨z1, z2, o, z3, z4⟩ := L.ats k z
    rw [z4]
    exact (R.obj k _ o (T.ext k _ z1) (by show h'.f k = _; rw [E.f k z2]; exact z3)).1
  · exact T.frame k hk (fun o => by have := L.own k o; omega)
end Go.Am
/- What the listed variable gives: the worlds of the rows of Parse. -/
namespace Go.Proofs.Yph
open Go Go.Am Go.RowKit
def isLaid (w : World) : Prop := ∃ t f, w.heap[0]? = some (.cells #[.iface 138 (.agg #[.pointer (some ⟨1, 35, none⟩)])] t f)
theorem start_of {w : World} (L : isLaid w) : ∃ h ρ, LaidG PP 1 w ρ h ∧ F.GlobOK h := by
  obtain ⟨t, f, L⟩ := L
  refine ⟨_, _, LaidG.start PP (g := 1) (fun _ => .cells #[.iface 138 (.agg #[.pointer (some ⟨1, 35, none⟩)])] t f) (fun i hi => ?_) (fun i hi C t' f' hC j z => ?_), rfl, Nat.le_refl _, t, f, rfl⟩
  · obtain rfl : i = 0 := by omega
    exact L
  · obtain rfl : i = 0 := by omega
    rw [L] at hC
    simp only [Option.some.injEq, Obj.cells.injEq] at hC
    rw [← hC.1]
    rcases j with _ | j
    · simp
    · simp
theorem globOK_ext {h h' : Heap} (G : F.GlobOK h) (E : Ext h h') : F.GlobOK h' := G.ext E
end Go.Proofs.Yph
namespace Go.Proofs.YthglohpeijfcfaaGreatDoor.AmPR
open Go Go.Am
def list : List (String × DataW Unit) := [("errors.errorType", Rows.laid_errors_errorType)]
theorem et : Tryz.prog.globalNamed "errors.errorType" = some 0 := by kernel_rfl
theorem rt : (Tryz.prog.cutTypes.find? (·.1 == "internal/reflectlite.rtype")).map (·.2) = some 138 := by kernel_rfl
theorem oneRow : ((List.range 222).filter fun t => Tryz.prog.rowNamed t [101, 114, 114, 111, 114]) = [35] := by kernel_rfl
theorem size : Tryz.prog.types.size = 222 := by kernel_rfl
theorem heads : (list.filter fun x => x.2.handleName?.isSome) = [("errors.errorType", Rows.laid_errors_errorType)] := by rfl
theorem rest : (list.filter fun x => x.2.handleName?.isNone) = [] := by rfl
theorem cells_of_var {P : Program} {w : World} {n : String} {g : Nat} {cs : Array Value} (hg : P.globalNamed n = some g) (h : w.var? P n = some cs) : ∃ t f, w.heap[g]? = some (.cells cs t f) := by
  simp only [World.var?, hg, Option.bind_some] at h
  split at h
  · rename_i C t f e
    simp only [Option.some.injEq] at h
    subst h
    exact ⟨t, f, e⟩
  · cases h
theorem isLaid_of {W : World} (h : laidMetH Tryz.prog list W) : Yph.isLaid W := by
  obtain ⟨h1, h2⟩ := laidMetH_iff.1 h
  rw [heads] at h2
  obtain ⟨name, u, ty, e1, e2, e3, e4, e5⟩ := h2 _ (List.mem_singleton.2 rfl)
  have en : name = [101, 114, 114, 111, 114] := (Option.some.inj e1).symm
  subst en
  obtain rfl := Option.some.inj (rt.symm.trans e2)
  have hm : ty ∈ (List.range 222).filter fun t => Tryz.prog.rowNamed t [101, 114, 114, 111, 114] := List.mem_filter.2 ⟨List.mem_range.2 (by rw [← size]; exact e3), e4⟩
  rw [oneRow] at hm
  obtain rfl := List.mem_singleton.1 hm
  have hh : typeHandle Tryz.prog 35 = .pointer (some ⟨1, 35, none⟩) := by kernel_rfl
  rw [hh] at e5
  exact cells_of_var et e5
noncomputable def laidWorld (os : Os) : World :=
  let w0 := World.holding Tryz.prog os ⟨#[], #[], []⟩
  { w0 with heap := w0.heap.modify 0 fun
      | .cells _ t frozen => .cells #[.iface 138 (.agg #[.pointer (some ⟨1, 35, none⟩)])] t frozen
      | o => o }
theorem laidWorld_met (os : Os) (args : Array Value) : laidMetH Tryz.prog list ((laidWorld os).forCall (fun _ _ => 0) ⟨#[], args, []⟩).memory :=
  laidMetH_of_parts (by rw [rest]; exact laidMet_of_run' 8 (by kernel_rfl) (by kernel_rfl)) (by rw [heads]; kernel_rfl)
end Go.Proofs.YthglohpeijfcfaaGreatDoor.AmPR
/- A row's slice of whole numbers is no longer than its weight allows: turned from the words that the kit's printer has for rows of laws over slices. -/
namespace Go.Proofs.Yph.Sized
open Go.ChangeShapes Go.WideShapes
/-- A row's slice of whole numbers is no longer than its weight allows. -/
theorem sized_ints {H : Type} {enc : TypeId × Value → H} {P : Program} {W : World} {base : Nat} {spare : Nat → Bool} {held : Bool} {t e : TypeId} {k : IntKind} {a : Option Addr} {len cap : Nat} {d : DataW H} {ps : List MemPlace} {ts : List TypeId} {ds : List (DataW H)} {j : Nat}
    (hsz : (DataW.weightsEach P ts ds).all (· ≤ reachBytes) = true) (ht : ts[j]? = some t) (hd : ds[j]? = some d) (hu : P.underlying t = some (.slice e)) (he : P.underlying e = some (.int k)) (hc : P.cellsOf e = 1) {B : Nat} (hB : P.bytesOf e = B)
    (h : DataW.Trod enc P W base spare held t (.slice a len cap) d ps) : len * B ≤ 140737488351232 := by
  obtain ⟨fuel, hf⟩ := h
  rcases open_ints hu he hc hf with ⟨hcs, _⟩ | ⟨x, l, c, zs, hcs, _, hl, _, hz, hx, _, _⟩
  · simp [Value.cells] at hcs
    obtain ⟨rfl, rfl, rfl⟩ := hcs
    simp
  · simp [Value.cells] at hcs
    obtain ⟨rfl, rfl, rfl⟩ := hcs
    obtain ⟨hx, _⟩ := Prod.mk.inj hx
    subst hx
    have z := sized_slice hsz ht hd hu
    rw [hB] at z
    have hl2 : len ≤ zs.length := by
      rw [hz]
      split
      · exact hl
      · exact Nat.le_refl _
    have h1 : (lits (H := H) k (zs.take len)).length + (lits (H := H) k (zs.drop len)).length = zs.length := by
      simp [lits]
      omega
    rw [h1] at z
    exact Nat.le_trans (Nat.mul_le_mul_right _ hl2) z
end Go.Proofs.Yph.Sized
namespace Go.Proofs.Yph.T
open Go Go.Am
set_option maxRecDepth 20000
set_option linter.unusedSimpArgs false
def kindV (b : Nat) : Nat := if b = 32 ∨ b = 9 ∨ b = 13 then 1 else if b = 35 then 2 else if b = 10 then 3 else if b = 45 then 6 else if 97 ≤ b ∧ b ≤ 122 then 4 else if 48 ≤ b ∧ b ≤ 57 then 5 else 0
theorem kind_ok (b : UInt8) (h : Heap) : ACalls PP 77 [.int .u8 b.toNat] h (fun v h' => h' = h ∧ v = .int .i64 (kindV b.toNat)) := by
  refine acalls_of_vc mix fn77 bodyEq77 rfl (by show 1 ≤ 30; decide) ok77 ?_
  simp only [body77, Tryz.f77]
  generalize b.toNat = n
  simp [cfg77, keep77]
  repeat' first
    | (refine condQ_of (fun hc => ?_) (fun hc => ?_) <;> simp only [decide_eq_true_eq, decide_eq_false_iff_not] at hc <;> simp [cfg77, keep77, hc])
    | (refine guardQ_of (fun hc => ?_) (fun hc => ?_) <;> simp only [decide_eq_true_eq, decide_eq_false_iff_not] at hc <;> simp [cfg77, keep77, hc])
  all_goals (simp only [kindV]; (repeat' split) <;> omega)
end Go.Proofs.Yph.T
namespace Go.Proofs.Yph.T
open Go Go.Am
set_option maxRecDepth 20000
set_option linter.unusedSimpArgs false
def runL (k : Nat) : List UInt8 → Nat
  | [] => 0
  | c :: r => if kindV c.toNat = k then runL k r + 1 else 0
theorem runL_drop {k a : Nat} {l : List UInt8} {c : UInt8} (hc : l[a]? = some c) : runL k (l.drop a) = if kindV c.toNat = k then runL k (l.drop (a + 1)) + 1 else 0 := by
  rw [List.getElem?_eq_some_iff] at hc
  obtain ⟨ha, hc⟩ := hc
  rw [List.drop_eq_getElem_cons ha, hc, runL]
theorem runL_end {k a : Nat} {l : List UInt8} (h : ¬ a < l.length) : runL k (l.drop a) = 0 := by
  rw [List.drop_eq_nil_of_le (by omega), runL]
def J21 (l : List UInt8) (a k : Nat) (h : Heap) (n : Nat) (σ : St) : Prop := ∃ b, n = l.length - b ∧ σ.t.get 0 = some (.string (B l)) ∧ σ.t.get 1 = some (.int .i64 (b : Nat)) ∧ σ.t.get 2 = some (.int .i64 k) ∧ σ.m.h = h ∧ b + runL k (l.drop b) = a + runL k (l.drop a)
theorem run_ok (l : List UInt8) (a k : Nat) (hl : l.length ≤ 1073741824) (h : Heap) : ACalls PP 78 [.string (B l), .int .i64 a, .int .i64 k] h (fun v h' => h' = h ∧ v = .int .i64 ((a + runL k (l.drop a) : Nat) : Int)) := by
  refine acalls_of_vc mix fn78 bodyEq78 rfl (by show 3 ≤ 22; decide) ok78 ?_
  simp only [body78, Tryz.f78]
  simp
  refine vc_loop (J21 l a k h) _ ⟨a, rfl, by simp, by simp, by simp, rfl, rfl⟩ ?_
  rintro n ⟨t, ⟨x, h'⟩⟩ ⟨b, rfl, h0, h1, h2, rfl, hr⟩
  simp at h0 h1 h2
  simp [h0, h1, h2]
  refine guardQ_of (fun hc => ?_) (fun hc => ?_) <;> simp only [decide_eq_true_eq, decide_eq_false_iff_not] at hc
  · have hb : b < l.length := by omega
    have hc' : l[b]? = some l[b] := List.getElem?_eq_getElem hb
    simp [h0, h1, h2, hc, hc']
    refine (kind_ok _ _).mono ?_
    rintro v h'' ⟨rfl, rfl⟩
    simp [h0, h1, h2, hc, hc', callQ]
    intro _
    have hr' := runL_drop (k := k) hc'
    refine condQ_of (fun hk => ?_) (fun hk => ?_) <;> simp only [decide_eq_true_eq, decide_eq_false_iff_not] at hk
    · rw [if_pos (by omega)] at hr'
      have hw : IntKind.wrap .i64 ((b : Int) + 1) = ((b + 1 : Nat) : Int) := by rw [i64wrap (by omega)]; omega
      simp [hw]
      exact ⟨l.length - (b + 1), by omega, b + 1, by omega, by simp [h0], by simp, by simp [h2], rfl, by omega⟩
    · rw [if_neg (by omega)] at hr'
      simp
      omega
  · have hr' := runL_end (k := k) (a := b) (l := l) (by omega)
    simp [h0, h1, h2, hc]
    omega
end Go.Proofs.Yph.T
namespace Go.Proofs.Yph.T
open Go Go.Am
set_option maxRecDepth 20000
set_option linter.unusedSimpArgs false
/-- blanks and remarks; true: within a remark -/
def skipL : Bool → List UInt8 → Nat
  | _, [] => 0
  | true, c :: r => if c.toNat = 10 then 0 else skipL true r + 1
  | false, c :: r => if kindV c.toNat = 1 then skipL false r + 1 else if kindV c.toNat = 2 then skipL true r + 1 else 0
theorem drop_get {a : Nat} {l : List UInt8} {c : UInt8} (hc : l[a]? = some c) : l.drop a = c :: l.drop (a + 1) := by
  rw [List.getElem?_eq_some_iff] at hc
  obtain ⟨ha, hc⟩ := hc
  rw [List.drop_eq_getElem_cons ha, hc]
theorem drop_end {a : Nat} {l : List UInt8} (h : ¬ a < l.length) : l.drop a = [] := List.drop_eq_nil_of_le (by omega)
theorem kind_remark {b : Nat} : kindV b = 2 ↔ b = 35 := by simp only [kindV]; (repeat' split) <;> omega
def J18 (l : List UInt8) (a : Nat) (h : Heap) (n : Nat) (σ : St) : Prop := ∃ b, n = l.length - b ∧ σ.t.get 0 = some (.string (B l)) ∧ σ.t.get 1 = some (.int .i64 (b : Nat)) ∧ σ.m.h = h ∧ b + skipL false (l.drop b) = a + skipL false (l.drop a)
def J18r (l : List UInt8) (a : Nat) (h : Heap) (n : Nat) (σ : St) : Prop := ∃ b, n = l.length - b ∧ a ≤ b ∧ σ.t.get 0 = some (.string (B l)) ∧ σ.t.get 1 = some (.int .i64 (b : Nat)) ∧ σ.m.h = h ∧ b + skipL true (l.drop b) = a + skipL true (l.drop a)
theorem skip_ok (l : List UInt8) (a : Nat) (hl : l.length ≤ 1073741824) (h : Heap) : ACalls PP 75 [.string (B l), .int .i64 a] h (fun v h' => h' = h ∧ v = .int .i64 ((a + skipL false (l.drop a) : Nat) : Int)) := by
  refine acalls_of_vc mix fn75 bodyEq75 rfl (by show 2 ≤ 33; decide) ok75 ?_
  simp only [body75, Tryz.f75]
  simp
  refine vc_loop (J18 l a h) _ ⟨a, rfl, by simp, by simp, rfl, rfl⟩ ?_
  rintro n ⟨t, ⟨x, h'⟩⟩ ⟨b, rfl, h0, h1, rfl, hr⟩
  simp at h0 h1
  simp [h0, h1]
  refine condQ_of (fun hc => ?_) (fun hc => ?_) <;> simp only [decide_eq_true_eq, decide_eq_false_iff_not] at hc
  · have hb : b < l.length := by omega
    have hc' : l[b]? = some l[b] := List.getElem?_eq_getElem hb
    have hd := drop_get hc'
    simp [h0, h1, hc']
    refine (kind_ok _ _).mono ?_
    rintro v h'' ⟨rfl, rfl⟩
    simp [h0, h1, hc', callQ]
    intro _
    refine condQ_of (fun hk => ?_) (fun hk => ?_) <;> simp only [decide_eq_true_eq, decide_eq_false_iff_not] at hk
    · have hw : IntKind.wrap .i64 ((b : Int) + 1) = ((b + 1 : Nat) : Int) := by rw [i64wrap (by omega)]; omega
      simp [hw, h0]
      rw [hd, skipL, if_pos (by omega)] at hr
      exact ⟨l.length - (b + 1), by omega, b + 1, by omega, by simp [h0], by simp, rfl, by omega⟩
    · simp [h0]
      refine condQ_of (fun hk2 => ?_) (fun hk2 => ?_) <;> simp only [decide_eq_true_eq, decide_eq_false_iff_not] at hk2
      · simp
        have h35 := kind_remark.1 (show kindV l[b].toNat = 2 by omega)
        refine vc_loop (J18r l b h'') _ ⟨b, rfl, Nat.le_refl _, by simp [h0], by simp, rfl, rfl⟩ ?_
        rintro n ⟨t, ⟨x, h'⟩⟩ ⟨c, rfl, hbc, h0, h1, rfl, hr2⟩
        simp at h0 h1
        rw [hd, skipL, if_neg (by omega), if_pos (by omega)] at hr
        have hr3 : skipL true (l.drop b) = skipL true (l.drop (b + 1)) + 1 := by rw [hd, skipL, if_neg (by omega)]
        simp [h0, h1]
        refine guardQ_of (fun hq => ?_) (fun hq => ?_) <;> simp only [decide_eq_true_eq, decide_eq_false_iff_not] at hq
        · have hb' : c < l.length := by omega
          have hc2 : l[c]? = some l[c] := List.getElem?_eq_getElem hb'
          have hd2 := drop_get hc2
          simp [h0, h1, hq, hc2]
          refine condQ_of (fun hk4 => ?_) (fun hk4 => ?_) <;> simp at hk4
          · have hw : IntKind.wrap .i64 ((c : Int) + 1) = ((c + 1 : Nat) : Int) := by rw [i64wrap (by omega)]; omega
            simp [hw]
            rw [hd2, skipL, if_neg (by omega)] at hr2
            exact ⟨l.length - (c + 1), by omega, c + 1, by omega, by omega, by simp [h0], by simp, rfl, by omega⟩
          · simp
            have hcb : b ≠ c := by
              intro e; subst e; omega
            rw [hd2, skipL, if_pos (by omega)] at hr2
            refine ⟨l.length - c, by omega, c, rfl, by simp [h0], by simp, rfl, ?_⟩
            have : kindV l[c].toNat = 3 := by rw [show l[c].toNat = 10 by omega]; rfl
            rw [hd2, skipL, if_neg (by omega), if_neg (by omega)]
            omega
        · have hr' := drop_end (a := c) (l := l) (by omega)
          simp [h0, h1, hq]
          rw [hr', skipL] at hr2
          refine ⟨l.length - c, by omega, c, rfl, by simp [h0], by simp, rfl, ?_⟩
          rw [hr', skipL]; omega
      · simp [h0]
        rw [hd, skipL, if_neg (by omega), if_neg (by omega)] at hr
        omega
  · have hr' := drop_end (a := b) (l := l) (by omega)
    rw [hr', skipL] at hr
    simp [h0, h1]
    omega
end Go.Proofs.Yph.T
namespace Go.Proofs.Yph.T
open Go Go.Am
set_option maxRecDepth 20000
set_option linter.unusedSimpArgs false
set_option maxHeartbeats 2000000
@[irreducible] def capN (n d : Nat) : Nat := if 2147483649 < n * 10 + d then 2147483649 else n * 10 + d
theorem capN_eq (n d : Nat) : capN n d = if 2147483649 < n * 10 + d then 2147483649 else n * 10 + d := by unfold capN; rfl
theorem capN_le (n d : Nat) : capN n d ≤ 2147483649 := by rw [capN_eq]; split <;> omega
def numL (n : Nat) : List UInt8 → Nat
  | [] => n
  | c :: r => numL (capN n (c.toNat - 48)) r
theorem numL_cons (n : Nat) (c : UInt8) (r : List UInt8) : numL n (c :: r) = numL (capN n (c.toNat - 48)) r := by simp only [numL]
theorem numL_nil (n : Nat) : numL n [] = n := by simp only [numL]
def isD (c : UInt8) : Prop := 48 ≤ c.toNat ∧ c.toNat ≤ 57
theorem kind_digit {b : Nat} : kindV b = 5 ↔ 48 ≤ b ∧ b ≤ 57 := by simp only [kindV]; (repeat' split) <;> omega
theorem kind_minus {b : Nat} : kindV b = 6 ↔ b = 45 := by simp only [kindV]; (repeat' split) <;> omega
theorem numL_le : ∀ (l : List UInt8) (n : Nat), n ≤ 2147483649 → numL n l ≤ 2147483649 := by
  intro l
  induction l with
  | nil => intro n h; exact h
  | cons c r ih => intro n h; exact ih _ (capN_le _ _)
/-- a number at a place: what it is, where it ends, whether it is well -/
structure Num where
  n : Int
  to : Nat
  ok : Bool
def numV' (l : List UInt8) (k m t : Nat) (n : Int) : Num :=
  if t = 0 ∨ n < -2147483648 ∨ 2147483647 < n then ⟨0, k, false⟩
  else ⟨n, k + m + t, match l[k + m + t]? with
    | some c => decide (kindV c.toNat ≠ 4) && decide (kindV c.toNat ≠ 6)
    | none => true⟩
def numM (l : List UInt8) (k : Nat) : Nat := if (l.getD k 0).toNat = 45 then 1 else 0
def numT (l : List UInt8) (k : Nat) : Nat := runL 5 (l.drop (k + numM l k))
def numN (l : List UInt8) (k : Nat) : Int :=
  let n : Int := numL 0 ((l.drop (k + numM l k)).take (numT l k))
  if numM l k = 1 then -n else n
def numV (l : List UInt8) (k : Nat) : Num := numV' l k (numM l k) (numT l k) (numN l k)
def J22 (l ds : List UInt8) (z f g : Int) (h : Heap) (n : Nat) (σ : St) : Prop := ∃ p, n = ds.length - p ∧ p ≤ ds.length ∧ Ext h σ.m.h ∧ h.n < σ.m.h.n ∧ σ.m.h.f h.n = .obj (.stringIter (B ds) p) ∧
  σ.t.get 0 = some (.string (B l)) ∧ σ.t.get 1 = some (.int .i64 z) ∧ σ.t.get 7 = some (.int .i64 f) ∧ σ.t.get 8 = some (.int .i64 g) ∧
  σ.t.get 26 = some (.pointer (some ⟨h.n, 0, none⟩)) ∧ ∃ v : Nat, v ≤ 2147483649 ∧ σ.t.get 9 = some (.int .i64 v) ∧ numL v (ds.drop p) = numL 0 ds
theorem dec_B {ds : List UInt8} {p : Nat} {c : UInt8} (hc : ds[p]? = some c) (h : c.toNat < 128) : Utf8.decode (B ds) p = (c.toNat, 1) := by
  rw [List.getElem?_eq_some_iff] at hc
  obtain ⟨hp, hc⟩ := hc
  have := decode_ascii (B ds) p (by rw [B_size]; exact hp) (by show (ds[p]).toNat < 128; rw [hc]; exact h)
  rw [this]
  show ((ds[p]).toNat, 1) = _
  rw [hc]
theorem i32wrap {x : Int} (h : -2147483648 ≤ x ∧ x ≤ 2147483647) : IntKind.wrap .i32 x = x := by
  have e : IntKind.wrap .i32 x = if (x % 4294967296 : Int) ≥ 2147483648 then x % 4294967296 - 4294967296 else x % 4294967296 := by
    simp [IntKind.wrap, IntKind.bits, IntKind.signed]
  rw [e]; split <;> omega
theorem runL_le (k : Nat) : ∀ l : List UInt8, runL k l ≤ l.length := by
  intro l
  induction l with
  | nil => simp [runL]
  | cons c r ih => simp only [runL]; split <;> simp <;> omega
theorem runL_all (k : Nat) : ∀ l : List UInt8, ∀ c ∈ l.take (runL k l), kindV c.toNat = k := by
  intro l
  induction l with
  | nil => simp [runL]
  | cons c r ih =>
    intro d hd
    simp only [runL] at hd
    split at hd
    · rename_i hk
      rw [List.take_succ_cons, List.mem_cons] at hd
      rcases hd with rfl | hd
      · exact hk
      · exact ih d hd
    · simp at hd
theorem number_ok (l : List UInt8) (k : Nat) (hk : k < l.length) (hl : l.length ≤ 1073741824) (h : Heap) : ACalls PP 79 [.string (B l), .int .i64 k] h (fun v h' => Ext h h' ∧ v = .tuple #[.int .i64 (numV l k).n, .int .i64 (numV l k).to, .bool (numV l k).ok]) := by
  refine acalls_of_vc mix fn79 bodyEq79 rfl (by show 2 ≤ 74; decide) ok79 ?_
  simp only [body79, Tryz.f79]
  have hc' : l[k]? = some l[k] := List.getElem?_eq_getElem hk
  have hd := drop_get hc'
  simp [hc']
  obtain ⟨m, hm⟩ : ∃ m, m = if l[k].toNat = 45 then 1 else 0 := ⟨_, rfl⟩
  have hkm : k + m ≤ l.length := by split at hm <;> omega
  obtain ⟨t, ht⟩ : ∃ t, t = runL 5 (l.drop (k + m)) := ⟨_, rfl⟩
  have htl : k + m + t ≤ l.length := by have := runL_le 5 (l.drop (k + m)); rw [List.length_drop] at this; omega
  obtain ⟨ds, hds⟩ : ∃ ds, ds = (l.drop (k + m)).take t := ⟨_, rfl⟩
  have hds' : (l.take (k + m + t)).drop (k + m) = ds := by rw [hds, List.drop_take]; congr 1; omega
  have hdl : ds.length = t := by rw [hds, List.length_take, List.length_drop]; omega
  have hdd : ∀ c ∈ ds, 48 ≤ c.toNat ∧ c.toNat ≤ 57 := fun c hc => by rw [hds, ht] at hc; exact kind_digit.1 (runL_all 5 _ c hc)
  have e1 : IntKind.wrap .i64 ((k : Int) + 1) = ((k + 1 : Nat) : Int) := by rw [i64wrap (by omega)]; omega
  obtain ⟨f, hf⟩ : ∃ f : Int, f = ((k + m : Nat) : Int) := ⟨_, rfl⟩
  obtain ⟨g, hg⟩ : ∃ g : Int, g = ((k + m + t : Nat) : Int) := ⟨_, rfl⟩
  have hrun := run_ok l (k + m) 5 hl h
  rw [← hf, ← ht, ← hg] at hrun
  have i1 : (0 : Int) ≤ f := by omega
  have i2 : (0 : Int) ≤ g := by omega
  have i3 : f.toNat = k + m := by omega
  have i4 : g.toNat = k + m + t := by omega
  obtain ⟨nn, hnn⟩ : ∃ nn : Int, nn = if m = 1 then -(numL 0 ds : Int) else numL 0 ds := ⟨_, rfl⟩
  have hM : numM l k = m := by rw [hm]; simp [numM, hk]
  have hT : numT l k = t := by rw [ht, numT, hM]
  have hN : numN l k = nn := by rw [hnn, numN, hM, hT, ← hds]
  have hV : numV l k = numV' l k m t nn := by rw [numV, hM, hT, hN]
  have hnl := numL_le ds 0 (by omega)
  rw [hV]
  refine condQ_of (fun hm' => ?_) (fun hm' => ?_) <;> simp only [decide_eq_true_eq, decide_eq_false_iff_not] at hm'
  · have hm1 : m = 1 := by rw [if_pos (by omega)] at hm; exact hm
    have e1 : IntKind.wrap .i64 ((k : Int) + 1) = f := by rw [i64wrap (by omega), hf, hm1]; omega
    simp [e1]
    refine hrun.mono ?_
    rintro v h'' ⟨rfl, rfl⟩
    simp [callQ]
    intro _
    simp [i1, i2, i3, i4, htl, hds', opRange]
    refine vc_loop (J22 l ds _ f g h'') _ ⟨0, rfl, by omega, Ext.new _ _, by simp, by simp, by simp, rfl, by simp, by simp, by simp, 0, by omega, by simp, rfl⟩ ?_
    rintro n ⟨T, ⟨x, H⟩⟩ ⟨p, rfl, hp, hE, hn, hit, h0, h1, h7, h8, h26, v, hv, h9, hr⟩
    simp at hE hn hit h0 h1 h7 h8 h26 h9
    simp [h26, hit, opNextS]
    by_cases hpl : p < ds.length
    · have hc2 : ds[p]? = some ds[p] := List.getElem?_eq_getElem hpl
      have hdig := hdd ds[p] (List.getElem_mem hpl)
      have hdr := drop_get hc2
      rw [hdr, numL_cons] at hr
      obtain ⟨d, hd2⟩ : ∃ d : Nat, d = ds[p].toNat - 48 := ⟨_, rfl⟩
      obtain ⟨q1, hq1⟩ : ∃ q : Int, q = (v : Int) * 10 := ⟨_, rfl⟩
      obtain ⟨q2, hq2⟩ : ∃ q : Int, q = (d : Int) := ⟨_, rfl⟩
      obtain ⟨q3, hq3⟩ : ∃ q : Int, q = q1 + q2 := ⟨_, rfl⟩
      obtain ⟨q4, hq4⟩ : ∃ q : Int, q = if 2147483649 < q3 then 2147483649 else q3 := ⟨_, rfl⟩
      have hq5 : q4 = (capN v d : Int) := by rw [hq4, capN_eq]; split <;> split <;> omega
      have w1 : IntKind.wrap .i32 ((ds[p].toNat : Int) - 48) = q2 := by rw [i32wrap (by omega)]; omega
      have w2 : IntKind.wrap .i64 ((v : Int) * 10) = q1 := by rw [i64wrap (by omega)]; omega
      have w3 : IntKind.wrap .i64 q2 = q2 := i64wrap (by omega)
      have w4 : IntKind.wrap .i64 (q1 + q2) = q3 := by rw [i64wrap (by omega)]; omega
      simp only [hpl, if_true, dec_B hc2 (by omega)]
      rw [← hd2] at hr
      simp [h0, h1, h7, h8, h9, h26, w1, w2, w3, w4, ← hq4]
      refine ⟨ds.length - (p + 1), by omega, p + 1, rfl, by omega, hE.setOf (Nat.le_refl _) _, hn, by simp, by simp [h0], by simp [h1], by simp [h7], by simp [h8], by simp [h26], _, capN_le _ _, by simp [← hq5], hr⟩
    · have hr0 : numL 0 ds = v := by rw [drop_end hpl, numL_nil] at hr; exact hr.symm
      simp [hpl, h0, h1, h7, h8, h9, h26]
      have e9 : IntKind.wrap .i64 (-(v : Int)) = nn := by rw [i64wrap (by omega), hnn, if_pos hm1, hr0]
      have e10 : (k : Int) < f := by omega
      simp [e9, e10]
      by_cases ht0 : t = 0
      · have hg0 : g = f := by omega
        simp [hg0, numV', ht0, hf]
        exact hE
      · have hg0 : ¬ g = f := by omega
        simp [hg0]
        by_cases hn1 : nn < -2147483648
        · simp [hn1, numV', hf]
          exact hE
        · simp [hn1]
          by_cases hn2 : 2147483647 < nn
          · simp [hn2, numV', hf]
            exact hE
          · simp [hn2]
            have hV2 : numV' l k m t nn = ⟨nn, k + m + t, match l[k + m + t]? with
                | some c => decide (kindV c.toNat ≠ 4) && decide (kindV c.toNat ≠ 6)
                | none => true⟩ := by rw [numV', if_neg (by omega)]
            rw [hV2]
            by_cases hend : g = (l.length : Int)
            · have hnone : l[k + m + t]? = none := List.getElem?_eq_none (by omega)
              simp [hend, hnone]
              exact ⟨hE, by omega⟩
            · have hlt : k + m + t < l.length := by omega
              have hc3 : l[k + m + t]? = some l[k + m + t] := List.getElem?_eq_getElem hlt
              simp [hend, i2, i4, hc3]
              refine (kind_ok _ _).mono ?_
              rintro v' h3 ⟨rfl, rfl⟩
              simp [callQ]
              intro _
              by_cases hk4 : kindV l[k + m + t].toNat = 4
              · have hk4' : ((kindV l[k + m + t].toNat : Nat) : Int) = 4 := by omega
                simp [hk4', hk4]
                exact ⟨hE, by omega⟩
              · have hk4' : ¬ ((kindV l[k + m + t].toNat : Nat) : Int) = 4 := by omega
                simp [hk4', hk4, i2, i4, hc3]
                refine (kind_ok _ _).mono ?_
                rintro v' h3 ⟨rfl, rfl⟩
                simp [callQ]
                intro _
                refine ⟨hE, by omega, ?_⟩
                by_cases hk6 : kindV l[k + m + t].toNat = 6
                · simp [hk6]
                · have : ¬ ((kindV l[k + m + t].toNat : Nat) : Int) = 6 := by omega
                  simp [hk6, this]
  · have hm1 : m = 0 := by rw [if_neg (by omega)] at hm; exact hm
    have e1 : (k : Int) = f := by rw [hf, hm1]; omega
    simp [e1]
    refine hrun.mono ?_
    rintro v h'' ⟨rfl, rfl⟩
    simp [callQ]
    intro _
    simp [i1, i2, i3, i4, htl, hds', opRange]
    refine vc_loop (J22 l ds _ f g h'') _ ⟨0, rfl, by omega, Ext.new _ _, by simp, by simp, by simp, rfl, by simp, by simp, by simp, 0, by omega, by simp, rfl⟩ ?_
    rintro n ⟨T, ⟨x, H⟩⟩ ⟨p, rfl, hp, hE, hn, hit, h0, h1, h7, h8, h26, v, hv, h9, hr⟩
    simp at hE hn hit h0 h1 h7 h8 h26 h9
    simp [h26, hit, opNextS]
    by_cases hpl : p < ds.length
    · have hc2 : ds[p]? = some ds[p] := List.getElem?_eq_getElem hpl
      have hdig := hdd ds[p] (List.getElem_mem hpl)
      have hdr := drop_get hc2
      rw [hdr, numL_cons] at hr
      obtain ⟨d, hd2⟩ : ∃ d : Nat, d = ds[p].toNat - 48 := ⟨_, rfl⟩
      obtain ⟨q1, hq1⟩ : ∃ q : Int, q = (v : Int) * 10 := ⟨_, rfl⟩
      obtain ⟨q2, hq2⟩ : ∃ q : Int, q = (d : Int) := ⟨_, rfl⟩
      obtain ⟨q3, hq3⟩ : ∃ q : Int, q = q1 + q2 := ⟨_, rfl⟩
      obtain ⟨q4, hq4⟩ : ∃ q : Int, q = if 2147483649 < q3 then 2147483649 else q3 := ⟨_, rfl⟩
      have hq5 : q4 = (capN v d : Int) := by rw [hq4, capN_eq]; split <;> split <;> omega
      have w1 : IntKind.wrap .i32 ((ds[p].toNat : Int) - 48) = q2 := by rw [i32wrap (by omega)]; omega
      have w2 : IntKind.wrap .i64 ((v : Int) * 10) = q1 := by rw [i64wrap (by omega)]; omega
      have w3 : IntKind.wrap .i64 q2 = q2 := i64wrap (by omega)
      have w4 : IntKind.wrap .i64 (q1 + q2) = q3 := by rw [i64wrap (by omega)]; omega
      simp only [hpl, if_true, dec_B hc2 (by omega)]
      rw [← hd2] at hr
      simp [h0, h1, h7, h8, h9, h26, w1, w2, w3, w4, ← hq4]
      refine ⟨ds.length - (p + 1), by omega, p + 1, rfl, by omega, hE.setOf (Nat.le_refl _) _, hn, by simp, by simp [h0], by simp [h1], by simp [h7], by simp [h8], by simp [h26], _, capN_le _ _, by simp [← hq5], hr⟩
    · have hr0 : numL 0 ds = v := by rw [drop_end hpl, numL_nil] at hr; exact hr.symm
      simp [hpl, h0, h1, h7, h8, h9, h26]
      have e9 : (v : Int) = nn := by rw [hnn, if_neg (by omega), hr0]
      simp [e9]
      by_cases ht0 : t = 0
      · have hg0 : g = f := by omega
        simp [hg0, numV', ht0, ← e1]
        exact hE
      · have hg0 : ¬ g = f := by omega
        simp [hg0]
        by_cases hn1 : nn < -2147483648
        · simp [hn1, numV', ← e1]
          exact hE
        · simp [hn1]
          by_cases hn2 : 2147483647 < nn
          · simp [hn2, numV', ← e1]
            exact hE
          · simp [hn2]
            have hV2 : numV' l k m t nn = ⟨nn, k + m + t, match l[k + m + t]? with
                | some c => decide (kindV c.toNat ≠ 4) && decide (kindV c.toNat ≠ 6)
                | none => true⟩ := by rw [numV', if_neg (by omega)]
            rw [hV2]
            by_cases hend : g = (l.length : Int)
            · have hnone : l[k + m + t]? = none := List.getElem?_eq_none (by omega)
              simp [hend, hnone]
              exact ⟨hE, by omega⟩
            · have hlt : k + m + t < l.length := by omega
              have hc3 : l[k + m + t]? = some l[k + m + t] := List.getElem?_eq_getElem hlt
              simp [hend, i2, i4, hc3]
              refine (kind_ok _ _).mono ?_
              rintro v' h3 ⟨rfl, rfl⟩
              simp [callQ]
              intro _
              by_cases hk4 : kindV l[k + m + t].toNat = 4
              · have hk4' : ((kindV l[k + m + t].toNat : Nat) : Int) = 4 := by omega
                simp [hk4', hk4]
                exact ⟨hE, by omega⟩
              · have hk4' : ¬ ((kindV l[k + m + t].toNat : Nat) : Int) = 4 := by omega
                simp [hk4', hk4, i2, i4, hc3]
                refine (kind_ok _ _).mono ?_
                rintro v' h3 ⟨rfl, rfl⟩
                simp [callQ]
                intro _
                refine ⟨hE, by omega, ?_⟩
                by_cases hk6 : kindV l[k + m + t].toNat = 6
                · simp [hk6]
                · have : ¬ ((kindV l[k + m + t].toNat : Nat) : Int) = 6 := by omega
                  simp [hk6, this]
end Go.Proofs.Yph.T
namespace Go.Proofs.Yph.T
open Go Go.Am
set_option maxRecDepth 20000
set_option linter.unusedSimpArgs false
set_option maxHeartbeats 2000000
structure Tok where
  kind : Int
  n : Int
  line : Int
  col : Int
  text : List UInt8
def tokC (t : Tok) : List Value := [.int .i64 t.kind, .int .i64 t.n, .int .i64 t.line, .int .i64 t.col, .string (B t.text)]
def tokV (t : Tok) : Value := .agg ⟨tokC t⟩
def spotV (ln col : Int) : Value := .agg #[.int .i64 ln, .int .i64 col]
theorem here_ok (p bs ba : Nat) (ln col : Int) (a : Nat) (h : Heap) {w1 w2 : Bool} {e1 e2 : TypeId} (hs : h.f bs = .row w1 e1 [.int .i64 ln, .int .i64 col]) (ha : h.f ba = .row w2 e2 [.int .i64 a])
    (hp : p ≤ 1073741824) (hc : 0 ≤ col ∧ col ≤ 4294967296) (ha' : a ≤ 1073741824) :
    ACalls PP 76 [.int .i64 p, .pointer (some ⟨bs, 0, none⟩), .pointer (some ⟨ba, 0, none⟩)] h (fun v h' => h' = h ∧ v = spotV ln (col + p - a)) := by
  refine acalls_of_vc mix fn76 bodyEq76 rfl (by show 3 ≤ 14; decide) ok76 ?_
  simp only [body76, Tryz.f76]
  have e1 : IntKind.wrap .i64 (col + p) = col + p := i64wrap (by omega)
  have e2 : IntKind.wrap .i64 (col + p - a) = col + p - a := i64wrap (by omega)
  simp [hs, ha, e1, e2]
  rfl
structure NX where
  tok : Tok
  to : Nat
  ln : Int
  col : Int
  code : Int
def zTok : Tok := ⟨0, 0, 0, 0, []⟩
def nxV (x : NX) : Value := .tuple #[tokV x.tok, .int .i64 x.to, spotV x.ln x.col, .int .i64 x.code]
/-- the token at a place of a text -/
def endOk (l : List UInt8) (to : Nat) : Bool := match l[to]? with | some d => decide (kindV d.toNat ≠ 5) && decide (kindV d.toNat ≠ 6) | none => true
def nextV' (l : List UInt8) (a k : Nat) (ln col : Int) : NX :=
  match l[k]? with
  | none => ⟨zTok, k, ln, col + k - a, 4⟩
  | some c =>
    if kindV c.toNat = 3 then ⟨⟨3, 0, ln, col + k - a, []⟩, k + 1, ln + 1, 1, 0⟩
    else if kindV c.toNat = 4 then
      let to := k + runL 4 (l.drop k)
      if endOk l to = true then ⟨⟨1, 0, ln, col + k - a, (l.take to).drop k⟩, to, ln, col + to - a, 0⟩
      else ⟨zTok, a, ln, col + to - a, 2⟩
    else if kindV c.toNat = 6 ∨ kindV c.toNat = 5 then
      let u := numV l k
      if u.ok = true then ⟨⟨2, u.n, ln, col + k - a, (l.take u.to).drop k⟩, u.to, ln, col + u.to - a, 0⟩
      else ⟨zTok, a, ln, col + u.to - a, 2⟩
    else ⟨zTok, a, ln, col + k - a, 2⟩
def nextV (l : List UInt8) (a : Nat) (ln col : Int) : NX := nextV' l a (a + skipL false (l.drop a)) ln col
theorem skipL_le : ∀ (b : Bool) (l : List UInt8), skipL b l ≤ l.length := by
  intro b l
  induction l generalizing b with
  | nil => cases b <;> simp [skipL]
  | cons c r ih => cases b <;> simp only [skipL, List.length_cons] <;> (repeat' split) <;> first | omega | (have := ih true; have := ih false; omega)
theorem numV_le (l : List UInt8) (k : Nat) (hk : k ≤ l.length) : (numV l k).to ≤ l.length := by
  unfold numV numV'
  split
  · exact hk
  · rename_i h
    have := runL_le 5 (l.drop (k + numM l k))
    rw [List.length_drop] at this
    have : numT l k = runL 5 (l.drop (k + numM l k)) := rfl
    show k + numM l k + numT l k ≤ l.length
    omega
theorem numV_ge (l : List UInt8) (k : Nat) : k ≤ (numV l k).to := by
  unfold numV numV'
  split
  · exact Nat.le_refl _
  · show k ≤ k + numM l k + numT l k
    omega
theorem next_ok (l : List UInt8) (a : Nat) (ln col : Int) (hl : l.length ≤ 1073741824) (ha : a ≤ l.length) (hln : 0 ≤ ln ∧ ln ≤ 4294967296) (hcol : 0 ≤ col ∧ col ≤ 2147483648) (h : Heap) :
    ACalls PP 43 [.string (B l), .int .i64 a, spotV ln col] h (fun v h' => Ext h h' ∧ v = nxV (nextV l a ln col)) := by
  refine acalls_of_vc mix fn43 bodyEq43 rfl (by show 3 ≤ 115; decide) ok43 ?_
  simp only [body43, Tryz.f43]
  have c1 : ¬ (a : Int) < 0 := by omega
  have c2 : ¬ (l.length : Int) < (a : Int) := by omega
  simp [spotV, c1, c2]
  obtain ⟨G, hG⟩ : ∃ G, G = ((h.new (Blk.row true 3 [Value.int IntKind.i64 a])).new (Blk.row true 27 [Value.int IntKind.i64 ln, Value.int IntKind.i64 col])) := ⟨_, rfl⟩
  have gE : Ext h G := by rw [hG]; exact (Ext.new _ _).newOf _
  have gn : G.n = h.n + 2 := by rw [hG]; rfl
  have ga : G.f h.n = .row true 3 [.int .i64 a] := by rw [hG]; simp
  have gs : G.f (h.n + 1) = .row true 27 [.int .i64 ln, .int .i64 col] := by rw [hG]; simp
  rw [← hG]
  clear hG
  obtain ⟨k, hk⟩ : ∃ k, k = a + skipL false (l.drop a) := ⟨_, rfl⟩
  have hsk := skip_ok l a hl G
  rw [← hk] at hsk
  have hkl : k ≤ l.length := by have := skipL_le false (l.drop a); rw [List.length_drop] at this; omega
  have hX : nextV l a ln col = nextV' l a k ln col := by rw [nextV, ← hk]
  rw [hX]
  refine hsk.mono ?_
  rintro v h'' ⟨rfl, rfl⟩
  have hhere : ∀ (H : Heap) (p : Nat), H.f h.n = .row true 3 [.int .i64 a] → H.f (h.n + 1) = .row true 27 [.int .i64 ln, .int .i64 col] → p ≤ l.length →
      ACalls PP 76 [.int .i64 p, .pointer (some ⟨h.n + 1, 0, none⟩), .pointer (some ⟨h.n, 0, none⟩)] H (fun v h' => h' = H ∧ v = .agg #[.int .i64 ln, .int .i64 (col + p - a)]) :=
    fun H p h1 h2 hp => here_ok p (h.n + 1) h.n ln col a H h2 h1 (by omega) (by omega) (by omega)
  simp [callQ]
  intro _
  by_cases hend : k = l.length
  · subst hend
    have hnone : l[l.length]? = none := List.getElem?_eq_none (by omega)
    simp
    refine (hhere _ l.length ga gs (by omega)).mono ?_
    rintro v h'' ⟨rfl, rfl⟩
    simp [callQ]
    intro _
    simp [nextV', hnone, nxV, tokV, tokC, zTok, spotV]
    exact gE
  · have hend' : ¬ ((k : Int) = (l.length : Int)) := by omega
    have hlt : k < l.length := by omega
    have hc' : l[k]? = some l[k] := List.getElem?_eq_getElem hlt
    simp [hend', gs]
    refine (hhere _ k ga gs (by omega)).mono ?_
    rintro v h'' ⟨rfl, rfl⟩
    simp [callP, ga]
    intro _
    simp [gs, hc']
    refine (kind_ok _ _).mono ?_
    rintro v H ⟨rfl, rfl⟩
    obtain ⟨kk, hkk⟩ : ∃ kk, kk = kindV l[k].toNat := ⟨_, rfl⟩
    rw [← hkk]
    have w1 : IntKind.wrap .i64 (ln + 1) = ln + 1 := i64wrap (by omega)
    have w2 : IntKind.wrap .i64 ((k : Int) + 1) = (k : Int) + 1 := i64wrap (by omega)
    simp [callQ]
    intro _
    by_cases h3 : kk = 3
    · simp [h3, gs, w1, w2]
      simp [nextV', endOk, hc', ← hkk, h3, nxV, tokV, tokC, zTok, spotV]
      exact gE
    · have h3' : ¬ ((kk : Int) = 3) := by omega
      simp [h3']
      by_cases h4 : kk = 4
      · simp [h4]
        obtain ⟨to, hto⟩ : ∃ to, to = k + runL 4 (l.drop k) := ⟨_, rfl⟩
        have hru := run_ok l k 4 hl H
        rw [← hto] at hru
        have htl : to ≤ l.length := by have := runL_le 4 (l.drop k); rw [List.length_drop] at this; omega
        refine hru.mono ?_
        rintro v H ⟨rfl, rfl⟩
        simp [callQ]
        intro _
        have hkto : k ≤ to := by omega
        by_cases he : to = l.length
        · subst he
          have hnone : l[l.length]? = none := List.getElem?_eq_none (by omega)
          simp
          simp [hkl]
          refine (hhere _ l.length ga gs (Nat.le_refl _)).mono ?_
          rintro v H2 ⟨rfl, rfl⟩
          simp [callP, ga]
          intro _
          simp [nextV', endOk, hc', ← hkk, h4, ← hto, hnone, nxV, tokV, tokC, zTok, spotV]
          exact gE
        · have he' : ¬ ((to : Int) = (l.length : Int)) := by omega
          have hlt2 : to < l.length := by omega
          have hc2 : l[to]? = some l[to] := List.getElem?_eq_getElem hlt2
          simp [he', hc2]
          refine (kind_ok _ _).mono ?_
          rintro v H ⟨rfl, rfl⟩
          simp [callQ]
          intro _
          by_cases g5 : kindV l[to].toNat = 5
          · simp [g5]
            simp [ga]
            refine (hhere _ to ga gs htl).mono ?_
            rintro v H2 ⟨rfl, rfl⟩
            simp [callP, ga]
            intro _
            simp [nextV', endOk, hc', ← hkk, h4, ← hto, hc2, g5, nxV, tokV, tokC, zTok, spotV]
            exact gE
          · have g5' : ¬ ((kindV l[to].toNat : Nat) : Int) = 5 := by omega
            simp [g5', hc2]
            refine (kind_ok _ _).mono ?_
            rintro v H ⟨rfl, rfl⟩
            simp [callQ]
            intro _
            by_cases g6 : kindV l[to].toNat = 6
            · simp [g6]
              simp [ga]
              refine (hhere _ to ga gs htl).mono ?_
              rintro v H2 ⟨rfl, rfl⟩
              simp [callP, ga]
              intro _
              simp [nextV', endOk, hc', ← hkk, h4, ← hto, hc2, g5, g6, nxV, tokV, tokC, zTok, spotV]
              exact gE
            · have g6' : ¬ ((kindV l[to].toNat : Nat) : Int) = 6 := by omega
              simp [g6']
              simp [hkto, htl]
              refine (hhere _ to ga gs htl).mono ?_
              rintro v H2 ⟨rfl, rfl⟩
              simp [callP, ga]
              intro _
              simp [nextV', endOk, hc', ← hkk, h4, ← hto, hc2, g5, g6, nxV, tokV, tokC, zTok, spotV]
              exact gE
      · have h4' : ¬ ((kk : Int) = 4) := by omega
        simp [h4']
        by_cases h56 : kk = 6 ∨ kk = 5
        · have hnum := number_ok l k hlt hl H
          obtain ⟨to, hto⟩ : ∃ to, to = (numV l k).to := ⟨_, rfl⟩
          obtain ⟨nn, hnn⟩ : ∃ nn, nn = (numV l k).n := ⟨_, rfl⟩
          obtain ⟨gd, hgd⟩ : ∃ gd, gd = (numV l k).ok := ⟨_, rfl⟩
          rw [← hto, ← hnn, ← hgd] at hnum
          have htl : to ≤ l.length := by rw [hto]; exact numV_le l k hkl
          have hkto : k ≤ to := by rw [hto]; exact numV_ge l k
          have hgo : ∀ v H2, (Ext H H2 ∧ v = Value.tuple #[.int .i64 nn, .int .i64 to, .bool gd]) → Ext h H2 ∧ H2.f h.n = .row true 3 [.int .i64 a] ∧ H2.f (h.n + 1) = .row true 27 [.int .i64 ln, .int .i64 col] := fun v H2 z => ⟨gE.trans z.1, by rw [z.1.f _ (by omega), ga], by rw [z.1.f _ (by omega), gs]⟩
          rcases h56 with h6 | h5
          · simp [h6]
            refine hnum.mono ?_
            rintro v H2 hh
            obtain ⟨gE, ga, gs⟩ := hgo v H2 hh
            obtain ⟨_, rfl⟩ := hh
            simp [callQ]
            intro _
            cases gd with
            | true =>
              simp
              simp [hkto, htl]
              refine (hhere _ to ga gs htl).mono ?_
              rintro v H2 ⟨rfl, rfl⟩
              simp [callP, ga]
              intro _
              simp [nextV', endOk, hc', ← hkk, h6, ← hto, ← hnn, ← hgd, nxV, tokV, tokC, zTok, spotV]
              exact gE
            | false =>
              simp
              simp [ga]
              refine (hhere _ to ga gs htl).mono ?_
              rintro v H2 ⟨rfl, rfl⟩
              simp [callP, ga]
              intro _
              simp [nextV', endOk, hc', ← hkk, h6, ← hto, ← hnn, ← hgd, nxV, tokV, tokC, zTok, spotV]
              exact gE
          · simp [h5]
            refine hnum.mono ?_
            rintro v H2 hh
            obtain ⟨gE, ga, gs⟩ := hgo v H2 hh
            obtain ⟨_, rfl⟩ := hh
            simp [callQ]
            intro _
            cases gd with
            | true =>
              simp
              simp [hkto, htl]
              refine (hhere _ to ga gs htl).mono ?_
              rintro v H2 ⟨rfl, rfl⟩
              simp [callP, ga]
              intro _
              simp [nextV', endOk, hc', ← hkk, h5, ← hto, ← hnn, ← hgd, nxV, tokV, tokC, zTok, spotV]
              exact gE
            | false =>
              simp
              simp [ga]
              refine (hhere _ to ga gs htl).mono ?_
              rintro v H2 ⟨rfl, rfl⟩
              simp [callP, ga]
              intro _
              simp [nextV', endOk, hc', ← hkk, h5, ← hto, ← hnn, ← hgd, nxV, tokV, tokC, zTok, spotV]
              exact gE
        · have h6 : ¬ ((kk : Int) = 6) := by omega
          have h5 : ¬ ((kk : Int) = 5) := by omega
          simp [h6, h5]
          simp [ga]
          refine (hhere _ k ga gs hkl).mono ?_
          rintro v H2 ⟨rfl, rfl⟩
          simp [callP, ga]
          intro _
          simp [nextV', endOk, hc', ← hkk, h3, h4, (show ¬ kk = 6 by omega), (show ¬ kk = 5 by omega), nxV, tokV, tokC, zTok, spotV]
          exact gE
end Go.Proofs.Yph.T
namespace Go.Proofs.Yph.T
open Go Go.Am
set_option maxRecDepth 20000
set_option linter.unusedSimpArgs false
set_option maxHeartbeats 2000000
theorem nextV_go {l : List UInt8} {a : Nat} {ln col : Int} (ha : a ≤ l.length) (hln : 1 ≤ ln ∧ ln ≤ 1 + a) (hcol : 1 ≤ col ∧ col ≤ 1 + a) (hc : (nextV l a ln col).code = 0) :
    a < (nextV l a ln col).to ∧ (nextV l a ln col).to ≤ l.length ∧ (1 ≤ (nextV l a ln col).ln ∧ (nextV l a ln col).ln ≤ 1 + (nextV l a ln col).to) ∧ (1 ≤ (nextV l a ln col).col ∧ (nextV l a ln col).col ≤ 1 + (nextV l a ln col).to) := by
  revert hc
  unfold nextV nextV'
  generalize hk : a + skipL false (l.drop a) = k
  have hak : a ≤ k := by omega
  cases hg : l[k]? with
  | none => simp
  | some c =>
    have hd := drop_get hg
    have hkl : k < l.length := by rw [List.getElem?_eq_some_iff] at hg; exact hg.1
    dsimp only
    by_cases h3 : kindV c.toNat = 3
    · simp only [h3, if_true]; intro _; omega
    · by_cases h4 : kindV c.toNat = 4
      · have hr : runL 4 (l.drop k) ≤ l.length - k := by have := runL_le 4 (l.drop k); rw [List.length_drop] at this; exact this
        have hr2 : 1 ≤ runL 4 (l.drop k) := by rw [hd, runL, if_pos h4]; omega
        cases he : endOk l (k + runL 4 (l.drop k)) with
        | true => simp only [h4, if_true, he]; intro _; simp only [show ¬ (4 = 3) by omega, if_false]; omega
        | false => simp [h4]
      · by_cases h5 : kindV c.toNat = 6 ∨ kindV c.toNat = 5
        · cases hok : (numV l k).ok with
          | true =>
            have h1 := numV_le l k (by omega)
            have h2 : k < (numV l k).to := by
              revert hok
              unfold numV numV'
              split
              · simp
              · intro _; show k < k + numM l k + numT l k; omega
            simp only [h3, h4, h5, if_false, if_true]; intro _; omega
          | false => simp [h3, h4, h5]
        · simp [h3, h4, h5]
/-- tokens in the heap, as a slice of one's own -/
def OwnS (h0 h : Heap) (v : Value) (ts : List Tok) : Prop := ∃ ad, v = .slice ad ts.length ts.length ∧ ((ad = none ∧ ts = []) ∨ ∃ b, ad = some ⟨b, 0, none⟩ ∧ h.f b = .row true 84 (ts.flatMap tokC) ∧ h0.n ≤ b ∧ b < h.n)
theorem OwnS.ext {h0 h h' : Heap} {v : Value} {ts : List Tok} (H : OwnS h0 h v ts) (e : Ext h h') : OwnS h0 h' v ts := by
  obtain ⟨ad, q, z⟩ := H
  refine ⟨ad, q, ?_⟩
  rcases z with z | ⟨b, z1, z2, z3, z4⟩
  · exact .inl z
  · exact .inr ⟨b, z1, by rw [e.f b z4, z2], z3, Nat.lt_of_lt_of_le z4 e.n⟩
theorem tokC_len (ts : List Tok) : (ts.flatMap tokC).length = ts.length * 5 := by
  induction ts with
  | nil => rfl
  | cons t r ih => simp [tokC] at ih ⊢; omega
structure AllR where
  ts : List Tok
  ln : Int
  col : Int
  code : Int
def allL (l : List UInt8) : Nat → Nat → Int → Int → AllR
  | 0, _, ln, col => ⟨[], ln, col, 0⟩
  | n + 1, a, ln, col =>
    let x := nextV l a ln col
    if x.code = 0 then let r := allL l n x.to x.ln x.col; ⟨x.tok :: r.ts, r.ln, r.col, r.code⟩
    else if x.code = 4 then ⟨[], x.ln, x.col, 0⟩
    else ⟨[], x.ln, x.col, x.code⟩
theorem allL_fuel (l : List UInt8) : ∀ (n m a : Nat) (ln col : Int), l.length < n + a → l.length < m + a → a ≤ l.length → (1 ≤ ln ∧ ln ≤ 1 + a) → (1 ≤ col ∧ col ≤ 1 + a) → allL l n a ln col = allL l m a ln col := by
  intro n
  induction n with
  | zero => intro m a ln col h1 h2 h3; omega
  | succ n ih =>
    intro m a ln col h1 h2 h3 h4 h5
    cases m with
    | zero => omega
    | succ m =>
      rw [allL, allL]
      by_cases hc : (nextV l a ln col).code = 0
      · have hgo := nextV_go h3 h4 h5 hc
        simp only [hc, if_true]
        rw [ih m _ _ _ (by omega) (by omega) hgo.2.1 hgo.2.2.1 hgo.2.2.2]
      · simp only [hc, if_false]
def allV (l : List UInt8) : AllR := allL l (l.length + 1) 0 1 1
def J11 (l : List UInt8) (h : Heap) (n : Nat) (σ : St) : Prop := ∃ (a : Nat) (ln col : Int) (ts : List Tok) (s : Value), n = l.length - a ∧ a ≤ l.length ∧ (1 ≤ ln ∧ ln ≤ 1 + a) ∧ (1 ≤ col ∧ col ≤ 1 + a) ∧ ts.length ≤ a ∧
  σ.t.get 0 = some (.string (B l)) ∧ σ.t.get 5 = some s ∧ σ.t.get 6 = some (.int .i64 a) ∧ σ.t.get 7 = some (.pointer (some ⟨7, 0, some 0⟩)) ∧ σ.t.get 3 = some (.pointer (some ⟨3, 0, some 0⟩)) ∧
  σ.m.x.look 7 = some (27, [.int .i64 ln, .int .i64 col]) ∧ (∃ c1 c2, σ.m.x.look 3 = some (27, [c1, c2])) ∧ Ext h σ.m.h ∧ OwnS h σ.m.h s ts ∧
  allV l = ⟨ts ++ (allL l (l.length - a + 1) a ln col).ts, (allL l (l.length - a + 1) a ln col).ln, (allL l (l.length - a + 1) a ln col).col, (allL l (l.length - a + 1) a ln col).code⟩
theorem all_ok (l : List UInt8) (hl : l.length ≤ 1048576) (h : Heap) : ACalls PP 23 [.string (B l)] h (fun v h' => Ext h h' ∧ ∃ s, OwnS h h' s (allV l).ts ∧ v = .tuple #[s, spotV (allV l).ln (allV l).col, .int .i64 (allV l).code]) := by
  refine acalls_of_vc mix fn23 bodyEq23 rfl (by show 1 ≤ 42; decide) ok23 ?_
  simp only [body23, Tryz.f23]
  have c1 : ¬ (1048576 : Int) < (l.length : Int) := by omega
  simp [c1]
  refine vc_loop (J11 l h) _ ⟨0, 1, 1, [], .slice none 0 0, rfl, by omega, by omega, by omega, by simp, by simp, by simp, by simp, by simp, by simp, by simp, ⟨_, _, by simp; exact ⟨rfl, rfl⟩⟩, Ext.rfl' _, ⟨none, rfl, .inl ⟨rfl, rfl⟩⟩, rfl⟩ ?_
  rintro n ⟨T, ⟨x, H⟩⟩ ⟨a, ln, col, ts, s, rfl, ha, hln, hcol, hts, h0, h5, h6, h7, h3, hx7, ⟨d1, d2, hx3⟩, hE, hO, hr⟩
  simp at h0 h5 h6 h7 h3 hx7 hx3 hE hO
  simp [h0, h5, h6, h7, h3, hx7, hx3]
  refine (next_ok l a ln col (by omega) ha (by omega) (by omega) H).mono ?_
  rintro v H2 ⟨hE2, rfl⟩
  have hgo := nextV_go (l := l) ha hln hcol
  rw [show l.length - a + 1 = (l.length - a) + 1 by rfl, allL] at hr
  obtain ⟨X, hX⟩ : ∃ X, X = nextV l a ln col := ⟨_, rfl⟩
  rw [← hX] at hgo hr ⊢
  simp [callQ, nxV, tokV, tokC, spotV]
  intro _
  obtain ⟨ad, rfl, hO2⟩ := hO.ext hE2
  have hE3 : Ext h H2 := hE.trans hE2
  simp [h0, h5, h6, h7, h3, hx7, hx3]
  by_cases hc0 : X.code = 0
  · rw [if_pos hc0] at hr
    obtain ⟨g1, g2, g3, g4⟩ := hgo hc0
    have hr5 : List.range 5 = [0, 1, 2, 3, 4] := rfl
    have hfu : l.length - a = (l.length - X.to + 1) + (X.to - a - 1) := by omega
    have hr6 : ∀ L, allV l = L → True := fun _ _ => trivial
    dsimp only at hr
    rw [allL_fuel l (l.length - a) (l.length - X.to + 1) X.to X.ln X.col (by omega) (by omega) g2 g3 g4] at hr
    rcases hO2 with ⟨rfl, rfl⟩ | ⟨b, rfl, hb1, hb2, hb3⟩
    · simp [hc0, opAppend, srcCells, opBuildSlice, maxA, hr5]
      refine ⟨l.length - X.to, by omega, X.to, X.ln, X.col, [X.tok], _, rfl, g2, g3, g4, by simp; omega, by simp, by simp; rfl, by simp, by simp, by simp, by simp, ⟨_, _, by simp; exact ⟨rfl, rfl⟩⟩, (hE3.newOf _).newOf _, ⟨_, rfl, .inr ⟨_, rfl, ?_, ?_, ?_⟩⟩, ?_⟩
      · simp [tokC]
      · have := hE3.n; omega
      · simp
      · rw [hr]; simp
    · have hb : ¬ b = H2.n := by omega
      have hmx : (ts.length + 1) * 48 ≤ 140737488355328 := by omega
      obtain ⟨cs, hcs⟩ : ∃ cs, cs = ts.flatMap tokC := ⟨_, rfl⟩
      have hcl : cs.length = ts.length * 5 := by rw [hcs, tokC_len]
      rw [← hcs] at hb1
      simp [hc0, opAppend, srcCells, opBuildSlice, maxA, hb, hb1, hcl, hmx, hr5]
      refine ⟨l.length - X.to, by omega, X.to, X.ln, X.col, ts ++ [X.tok], _, rfl, g2, g3, g4, by simp; omega, by simp, by simp; rfl, by simp, by simp, by simp, by simp, ⟨_, _, by simp; exact ⟨rfl, rfl⟩⟩, ((hE3.newOf _).setOf hb2 _).newOf _, ⟨_, by simp; rfl, .inr ⟨_, rfl, ?_, ?_, ?_⟩⟩, ?_⟩
      · have := List.take_of_length_le (l := cs) (i := ts.length * 5) (by omega)
        simp [tokC, this]; rw [← hcs] at *
      · have := hE3.n; omega
      · simp
      · rw [hr]; simp
  · simp [hc0]
    rw [if_neg hc0] at hr
    by_cases hc4 : X.code = 4
    · simp [hc4]
      rw [if_pos hc4] at hr
      rw [hr]
      exact ⟨hE3, _, ⟨ad, by simp, by simpa using hO2⟩, rfl, ⟨rfl, rfl⟩, rfl⟩
    · simp [hc4]
      rw [if_neg hc4] at hr
      rw [hr]
      exact ⟨hE3, _, ⟨ad, by simp, by simpa using hO2⟩, rfl, ⟨rfl, rfl⟩, rfl⟩
end Go.Proofs.Yph.T
namespace Go.Proofs.Yph.T
open Go Go.Am
set_option maxRecDepth 20000
set_option linter.unusedSimpArgs false
set_option maxHeartbeats 2000000
/-- tokens in the heap, as a slice of whoever's -/
def TokS (h : Heap) (v : Value) (ts : List Tok) : Prop := ∃ ad c, v = .slice ad ts.length c ∧ ((ad = none ∧ ts = [] ∧ c = 0) ∨ ∃ b off w cells rest, ad = some ⟨b, off, none⟩ ∧ h.f b = .row w 84 cells ∧ cells.drop off = ts.flatMap tokC ++ rest ∧ off ≤ cells.length ∧ b < h.n)
theorem OwnS.tokS {h0 h : Heap} {v : Value} {ts : List Tok} (H : OwnS h0 h v ts) : TokS h v ts := by
  obtain ⟨ad, rfl, z⟩ := H
  refine ⟨ad, _, rfl, ?_⟩
  rcases z with ⟨z1, z2⟩ | ⟨b, z1, z2, z3, z4⟩
  · exact .inl ⟨z1, z2, by rw [z2]; rfl⟩
  · exact .inr ⟨b, 0, true, _, [], z1, z2, by simp, by simp, z4⟩
theorem TokS.ext {h h' : Heap} {v : Value} {ts : List Tok} (H : TokS h v ts) (e : Ext h h') : TokS h' v ts := by
  obtain ⟨ad, c, q, z⟩ := H
  refine ⟨ad, c, q, ?_⟩
  rcases z with z | ⟨b, off, w, cells, rest, z1, z2, z3, z4, z5⟩
  · exact .inl z
  · exact .inr ⟨b, off, w, cells, rest, z1, by rw [e.f b z5, z2], z3, z4, Nat.lt_of_lt_of_le z5 e.n⟩
theorem flat_drop (ts : List Tok) (i : Nat) : (ts.flatMap tokC).drop (i * 5) = (ts.drop i).flatMap tokC := by
  induction ts generalizing i with
  | nil => simp
  | cons t r ih => cases i with
    | zero => simp
    | succ i =>
      rw [List.drop_succ_cons, ← ih i, List.flatMap_cons, List.drop_append]
      rw [List.drop_eq_nil_of_le (by simp [tokC]; omega)]
      simp [tokC]
      congr 1
      omega
/-- one token of a slice -/
theorem TokS.at {h : Heap} {ad : Option Addr} {n c : Nat} {ts : List Tok} (H : TokS h (.slice ad n c) ts) {i : Nat} {t : Tok} (hi : ts[i]? = some t) :
    n = ts.length ∧ ∃ b off w cells rest, ad = some ⟨b, off, none⟩ ∧ h.f b = .row w 84 cells ∧ cells.drop (off + i * 5) = tokC t ++ rest ∧ off + i * 5 + 5 ≤ cells.length ∧ b < h.n := by
  obtain ⟨ad', c', q, z⟩ := H
  simp only [Value.slice.injEq] at q
  obtain ⟨rfl, rfl, rfl⟩ := q
  have hlt : i < ts.length := by rw [List.getElem?_eq_some_iff] at hi; exact hi.1
  refine ⟨rfl, ?_⟩
  rcases z with ⟨_, rfl, _⟩ | ⟨b, off, w, cells, rest, z1, z2, z3, z4, z5⟩
  · simp at hlt
  · have hd : ts.drop i = t :: ts.drop (i + 1) := by
      rw [List.getElem?_eq_some_iff] at hi
      obtain ⟨h1, h2⟩ := hi
      rw [List.drop_eq_getElem_cons h1, h2]
    have e : cells.drop (off + i * 5) = tokC t ++ ((ts.drop (i + 1)).flatMap tokC ++ rest) := by
      rw [← List.drop_drop, z3, List.drop_append, flat_drop, hd, List.flatMap_cons, tokC_len, List.append_assoc]
      rw [show i * 5 - ts.length * 5 = 0 by omega]; rfl
    refine ⟨b, off, w, cells, _, z1, z2, e, ?_, z5⟩
    have := congrArg List.length e
    simp [tokC] at this
    omega
theorem TokS.sub {h : Heap} {ad : Addr} {ts : List Tok} {c i k c' : Nat} (H : TokS h (.slice (some ad) ts.length c) ts) (h1 : i ≤ k) (h2 : k ≤ ts.length) : TokS h (.slice (some ⟨ad.block, ad.off + i * 5, ad.spot⟩) (k - i) c') ((ts.take k).drop i) := by
  obtain ⟨ad', c', q, z⟩ := H
  simp only [Value.slice.injEq] at q
  obtain ⟨rfl, _, rfl⟩ := q
  rcases z with ⟨z1, _⟩ | ⟨b, off, w, cells, rest, z1, z2, z3, z4, z5⟩
  · simp at z1
  · simp only [Option.some.injEq] at z1
    subst z1
    have hcl : cells.length = off + (ts.length * 5 + rest.length) := by
      have := congrArg List.length z3
      rw [List.length_drop, List.length_append, tokC_len] at this; omega
    have e2 : (ts.drop i).flatMap tokC = ((ts.take k).drop i).flatMap tokC ++ (ts.drop k).flatMap tokC := by
      rw [← List.flatMap_append, List.drop_take]
      congr 1
      rw [show ts.drop k = (ts.drop i).drop (k - i) by rw [List.drop_drop]; congr 1; omega, List.take_append_drop]
    refine ⟨_, c', by rw [List.length_drop, List.length_take]; congr 1; omega, .inr ⟨b, off + i * 5, w, cells, (ts.drop k).flatMap tokC ++ rest, rfl, z2, ?_, ?_, z5⟩⟩
    · rw [← List.drop_drop, z3, List.drop_append, flat_drop, tokC_len, show i * 5 - ts.length * 5 = 0 by omega, e2, List.append_assoc]; rfl
    · omega
def lineN (ts : List Tok) : Nat := (ts.takeWhile (fun t => decide (t.kind ≠ 3))).length
def J14 (s : Value) (ts : List Tok) (a : Nat) (h : Heap) (n : Nat) (σ : St) : Prop := ∃ k : Nat, n = ts.length - k ∧ a ≤ k ∧ k ≤ ts.length ∧ σ.t.get 0 = some s ∧ σ.t.get 1 = some (.int .i64 a) ∧ σ.t.get 6 = some (.int .i64 k) ∧ σ.m.h = h ∧ k + lineN (ts.drop k) = a + lineN (ts.drop a)
def LineR (h : Heap) (ts : List Tok) (a : Nat) (v : Value) : Prop := ∃ s', TokS h s' ((ts.take (a + lineN (ts.drop a))).drop a) ∧ v = .tuple #[s', .int .i64 ((if a + lineN (ts.drop a) < ts.length then a + lineN (ts.drop a) + 1 else ts.length : Nat) : Int)]
theorem line_ok (s : Value) (ts : List Tok) (a : Nat) (ha : a < ts.length) (hl : ts.length ≤ 1073741824) (h : Heap) (hs : TokS h s ts) :
    ACalls PP 45 [s, .int .i64 a] h (fun v h' => h' = h ∧ LineR h ts a v) := by
  refine acalls_of_vc mix fn45 bodyEq45 rfl (by show 2 ≤ 40; decide) ok45 ?_
  simp only [body45, Tryz.f45]
  obtain ⟨s0, hs1⟩ : ∃ s0, s0 = s := ⟨_, rfl⟩
  have hs0 := hs
  obtain ⟨ad, c, hse, hz⟩ := hs
  obtain ⟨ad, rfl⟩ : ∃ x, ad = some x := by
    rcases hz with ⟨_, rfl, _⟩ | ⟨b, off, _, _, _, e, _⟩
    · simp at ha
    · exact ⟨_, e⟩
  have hsz : ∃ w cells, h.f ad.block = .row w 84 cells ∧ ad.spot = none := by
    rcases hz with ⟨e, _⟩ | ⟨b, off, w, cells, rest, e, e2, _⟩
    · simp at e
    · simp only [Option.some.injEq] at e; subst e; exact ⟨w, cells, e2, rfl⟩
  obtain ⟨w0, cells0, hrow, hspot⟩ := hsz
  obtain ⟨blk, off0, sp⟩ := ad
  simp only at hspot hrow
  subst hspot
  subst hse
  have c1 : ¬ (a : Int) < 0 := by omega
  have c2 : ¬ (ts.length : Int) < (a : Int) := by omega
  simp [c1, c2]
  refine vc_loop (J14 (.slice (some ⟨blk, off0, none⟩) ts.length c) ts a h) _ ⟨a, rfl, by omega, by omega, by simp, by simp, by simp, rfl, rfl⟩ ?_
  rintro n ⟨T, ⟨x, H⟩⟩ ⟨k, rfl, hak, hk, g0, g1, g6, rfl, hr⟩
  simp at g0 g1 g6 hrow hs0
  simp [g0, g1, g6]
  refine condQ_of (fun hc => ?_) (fun hc => ?_) <;> simp only [decide_eq_true_eq, decide_eq_false_iff_not] at hc
  · have hkl : k < ts.length := by omega
    have ht : ts[k]? = some ts[k] := List.getElem?_eq_getElem hkl
    obtain ⟨_, b, off, w, cells, rest, e1, e2, e3, e4, e5⟩ := hs0.at ht
    simp only [Option.some.injEq, Addr.mk.injEq, and_true] at e1
    obtain ⟨rfl, rfl⟩ := e1
    have hle : off0 + k * 5 + 1 ≤ cells.length := by omega
    have hdk : ts.drop k = ts[k] :: ts.drop (k + 1) := List.drop_eq_getElem_cons hkl
    simp [g0, g1, g6, hkl, e2, e3, hle, tokC]
    refine condQ_of (fun hq => ?_) (fun hq => ?_) <;> simp only [decide_eq_true_eq, decide_eq_false_iff_not] at hq
    · have hw : IntKind.wrap .i64 ((k : Int) + 1) = ((k + 1 : Nat) : Int) := by rw [i64wrap (by omega)]; omega
      have hn0 : lineN (ts.drop k) = 0 := by rw [hdk, lineN, List.takeWhile_cons]; simp [hq]
      have hr2 : a + lineN (ts.drop a) = k := by omega
      simp [g0, g1, g6, hw, e2, hak, hk]
      refine ⟨_, ?_, by rw [hr2, if_pos hkl]; simp; rfl⟩
      rw [hr2]; exact hs0.sub hak hk
    · have hw : IntKind.wrap .i64 ((k : Int) + 1) = ((k + 1 : Nat) : Int) := by rw [i64wrap (by omega)]; omega
      have hn0 : lineN (ts.drop k) = lineN (ts.drop (k + 1)) + 1 := by rw [hdk, lineN, List.takeWhile_cons]; simp [hq, lineN]
      simp [g0, g1, g6, hw]
      exact ⟨ts.length - (k + 1), by omega, k + 1, rfl, by omega, by omega, by simp [g0], by simp [g1], by simp, rfl, by omega⟩
  · have hke : k = ts.length := by omega
    have hn0 : lineN (ts.drop k) = 0 := by rw [List.drop_eq_nil_of_le (by omega)]; rfl
    have hr2 : a + lineN (ts.drop a) = ts.length := by omega
    have hal : a ≤ ts.length := by omega
    simp [g0, g1, g6, hrow, hal]
    refine ⟨_, ?_, by rw [hr2, if_neg (by omega)]⟩
    rw [hr2]; exact hs0.sub hal (Nat.le_refl _)
end Go.Proofs.Yph.T
namespace Go.Proofs.Yph.T
open Go Go.Am
set_option maxRecDepth 20000
set_option linter.unusedSimpArgs false
set_option maxHeartbeats 2000000
/-! the document's own answer: one byte -/
theorem rletter_ok (b : UInt8) (h : Heap) : ACalls PP 89 [.int .u8 b.toNat] h (fun v h' => h' = h ∧ v = .bool (decide (kindV b.toNat = 4))) := by
  refine acalls_of_vc mix fn89 bodyEq89 rfl (by show 1 ≤ 9; decide) ok89 ?_
  simp only [body89, Tryz.f89]
  have hk : kindV b.toNat = 4 ↔ 97 ≤ b.toNat ∧ b.toNat ≤ 122 := by simp only [kindV]; (repeat' split) <;> omega
  by_cases h1 : (97 : Int) ≤ (b.toNat : Int)
  · by_cases h2 : (b.toNat : Int) ≤ (122 : Int)
    · have : kindV b.toNat = 4 := by rw [hk]; omega
      simp [h1, h2, this]
    · have : ¬ kindV b.toNat = 4 := by rw [hk]; omega
      simp [h1, h2, this]
  · have : ¬ kindV b.toNat = 4 := by rw [hk]; omega
    simp [h1, this]
theorem rdigit_ok (b : UInt8) (h : Heap) : ACalls PP 90 [.int .u8 b.toNat] h (fun v h' => h' = h ∧ v = .bool (decide (kindV b.toNat = 5))) := by
  refine acalls_of_vc mix fn90 bodyEq90 rfl (by show 1 ≤ 9; decide) ok90 ?_
  simp only [body90, Tryz.f90]
  have hk : kindV b.toNat = 5 ↔ 48 ≤ b.toNat ∧ b.toNat ≤ 57 := kind_digit
  by_cases h1 : (48 : Int) ≤ (b.toNat : Int)
  · by_cases h2 : (b.toNat : Int) ≤ (57 : Int)
    · have : kindV b.toNat = 5 := by rw [hk]; omega
      simp [h1, h2, this]
    · have : ¬ kindV b.toNat = 5 := by rw [hk]; omega
      simp [h1, h2, this]
  · have : ¬ kindV b.toNat = 5 := by rw [hk]; omega
    simp [h1, this]
theorem rblank_ok (b : UInt8) (h : Heap) : ACalls PP 120 [.int .u8 b.toNat] h (fun v h' => h' = h ∧ v = .bool (decide (kindV b.toNat = 1))) := by
  refine acalls_of_vc mix fn120 bodyEq120 rfl (by show 1 ≤ 13; decide) ok120 ?_
  simp only [body120, Tryz.f120]
  have hk : kindV b.toNat = 1 ↔ b.toNat = 32 ∨ b.toNat = 9 ∨ b.toNat = 13 := by simp only [kindV]; (repeat' split) <;> omega
  by_cases h1 : (b.toNat : Int) = 32
  · have : kindV b.toNat = 1 := by rw [hk]; omega
    simp [h1, this]
  · by_cases h2 : (b.toNat : Int) = 9
    · have : kindV b.toNat = 1 := by rw [hk]; omega
      simp [h1, h2, this]
    · by_cases h3 : (b.toNat : Int) = 13
      · have : kindV b.toNat = 1 := by rw [hk]; omega
        simp [h1, h2, h3, this]
      · have : ¬ kindV b.toNat = 1 := by rw [hk]; omega
        simp [h1, h2, h3, this]
def J23 (l : List UInt8) (a : Nat) (h : Heap) (n : Nat) (σ : St) : Prop := ∃ b, n = l.length - b ∧ b ≤ l.length ∧ σ.t.get 0 = some (.string (B l)) ∧ σ.t.get 1 = some (.int .i64 (b : Nat)) ∧ σ.m.h = h ∧ b + skipL false (l.drop b) = a + skipL false (l.drop a)
def J23r (l : List UInt8) (a : Nat) (h : Heap) (n : Nat) (σ : St) : Prop := ∃ b, n = l.length - b ∧ b ≤ l.length ∧ σ.t.get 0 = some (.string (B l)) ∧ σ.t.get 1 = some (.int .i64 (b : Nat)) ∧ σ.m.h = h ∧ b + skipL true (l.drop b) = a + skipL false (l.drop a)
theorem rskip_ok (l : List UInt8) (a : Nat) (ha : a ≤ l.length) (hl : l.length ≤ 1073741824) (h : Heap) : ACalls PP 87 [.string (B l), .int .i64 a] h (fun v h' => h' = h ∧ v = .int .i64 ((a + skipL false (l.drop a) : Nat) : Int)) := by
  refine acalls_of_vc mix fn87 bodyEq87 rfl (by show 2 ≤ 40; decide) ok87 ?_
  simp only [body87, Tryz.f87]
  simp
  refine vc_loop (J23 l a h) _ ⟨a, rfl, ha, by simp, by simp, rfl, rfl⟩ ?_
  rintro n ⟨T, ⟨x, H⟩⟩ ⟨b, rfl, hb, g0, g1, rfl, hr⟩
  simp at g0 g1
  simp [g0, g1]
  refine guardQ_of (fun hc => ?_) (fun hc => ?_) <;> simp only [decide_eq_true_eq, decide_eq_false_iff_not] at hc
  · have hbl : b < l.length := by omega
    have hc' : l[b]? = some l[b] := List.getElem?_eq_getElem hbl
    have hd := drop_get hc'
    simp [g0, g1, hc, hc', hbl]
    refine (rblank_ok _ _).mono ?_
    rintro v h'' ⟨rfl, rfl⟩
    simp [callQ, g0, g1]
    intro _
    by_cases hk : kindV l[b].toNat = 1
    · have hw : IntKind.wrap .i64 ((b : Int) + 1) = ((b + 1 : Nat) : Int) := by rw [i64wrap (by omega)]; omega
      rw [hd, skipL, if_pos hk] at hr
      simp [hk, g0, g1, hw, hbl]
      exact ⟨l.length - (b + 1), by omega, b + 1, rfl, by omega, by simp [g0], by simp, rfl, by omega⟩
    · rw [hd, skipL, if_neg hk] at hr
      simp [hk, g0, g1, hbl, hc']
      by_cases hq : l[b].toNat = 35
      · have hk2 : kindV l[b].toNat = 2 := by rw [kind_remark]; omega
        rw [if_pos hk2] at hr
        simp [hq]
        have hr2 : b + skipL true (l.drop b) = a + skipL false (l.drop a) := by rw [hd, skipL, if_neg (by omega)]; omega
        clear hr hd hc'
        refine vc_loop (J23r l a h'') _ ⟨b, rfl, by omega, by simp [g0], by simp [g1], rfl, hr2⟩ ?_
        clear g0 g1
        rintro n ⟨T, ⟨x, H'⟩⟩ ⟨b, rfl, hb, g0, g1, hH, hr⟩
        simp at g0 g1 hH
        subst hH
        simp [g0, g1]
        by_cases hc : b < l.length
        · have hc' : l[b]? = some l[b] := List.getElem?_eq_getElem hc
          have hd := drop_get hc'
          have hw : IntKind.wrap .i64 ((b : Int) + 1) = ((b + 1 : Nat) : Int) := by rw [i64wrap (by omega)]; omega
          rw [hd, skipL] at hr
          by_cases h10 : l[b].toNat = 10
          · rw [if_pos h10] at hr
            simp [g0, g1, hc, hc', h10]
            omega
          · rw [if_neg h10] at hr
            have h10' : ¬ (l[b].toNat : Int) = 10 := by omega
            simp [g0, g1, hc, hc', h10', hw]
            exact ⟨l.length - (b + 1), by omega, b + 1, rfl, by omega, by simp [g0], by simp, rfl, by omega⟩
        · rw [drop_end hc, skipL] at hr
          simp [g0, g1, hc]
          omega
      · have hk2 : ¬ kindV l[b].toNat = 2 := by rw [kind_remark]; omega
        rw [if_neg hk2] at hr
        have hq' : ¬ (l[b].toNat : Int) = 35 := by omega
        simp [hq', g0, g1]
        omega
  · rw [drop_end (by omega), skipL] at hr
    have hbl : ¬ b < l.length := by omega
    simp [g0, g1, hbl]
    omega
end Go.Proofs.Yph.T
namespace Go.Proofs.Yph.T
open Go Go.Am
set_option maxRecDepth 20000
set_option linter.unusedSimpArgs false
set_option maxHeartbeats 2000000
/-! the document's own answer: numbers -/
@[irreducible] def capM (n d : Nat) : Nat := if 1099511627776 < n * 10 + d then 1099511627776 else n * 10 + d
theorem capM_eq (n d : Nat) : capM n d = if 1099511627776 < n * 10 + d then 1099511627776 else n * 10 + d := by unfold capM; rfl
theorem capM_le (n d : Nat) : capM n d ≤ 1099511627776 := by rw [capM_eq]; split <;> omega
def rnumL (n : Nat) : List UInt8 → Nat
  | [] => n
  | c :: r => rnumL (if kindV c.toNat = 5 then capM n (c.toNat - 48) else n) r
theorem rnumL_cons (n : Nat) (c : UInt8) (r : List UInt8) : rnumL n (c :: r) = rnumL (if kindV c.toNat = 5 then capM n (c.toNat - 48) else n) r := by simp only [rnumL]
theorem rnumL_nil (n : Nat) : rnumL n [] = n := by simp only [rnumL]
@[irreducible] def capV (n d : Nat) : Nat := n * 10 + d
theorem capV_eq (n d : Nat) : capV n d = n * 10 + d := by unfold capV; rfl
def valL (n : Nat) : List UInt8 → Nat
  | [] => n
  | c :: r => valL (capV n (c.toNat - 48)) r
theorem valL_cons (n : Nat) (c : UInt8) (r : List UInt8) : valL n (c :: r) = valL (capV n (c.toNat - 48)) r := by simp only [valL]
theorem valL_nil (n : Nat) : valL n [] = n := by simp only [valL]
theorem numL_val (C : Nat) (hC : C = 2147483649) : ∀ (l : List UInt8) (x : Nat), numL (min x C) l = min (valL x l) C := by
  intro l
  induction l with
  | nil => intro x; rw [numL_nil, valL_nil]
  | cons c r ih =>
    intro x
    have e : capN (min x C) (c.toNat - 48) = min (x * 10 + (c.toNat - 48)) C := by rw [capN_eq]; split <;> omega
    rw [numL_cons, valL_cons, ← ih, capV_eq, e]
theorem rnumL_val (C : Nat) (hC : C = 1099511627776) : ∀ (l : List UInt8) (x : Nat), (∀ c ∈ l, kindV c.toNat = 5) → rnumL (min x C) l = min (valL x l) C := by
  intro l
  induction l with
  | nil => intro x _; rw [rnumL_nil, valL_nil]
  | cons c r ih =>
    intro x h
    have e : capM (min x C) (c.toNat - 48) = min (x * 10 + (c.toNat - 48)) C := by rw [capM_eq]; split <;> omega
    rw [rnumL_cons, valL_cons, ← ih _ (fun y hy => h y (by simp [hy])), if_pos (h c (by simp)), capV_eq, e]
def J27 (w : List UInt8) (mi : Bool) (h : Heap) (n : Nat) (σ : St) : Prop := ∃ i v : Nat, n = w.length - i ∧ i ≤ w.length ∧ v ≤ 1099511627776 ∧ σ.m.h = h ∧ σ.t.get 0 = some (.string (B w)) ∧ σ.t.get 4 = some (.int .i64 (v : Nat)) ∧ σ.t.get 5 = some (.bool mi) ∧ σ.t.get 6 = some (.int .i64 (i : Nat)) ∧ rnumL v (w.drop i) = rnumL 0 w
theorem rnumber_ok (w : List UInt8) (c : UInt8) (hc : w[0]? = some c) (hl : w.length ≤ 1073741824) (h : Heap) (x : Int) (hx : x = if c.toNat = 45 then -(rnumL 0 w : Int) else rnumL 0 w) :
    ACalls PP 91 [.string (B w)] h (fun v h' => h' = h ∧ v = .tuple #[.int .i64 x, .bool (decide (-2147483648 ≤ x) && decide (x ≤ 2147483647))]) := by
  refine acalls_of_vc mix fn91 bodyEq91 rfl (by show 1 ≤ 39; decide) ok91 ?_
  simp only [body91, Tryz.f91]
  have hpos : 0 < w.length := by rw [List.getElem?_eq_some_iff] at hc; exact hc.1
  have hcw : c = w[0] := by rw [List.getElem?_eq_some_iff] at hc; exact hc.2.symm
  subst hcw
  simp [hc, hpos]
  refine vc_loop (J27 w (decide (((w[0]'hpos).toNat : Int) = 45)) h) _ ⟨0, 0, rfl, by omega, by omega, rfl, by simp, by simp, by simp, by simp, by simp⟩ ?_
  rintro n ⟨T, ⟨y, H⟩⟩ ⟨i, v, rfl, hi, hv, rfl, g0, g4, g5, g6, hr⟩
  simp at g0 g4 g5 g6
  simp [g0, g4, g5, g6]
  refine condQ_of (fun hq => ?_) (fun hq => ?_) <;> simp only [decide_eq_true_eq, decide_eq_false_iff_not] at hq
  · have hil : i < w.length := by omega
    have hci : w[i]? = some w[i] := List.getElem?_eq_getElem hil
    have hd := drop_get hci
    have w1 : IntKind.wrap .i64 ((i : Int) + 1) = ((i + 1 : Nat) : Int) := by rw [i64wrap (by omega)]; omega
    simp [g0, g4, g5, g6, hci, hil]
    refine (rdigit_ok _ _).mono ?_
    rintro v' h'' ⟨rfl, rfl⟩
    simp [callQ]
    intro _
    rw [hd, rnumL_cons] at hr
    by_cases hk : kindV w[i].toNat = 5
    · rw [if_pos hk] at hr
      have hk' := kind_digit.1 hk
      obtain ⟨d, hd2⟩ : ∃ d : Nat, d = w[i].toNat - 48 := ⟨_, rfl⟩
      obtain ⟨q1, hq1⟩ : ∃ q : Int, q = (v : Int) * 10 := ⟨_, rfl⟩
      obtain ⟨q2, hq2⟩ : ∃ q : Int, q = (d : Int) := ⟨_, rfl⟩
      obtain ⟨q3, hq3⟩ : ∃ q : Int, q = q1 + q2 := ⟨_, rfl⟩
      obtain ⟨q4, hq4⟩ : ∃ q : Int, q = if 1099511627776 < q3 then 1099511627776 else q3 := ⟨_, rfl⟩
      have hq5 : q4 = (capM v d : Int) := by rw [hq4, capM_eq]; split <;> split <;> omega
      have u1 : IntKind.wrap .u8 ((w[i].toNat : Int) - 48) = q2 := by
        have e : IntKind.wrap .u8 ((w[i].toNat : Int) - 48) = ((w[i].toNat : Int) - 48) % 256 := by simp [IntKind.wrap, IntKind.bits, IntKind.signed]
        rw [e]; omega
      have u2 : IntKind.wrap .i64 ((v : Int) * 10) = q1 := by rw [i64wrap (by omega)]; omega
      have u3 : IntKind.wrap .i64 q2 = q2 := i64wrap (by omega)
      have u4 : IntKind.wrap .i64 (q1 + q2) = q3 := by rw [i64wrap (by omega)]; omega
      rw [← hd2] at hr
      simp [g0, g4, g5, g6, hk, hci, hil, u1, u2, u3, u4, ← hq4, w1]
      exact ⟨w.length - (i + 1), by omega, i + 1, capM v d, rfl, by omega, capM_le _ _, rfl, by simp [g0], by simp [← hq5], by simp [g5], by simp, hr⟩
    · rw [if_neg hk] at hr
      simp [g0, g4, g5, g6, hk, w1]
      exact ⟨w.length - (i + 1), by omega, i + 1, v, rfl, by omega, hv, rfl, by simp [g0], by simp [g4], by simp [g5], by simp, hr⟩
  · have hr0 : rnumL 0 w = v := by rw [drop_end (by omega), rnumL_nil] at hr; exact hr.symm
    rw [hr0] at hx
    simp [g0, g4, g5, g6]
    refine condQ_of (fun hm => ?_) (fun hm => ?_) <;> simp only [decide_eq_true_eq, decide_eq_false_iff_not] at hm
    · rw [if_pos (by omega)] at hx
      have e9 : IntKind.wrap .i64 (-(v : Int)) = x := by rw [i64wrap (by omega), hx]
      simp [g4, e9]
      by_cases h1 : -2147483648 ≤ x
      · simp [h1]
      · simp [h1]
    · rw [if_neg (by omega)] at hx
      subst hx
      simp [g4]
/-- the two readings of a number agree -/
theorem num_agree (m ds : List UInt8) (c : UInt8) (hm : m = [] ∨ m = [45]) (hd : ∀ x ∈ ds, kindV x.toNat = 5) (hne : ds ≠ []) (hc : (m ++ ds)[0]? = some c) (x : Int) (hx : x = if c.toNat = 45 then -(rnumL 0 (m ++ ds) : Int) else rnumL 0 (m ++ ds))
    (y : Int) (hy : y = if m = [] then (numL 0 ds : Int) else -(numL 0 ds : Int)) :
    ((-2147483648 ≤ x ∧ x ≤ 2147483647) ↔ ¬ (y < -2147483648 ∨ 2147483647 < y)) ∧ (-2147483648 ≤ x → x ≤ 2147483647 → x = y) := by
  obtain ⟨C, hC⟩ : ∃ C, C = 2147483649 := ⟨_, rfl⟩
  obtain ⟨D, hD⟩ : ∃ D, D = 1099511627776 := ⟨_, rfl⟩
  have e1 : numL 0 ds = min (valL 0 ds) C := by have := numL_val C hC ds 0; rwa [Nat.zero_min] at this
  have e2 : rnumL 0 (m ++ ds) = min (valL 0 ds) D := by
    have := rnumL_val D hD ds 0 hd
    rw [Nat.zero_min] at this
    rcases hm with rfl | rfl
    · exact this
    · rw [List.cons_append, rnumL_cons, if_neg (by decide)]; exact this
  rw [e1] at hy
  rw [e2] at hx
  rcases hm with rfl | rfl
  · have hc5 : c.toNat ≠ 45 := by
      cases ds with
      | nil => exact absurd rfl hne
      | cons d r =>
        simp at hc; subst hc
        have := kind_digit.1 (hd d (by simp)); omega
    rw [if_neg hc5] at hx
    rw [if_pos rfl] at hy
    omega
  · simp at hc
    subst hc
    rw [if_pos (by decide)] at hx
    rw [if_neg (by simp)] at hy
    omega
end Go.Proofs.Yph.T
namespace Go.Proofs.Yph.T
open Go Go.Am
set_option maxRecDepth 20000
set_option linter.unusedSimpArgs false
set_option maxHeartbeats 2000000
/-! the document's own answer: the next token -/
theorem rmove_ok (ln col n : Int) (hn : -9223372036854775808 ≤ col + n ∧ col + n ≤ 9223372036854775807) (h : Heap) : ACalls PP 88 [spotV ln col, .int .i64 n] h (fun v h' => h' = h ∧ v = spotV ln (col + n)) := by
  refine acalls_of_vc mix fn88 bodyEq88 rfl (by show 2 ≤ 12; decide) ok88 ?_
  simp only [body88, Tryz.f88]
  have e1 : IntKind.wrap .i64 (col + n) = col + n := i64wrap hn
  simp [spotV, e1]
theorem runL_stop (k : Nat) : ∀ (l : List UInt8) (d : UInt8), l[runL k l]? = some d → kindV d.toNat ≠ k := by
  intro l
  induction l with
  | nil => intro d h; simp [runL] at h
  | cons c r ih =>
    intro d h
    simp only [runL] at h
    split at h
    · exact ih d (by simpa using h)
    · rename_i hk; simp at h; subst h; exact hk
theorem run_stop {l : List UInt8} {k a : Nat} {d : UInt8} (h : l[a + runL k (l.drop a)]? = some d) : kindV d.toNat ≠ k := by
  have := runL_stop k (l.drop a) d (by rw [List.getElem?_drop]; exact h)
  exact this
def K10 (l : List UInt8) (a k : Nat) (z6 z8 : List Value) (ln q : Int) (h : Heap) (σ : St) : Prop :=
  σ.m.h = h ∧ σ.t.get 0 = some (.string (B l)) ∧ σ.t.get 1 = some (.int .i64 (a : Nat)) ∧ σ.t.get 6 = some (.pointer (some ⟨6, 0, some 0⟩)) ∧ σ.t.get 8 = some (.pointer (some ⟨8, 0, some 0⟩)) ∧ σ.t.get 10 = some (.int .i64 (k : Nat)) ∧
  σ.t.get 11 = some (.pointer (some ⟨11, 0, some 0⟩)) ∧ σ.t.get 12 = some (.pointer (some ⟨12, 0, some 0⟩)) ∧ σ.m.x.look 6 = some (84, z6) ∧ σ.m.x.look 8 = some (27, z8) ∧ σ.m.x.look 11 = some (27, [.int .i64 ln, .int .i64 q]) ∧
  σ.m.x.look 12 = some (84, [.int .i64 0, .int .i64 0, .int .i64 ln, .int .i64 q, .string (B [])])
def J10w (l : List UInt8) (a k kk : Nat) (z6 z8 : List Value) (ln q : Int) (h : Heap) (n : Nat) (σ : St) : Prop := ∃ e, n = l.length - e ∧ e ≤ l.length ∧ e + runL kk (l.drop e) = k + runL kk (l.drop k) ∧ σ.t.get 13 = some (.int .i64 (e : Nat)) ∧ K10 l a k z6 z8 ln q h σ
def J10d (l : List UInt8) (a k f kk : Nat) (z6 z8 : List Value) (ln q : Int) (h : Heap) (n : Nat) (σ : St) : Prop := ∃ e, n = l.length - e ∧ e ≤ l.length ∧ e + runL kk (l.drop e) = f + runL kk (l.drop f) ∧ σ.t.get 13 = some (.int .i64 (e : Nat)) ∧ σ.t.get 14 = some (.int .i64 (f : Nat)) ∧ K10 l a k z6 z8 ln q h σ
theorem getD_get' {l : List UInt8} {k : Nat} {c : UInt8} (h : l[k]? = some c) : l.getD k 0 = c := by
  rw [List.getD_eq_getElem?_getD, h]; rfl
theorem rnext_ok (l : List UInt8) (a : Nat) (ln col : Int) (hl : l.length ≤ 1073741824) (ha : a ≤ l.length) (hln : 0 ≤ ln ∧ ln ≤ 4294967296) (hcol : 0 ≤ col ∧ col ≤ 2147483648) (h : Heap) :
    ACalls PP 60 [.string (B l), .int .i64 a, spotV ln col] h (fun v h' => Ext h h' ∧ v = nxV (nextV l a ln col)) := by
  refine acalls_of_vc mix fn60 bodyEq60 rfl (by show 3 ≤ 165; decide) ok60 ?_
  simp only [body60, Tryz.f60]
  have c1 : ¬ (a : Int) < 0 := by omega
  have c2 : ¬ (l.length : Int) < (a : Int) := by omega
  simp [spotV, c1, c2]
  obtain ⟨k, hk⟩ : ∃ k, k = a + skipL false (l.drop a) := ⟨_, rfl⟩
  have hsk := rskip_ok l a ha hl h
  rw [← hk] at hsk
  have hak : a ≤ k := by omega
  have hkl : k ≤ l.length := by have := skipL_le false (l.drop a); rw [List.length_drop] at this; omega
  have hX : nextV l a ln col = nextV' l a k ln col := by rw [nextV, ← hk]
  rw [hX]
  refine hsk.mono ?_
  rintro v h'' ⟨rfl, rfl⟩
  simp [callQ]
  intro _
  obtain ⟨d, hd⟩ : ∃ d : Int, d = (k : Int) - a := ⟨_, rfl⟩
  have w1 : IntKind.wrap .i64 ((k : Int) - a) = d := by rw [i64wrap (by omega), hd]
  simp [w1]
  refine (rmove_ok ln col d (by omega) h'').mono ?_
  rintro v h3 ⟨rfl, rfl⟩
  obtain ⟨q, hq⟩ : ∃ q : Int, q = col + d := ⟨_, rfl⟩
  have hq2 : q = col + k - a := by omega
  rw [← hq]
  simp [callQ, spotV]
  intro _
  by_cases hend : k = l.length
  · have hnone : l[k]? = none := List.getElem?_eq_none (by omega)
    subst hend
    simp [nextV', hnone, nxV, tokV, tokC, zTok, spotV, hq2]
    exact Ext.rfl' _
  · have hlt : k < l.length := by omega
    have hend' : ¬ ((k : Int) = (l.length : Int)) := by omega
    have hc' : l[k]? = some l[k] := List.getElem?_eq_getElem hlt
    simp [hend', hc', hlt]
    obtain ⟨c, hc⟩ : ∃ c, c = l[k] := ⟨_, rfl⟩
    rw [← hc] at hc' ⊢
    by_cases h10 : c.toNat = 10
    · have hk3 : kindV c.toNat = 3 := by rw [h10]; rfl
      have w2 : IntKind.wrap .i64 (ln + 1) = ln + 1 := i64wrap (by omega)
      have w3 : IntKind.wrap .i64 ((k : Int) + 1) = (k : Int) + 1 := i64wrap (by omega)
      simp [h10, w2, w3]
      simp [nextV', hc', hk3, nxV, tokV, tokC, zTok, spotV, hq2]
      exact Ext.rfl' _
    · have hk3 : ¬ kindV c.toNat = 3 := by simp only [kindV]; (repeat' split) <;> omega
      have h10' : ¬ (c.toNat : Int) = 10 := by omega
      simp [h10']
      try simp [hc']
      refine (rletter_ok _ _).mono ?_
      rintro v h4 ⟨rfl, rfl⟩
      simp [callQ]
      intro _
      by_cases hk4 : kindV c.toNat = 4
      · simp [hk4]
        refine vc_loop (J10w l a k 4 _ _ ln q h4) _ ⟨k, rfl, by omega, rfl, by simp, rfl, by simp, by simp, by simp, by simp, by simp, by simp, by simp, by simp; rfl, by simp; rfl, by simp, by simp⟩ ?_
        rintro n ⟨T, ⟨x, H⟩⟩ ⟨e, rfl, he, hr, g13, hH, g0, g1, g6, g8, g10, g11, g12, x6, x8, x11, x12⟩
        simp at hH g13 g0 g1 g6 g8 g10 g11 g12 x6 x8 x11 x12
        subst hH
        simp [g13, g0, g1, g6, g8, g10, g11, g12, x6, x8, x11, x12]
        by_cases hel : e < l.length
        · have he' : l[e]? = some l[e] := List.getElem?_eq_getElem hel
          have hde := drop_get he'
          rw [hde, runL] at hr
          simp [hel, he', g13, g0, g1, g6, g8, g10, g11, g12, x6, x8, x11, x12]
          refine (rletter_ok _ _).mono ?_
          rintro v H2 ⟨rfl, rfl⟩
          simp [callQ]
          intro _
          by_cases g4 : kindV l[e].toNat = 4
          · rw [if_pos g4] at hr
            have ww : IntKind.wrap .i64 ((e : Int) + 1) = ((e + 1 : Nat) : Int) := by rw [i64wrap (by omega)]; omega
            simp [g4, ww, hel, g13, g0, g1, g6, g8, g10, g11, g12, x6, x8, x11, x12]
            exact ⟨l.length - (e + 1), by omega, e + 1, rfl, by omega, by omega, by simp, rfl, by simp [g0], by simp [g1], by simp [g6], by simp [g8], by simp [g10], by simp [g11], by simp [g12], by simp [x6], by simp [x8], by simp [x11], by simp [x12]⟩
          · rw [if_neg g4] at hr
            have hke : k ≤ e := by omega
            have hto : e = k + runL 4 (l.drop k) := by omega
            have wk : IntKind.wrap .i64 ((e : Int) - k) = ((e - k : Nat) : Int) := by rw [i64wrap (by omega)]; omega
            have wq : q + ((e - k : Nat) : Int) = col + e - a := by omega
            simp [g4, hke, hel, he, he', wk, g13, g0, g1, g6, g8, g10, g11, g12, x6, x8, x11, x12]
            refine (rdigit_ok _ _).mono ?_
            rintro v H2 ⟨rfl, rfl⟩
            simp [callQ]
            intro _
            by_cases g5 : kindV l[e].toNat = 5
            · simp [g5, g4, hke, hel, he, he', wk, g13, g0, g1, g6, g8, g10, g11, g12, x6, x8, x11, x12]
              refine (rmove_ok ln q ((e - k : Nat) : Int) (by omega) _).mono ?_
              rintro v H3 ⟨rfl, rfl⟩
              simp [callQ, callP, spotV]
              intro _
              simp [nextV', hc', hk3, hk4, ← hto, endOk, he', g5, nxV, tokV, tokC, zTok, spotV, wq]
              exact Ext.rfl' _
            · simp [g5, g4, hke, hel, he, he', wk, g13, g0, g1, g6, g8, g10, g11, g12, x6, x8, x11, x12]
              by_cases g6' : l[e].toNat = 45
              · have g6k : kindV l[e].toNat = 6 := kind_minus.2 g6'
                simp [g6', g4, hke, hel, he, he', wk, g13, g0, g1, g6, g8, g10, g11, g12, x6, x8, x11, x12]
                refine (rmove_ok ln q ((e - k : Nat) : Int) (by omega) _).mono ?_
                rintro v H3 ⟨rfl, rfl⟩
                simp [callQ, callP, spotV]
                intro _
                simp [nextV', hc', hk3, hk4, ← hto, endOk, he', g6k, nxV, tokV, tokC, zTok, spotV, wq]
                exact Ext.rfl' _
              · have g6k : ¬ kindV l[e].toNat = 6 := fun z => g6' (kind_minus.1 z)
                have g6'' : ¬ (l[e].toNat : Int) = 45 := by omega
                simp [g6'', g4, hke, hel, he, he', wk, g13, g0, g1, g6, g8, g10, g11, g12, x6, x8, x11, x12]
                refine (rletter_ok _ _).mono ?_
                rintro v H2 ⟨rfl, rfl⟩
                simp [callQ]
                intro _
                simp [g4, g4, hke, hel, he, he', wk, g13, g0, g1, g6, g8, g10, g11, g12, x6, x8, x11, x12]
                refine (rmove_ok ln q ((e - k : Nat) : Int) (by omega) _).mono ?_
                rintro v H3 ⟨rfl, rfl⟩
                simp [callQ, callP, spotV]
                intro _
                simp [nextV', hc', hk3, hk4, ← hto, endOk, he', g4, g5, g6k, nxV, tokV, tokC, zTok, spotV, wq, hq2]
                exact ⟨Ext.rfl' _, by omega⟩
        · have hke : k ≤ e := by rw [drop_end hel, runL] at hr; omega
          have hto : e = k + runL 4 (l.drop k) := by rw [drop_end hel, runL] at hr; omega
          have he' : l[e]? = none := List.getElem?_eq_none (by omega)
          have wk : IntKind.wrap .i64 ((e : Int) - k) = ((e - k : Nat) : Int) := by rw [i64wrap (by omega)]; omega
          have wq : q + ((e - k : Nat) : Int) = col + e - a := by omega
          simp [hel, hke, he, wk, g13, g0, g1, g6, g8, g10, g11, g12, x6, x8, x11, x12]
          refine (rmove_ok ln q ((e - k : Nat) : Int) (by omega) _).mono ?_
          rintro v H3 ⟨rfl, rfl⟩
          simp [callQ, callP, spotV]
          intro _
          simp [nextV', hc', hk3, hk4, ← hto, endOk, he', nxV, tokV, tokC, zTok, spotV, wq, hq2]
          exact ⟨Ext.rfl' _, by omega⟩
      · simp [hk4]
        obtain ⟨m, hm⟩ : ∃ m : Nat, m = if c.toNat = 45 then 1 else 0 := ⟨_, rfl⟩
        obtain ⟨f, hf⟩ : ∃ f, f = k + m := ⟨_, rfl⟩
        have hfl : f ≤ l.length := by split at hm <;> omega
        obtain ⟨to, hto⟩ : ∃ to, to = f + runL 5 (l.drop f) := ⟨_, rfl⟩
        have htl : to ≤ l.length := by have := runL_le 5 (l.drop f); rw [List.length_drop] at this; omega
        have hM : numM l k = m := by unfold numM; rw [getD_get' hc', hm]
        have hT : numT l k = to - f := by unfold numT; rw [hM, ← hf]; omega
        have hd0 := drop_get hc'
        have h56 : f < to → kindV c.toNat = 6 ∨ kindV c.toNat = 5 := by
          intro hft
          by_cases h45 : c.toNat = 45
          · exact .inl (kind_minus.2 h45)
          · rw [if_neg h45] at hm
            have : f = k := by omega
            rw [this, hd0, runL] at hto
            by_cases h5 : kindV c.toNat = 5
            · exact .inr h5
            · rw [if_neg h5] at hto; omega
        have hbad0 : to = f → nextV' l a k ln col = ⟨zTok, a, ln, q, 2⟩ := by
          intro htf
          unfold nextV'
          rw [hc']
          dsimp only
          rw [if_neg hk3, if_neg hk4]
          have hnv : numV l k = ⟨0, k, false⟩ := by unfold numV numV'; rw [if_pos (.inl (by omega))]
          rw [hnv]
          split
          · rw [if_neg (by simp), hq2]
          · rw [hq2]
        obtain ⟨nn, hnn⟩ : ∃ nn, nn = numN l k := ⟨_, rfl⟩
        obtain ⟨ds, hds⟩ : ∃ ds, ds = (l.take to).drop f := ⟨_, rfl⟩
        have hds2 : ds = (l.drop f).take (to - f) := by rw [hds, List.drop_take]
        have hdd : ∀ x ∈ ds, kindV x.toNat = 5 := fun x hx => by
          rw [hds2] at hx
          exact runL_all 5 (l.drop f) x (by rw [show runL 5 (l.drop f) = to - f by omega]; exact hx)
        obtain ⟨mm, hmm⟩ : ∃ mm : List UInt8, mm = if c.toNat = 45 then [45] else [] := ⟨_, rfl⟩
        have hmm2 : mm = [] ∨ mm = [45] := by split at hmm <;> simp [hmm]
        have hw : (l.take to).drop k = mm ++ ds := by
          have e1 : (l.take to).drop k = ((l.take to).drop k).take m ++ ((l.take to).drop k).drop m := (List.take_append_drop _ _).symm
          rw [e1, List.drop_drop, ← hf, ← hds]
          congr 1
          by_cases h45 : c.toNat = 45
          · rw [if_pos h45] at hm hmm
            rw [hmm, hm, List.drop_take, hd0, show to - k = (to - k - 1) + 1 by omega]
            have : c = 45 := UInt8.toNat_inj.mp (by rw [h45]; rfl)
            rw [this]; simp
          · rw [if_neg h45] at hm hmm
            rw [hmm, hm]; simp
        have hyn : nn = if mm = [] then (numL 0 ds : Int) else -(numL 0 ds : Int) := by
          rw [hnn, numN, hM, hT, ← hf, ← hds2]
          by_cases h45 : c.toNat = 45
          · rw [if_pos h45] at hm hmm; rw [hm, hmm]; simp
          · rw [if_neg h45] at hm hmm; rw [hm, hmm]; simp
        obtain ⟨xn, hxn⟩ : ∃ xn : Int, xn = if c.toNat = 45 then -(rnumL 0 ((l.take to).drop k) : Int) else rnumL 0 ((l.take to).drop k) := ⟨_, rfl⟩
        have hw0 : k < to → ((l.take to).drop k)[0]? = some c := by
          intro hkt
          rw [List.getElem?_drop, List.getElem?_take, if_pos (by omega)]; exact hc'
        have hagree := fun (hft : f < to) => num_agree mm ds c hmm2 hdd (by intro e; have := congrArg List.length e; rw [hds2, List.length_take, List.length_drop] at this; simp at this; omega) (by rw [← hw]; exact hw0 (by omega)) xn (by rw [← hw]; exact hxn) nn hyn
        have hkf : k ≤ f := by omega
        by_cases h45 : c.toNat = 45
        case' pos =>
          have w2 : IntKind.wrap .i64 ((k : Int) + 1) = (f : Int) := by rw [if_pos h45] at hm; rw [i64wrap (by omega)]; omega
          simp [h45, hc', w2]
        case' neg =>
          have h45' : ¬ (c.toNat : Int) = 45 := by omega
          have w2 : (k : Int) = (f : Int) := by rw [if_neg h45] at hm; omega
          have w3 : k = f := by omega
          simp [h45', hc']
        all_goals
          refine vc_loop (J10d l a k f 5 _ _ ln q h4) _ ⟨f, rfl, by omega, rfl, by simp <;> omega, by simp <;> omega, rfl, by simp, by simp, by simp, by simp, by simp, by simp, by simp, by simp; rfl, by simp; rfl, by simp, by simp⟩ ?_
          rintro n ⟨T, ⟨x, H⟩⟩ ⟨e, rfl, he, hr, g13, g14, hH, g0, g1, g6, g8, g10, g11, g12, x6, x8, x11, x12⟩
          simp at hH g13 g14 g0 g1 g6 g8 g10 g11 g12 x6 x8 x11 x12
          subst hH
          simp [g13, g14, g0, g1, g6, g8, g10, g11, g12, x6, x8, x11, x12]
          by_cases hel : e < l.length
          · have he' : l[e]? = some l[e] := List.getElem?_eq_getElem hel
            have hde := drop_get he'
            rw [hde, runL] at hr
            simp [hel, he', g14, g13, g0, g1, g6, g8, g10, g11, g12, x6, x8, x11, x12]
            refine (rdigit_ok _ _).mono ?_
            rintro v H2 ⟨rfl, rfl⟩
            simp [callQ]
            intro _
            by_cases g5 : kindV l[e].toNat = 5
            · rw [if_pos g5] at hr
              have ww : IntKind.wrap .i64 ((e : Int) + 1) = ((e + 1 : Nat) : Int) := by rw [i64wrap (by omega)]; omega
              simp [g5, ww, hel, g14, g13, g0, g1, g6, g8, g10, g11, g12, x6, x8, x11, x12]
              exact ⟨l.length - (e + 1), by omega, e + 1, rfl, by omega, by omega, by simp, by simp [g14], rfl, by simp [g0], by simp [g1], by simp [g6], by simp [g8], by simp [g10], by simp [g11], by simp [g12], by simp [x6], by simp [x8], by simp [x11], by simp [x12]⟩
            · rw [if_neg g5] at hr
              simp [g5, hel, g14, g13, g0, g1, g6, g8, g10, g11, g12, x6, x8, x11, x12]
              have hte : e = to := by omega
              subst hte
              have hke : k ≤ e := by omega
              have wk : IntKind.wrap .i64 ((e : Int) - k) = ((e - k : Nat) : Int) := by rw [i64wrap (by omega)]; omega
              have wq : q + ((e - k : Nat) : Int) = col + e - a := by omega
              by_cases htf : e = f
              · simp [htf, hel, he', g14, g13, g0, g1, g6, g8, g10, g11, g12, x6, x8, x11, x12]
                rw [hbad0 htf]
                simp [nxV, tokV, tokC, zTok, spotV]
                exact Ext.rfl' _
              · have hft : f < e := by omega
                have hag := hagree hft
                have htf' : ¬ (e : Int) = (f : Int) := by omega
                have hNX0 : (nn < -2147483648 ∨ 2147483647 < nn) → nextV' l a k ln col = ⟨zTok, a, ln, q, 2⟩ := by
                  intro hr
                  unfold nextV'
                  rw [hc']
                  dsimp only
                  rw [if_neg hk3, if_neg hk4, if_pos (h56 hft)]
                  have hnv : numV l k = ⟨0, k, false⟩ := by unfold numV numV'; rw [← hnn, if_pos (.inr hr)]
                  rw [hnv]
                  rw [if_neg (by simp), hq2]
                have hNX1 : ¬ (nn < -2147483648 ∨ 2147483647 < nn) → ∀ b, (match l[e]? with | some c => decide (kindV c.toNat ≠ 4) && decide (kindV c.toNat ≠ 6) | none => true) = b →
                    nextV' l a k ln col = if b = true then ⟨⟨2, nn, ln, col + k - a, (l.take e).drop k⟩, e, ln, col + e - a, 0⟩ else ⟨zTok, a, ln, col + e - a, 2⟩ := by
                  intro hr b hb
                  unfold nextV'
                  rw [hc']
                  dsimp only
                  rw [if_neg hk3, if_neg hk4, if_pos (h56 hft)]
                  have hnv : numV l k = ⟨nn, e, b⟩ := by
                    unfold numV numV'
                    rw [← hnn, hM, hT, if_neg (by omega), show k + m + (e - f) = e by omega]
                    congr 1
                  rw [hnv]
                simp [htf', hke, he, hel, he', g14, g13, g0, g1, g6, g8, g10, g11, g12, x6, x8, x11, x12]
                refine (rnumber_ok ((l.take e).drop k) c (hw0 (by omega)) (by simp; omega) _ xn hxn).mono ?_
                rintro v H2 ⟨rfl, rfl⟩
                simp [callQ]
                intro _
                by_cases hx : -2147483648 ≤ xn ∧ xn ≤ 2147483647
                · obtain ⟨hx1, hx2⟩ := hx
                  have hNX := hNX1 (hag.1.1 ⟨hx1, hx2⟩)
                  have hxnn := hag.2 hx1 hx2
                  simp [hx1, hx2, hel, he', g13, g0, g1, g6, g8, g10, g11, g12, x6, x8, x11, x12]
                  try simp [g5, hke, hel, he, he', wk, g13, g0, g1, g6, g8, g10, g11, g12, x6, x8, x11, x12]
                  refine (rdigit_ok _ _).mono ?_
                  rintro v H2 ⟨rfl, rfl⟩
                  simp [callQ]
                  intro _
                  simp [g5, hke, hel, he, he', wk, g13, g0, g1, g6, g8, g10, g11, g12, x6, x8, x11, x12]
                  by_cases g6' : l[e].toNat = 45
                  · have g6k : kindV l[e].toNat = 6 := kind_minus.2 g6'
                    simp [g6', hke, hel, he, he', wk, g13, g0, g1, g6, g8, g10, g11, g12, x6, x8, x11, x12]
                    refine (rmove_ok ln q ((e - k : Nat) : Int) (by omega) _).mono ?_
                    rintro v H3 ⟨rfl, rfl⟩
                    simp [callQ, callP, spotV]
                    intro _
                    rw [hNX false (by simp [he', g6k])]
                    simp [nxV, tokV, tokC, zTok, spotV, wq]
                    exact Ext.rfl' _
                  · have g6k : ¬ kindV l[e].toNat = 6 := fun z => g6' (kind_minus.1 z)
                    have g6'' : ¬ (l[e].toNat : Int) = 45 := by omega
                    simp [g6'', hke, hel, he, he', wk, g13, g0, g1, g6, g8, g10, g11, g12, x6, x8, x11, x12]
                    refine (rletter_ok _ _).mono ?_
                    rintro v H2 ⟨rfl, rfl⟩
                    simp [callQ]
                    intro _
                    by_cases g4 : kindV l[e].toNat = 4
                    · simp [g4, hke, hel, he, he', wk, g13, g0, g1, g6, g8, g10, g11, g12, x6, x8, x11, x12]
                      refine (rmove_ok ln q ((e - k : Nat) : Int) (by omega) _).mono ?_
                      rintro v H3 ⟨rfl, rfl⟩
                      simp [callQ, callP, spotV]
                      intro _
                      rw [hNX false (by simp [he', g4])]
                      simp [nxV, tokV, tokC, zTok, spotV, wq]
                      exact Ext.rfl' _
                    · simp [g4, hke, hel, he, he', wk, g13, g0, g1, g6, g8, g10, g11, g12, x6, x8, x11, x12]
                      refine (rmove_ok ln q ((e - k : Nat) : Int) (by omega) _).mono ?_
                      rintro v H3 ⟨rfl, rfl⟩
                      simp [callQ, callP, spotV]
                      intro _
                      rw [hNX true (by simp [he', g4, g5, g6k])]
                      simp [nxV, tokV, tokC, zTok, spotV, wq, hq2, hxnn]
                      exact ⟨Ext.rfl' _, by omega⟩
                · rw [hNX0 (by have := hag.1; omega)]
                  rcases (by omega : ¬ -2147483648 ≤ xn ∨ (-2147483648 ≤ xn ∧ ¬ xn ≤ 2147483647)) with hx1 | ⟨hx1, hx2⟩
                  · simp [hx1, hel, he', g13, g0, g1, g6, g8, g10, g11, g12, x6, x8, x11, x12]
                    simp [nxV, tokV, tokC, zTok, spotV]
                    exact Ext.rfl' _
                  · simp [hx1, hx2, hel, he', g13, g0, g1, g6, g8, g10, g11, g12, x6, x8, x11, x12]
                    simp [nxV, tokV, tokC, zTok, spotV]
                    exact Ext.rfl' _
          · rw [drop_end hel, runL] at hr
            have he' : l[e]? = none := List.getElem?_eq_none (by omega)
            simp [hel, g14, g13, g0, g1, g6, g8, g10, g11, g12, x6, x8, x11, x12]
            have hte : e = to := by omega
            subst hte
            have hke : k ≤ e := by omega
            have wk : IntKind.wrap .i64 ((e : Int) - k) = ((e - k : Nat) : Int) := by rw [i64wrap (by omega)]; omega
            have wq : q + ((e - k : Nat) : Int) = col + e - a := by omega
            by_cases htf : e = f
            · simp [htf, hel, g14, g13, g0, g1, g6, g8, g10, g11, g12, x6, x8, x11, x12]
              rw [hbad0 htf]
              simp [nxV, tokV, tokC, zTok, spotV]
              exact Ext.rfl' _
            · have hft : f < e := by omega
              have hag := hagree hft
              have htf' : ¬ (e : Int) = (f : Int) := by omega
              have hNX0 : (nn < -2147483648 ∨ 2147483647 < nn) → nextV' l a k ln col = ⟨zTok, a, ln, q, 2⟩ := by
                intro hr
                unfold nextV'
                rw [hc']
                dsimp only
                rw [if_neg hk3, if_neg hk4, if_pos (h56 hft)]
                have hnv : numV l k = ⟨0, k, false⟩ := by unfold numV numV'; rw [← hnn, if_pos (.inr hr)]
                rw [hnv]
                rw [if_neg (by simp), hq2]
              have hNX1 : ¬ (nn < -2147483648 ∨ 2147483647 < nn) → ∀ b, (match l[e]? with | some c => decide (kindV c.toNat ≠ 4) && decide (kindV c.toNat ≠ 6) | none => true) = b →
                  nextV' l a k ln col = if b = true then ⟨⟨2, nn, ln, col + k - a, (l.take e).drop k⟩, e, ln, col + e - a, 0⟩ else ⟨zTok, a, ln, col + e - a, 2⟩ := by
                intro hr b hb
                unfold nextV'
                rw [hc']
                dsimp only
                rw [if_neg hk3, if_neg hk4, if_pos (h56 hft)]
                have hnv : numV l k = ⟨nn, e, b⟩ := by
                  unfold numV numV'
                  rw [← hnn, hM, hT, if_neg (by omega), show k + m + (e - f) = e by omega]
                  congr 1
                rw [hnv]
              simp [htf', hke, he, hel, g14, g13, g0, g1, g6, g8, g10, g11, g12, x6, x8, x11, x12]
              refine (rnumber_ok ((l.take e).drop k) c (hw0 (by omega)) (by simp; omega) _ xn hxn).mono ?_
              rintro v H2 ⟨rfl, rfl⟩
              simp [callQ]
              intro _
              by_cases hx : -2147483648 ≤ xn ∧ xn ≤ 2147483647
              · obtain ⟨hx1, hx2⟩ := hx
                have hNX := hNX1 (hag.1.1 ⟨hx1, hx2⟩)
                have hxnn := hag.2 hx1 hx2
                simp [hx1, hx2, hel, g13, g0, g1, g6, g8, g10, g11, g12, x6, x8, x11, x12]
                simp [hel, hke, he, wk, g13, g0, g1, g6, g8, g10, g11, g12, x6, x8, x11, x12]

                refine (rmove_ok ln q ((e - k : Nat) : Int) (by omega) _).mono ?_
                rintro v H3 ⟨rfl, rfl⟩
                simp [callQ, callP, spotV]
                intro _
                rw [hNX true (by simp [he'])]
                simp [nxV, tokV, tokC, zTok, spotV, wq, hq2, hxnn]
                exact ⟨Ext.rfl' _, by omega⟩
              · rw [hNX0 (by have := hag.1; omega)]
                rcases (by omega : ¬ -2147483648 ≤ xn ∨ (-2147483648 ≤ xn ∧ ¬ xn ≤ 2147483647)) with hx1 | ⟨hx1, hx2⟩
                · simp [hx1, hel, g13, g0, g1, g6, g8, g10, g11, g12, x6, x8, x11, x12]
                  simp [nxV, tokV, tokC, zTok, spotV]
                  exact Ext.rfl' _
                · simp [hx1, hx2, hel, g13, g0, g1, g6, g8, g10, g11, g12, x6, x8, x11, x12]
                  simp [nxV, tokV, tokC, zTok, spotV]
                  exact Ext.rfl' _
end Go.Proofs.Yph.T
namespace Go.Proofs.Yph.T
open Go Go.Am
set_option maxRecDepth 20000
set_option linter.unusedSimpArgs false
set_option maxHeartbeats 2000000
def pieces : List (List UInt8) := [[115, 101, 97, 116], [32], [53], [45, 51], [10], [35, 32, 120, 10], [119, 104, 101, 101, 108], [9], [50, 49, 52, 55, 52, 56, 51, 54, 52, 55], [50, 49, 52, 55, 52, 56, 51, 54, 52, 56], [45, 50, 49, 52, 55, 52, 56, 51, 54, 52, 56], [45, 50, 49, 52, 55, 52, 56, 51, 54, 52, 57], [45], [97, 49], [49, 97], [49, 45], [59], [195, 169], [103, 97, 112], [107, 105, 108, 108], [112, 111, 108, 101], [13], [35], [48], [99, 111, 109, 112, 97, 110, 105, 111, 110], [57, 57, 57, 57, 57, 57, 57, 57, 57, 57, 57, 57, 57, 57, 57, 57, 57, 57, 57, 57], [65], [32, 32], [49], [50]]
def pieceN (x : Int) : Nat := ((x % 18446744073709551616) % 30).toNat
def piece (x : Int) : List UInt8 := pieces.getD (pieceN x) []
def textL (l : List Int) : List UInt8 := l.flatMap piece
theorem hr30 : List.range 30 = [0,1,2,3,4,5,6,7,8,9,10,11,12,13,14,15,16,17,18,19,20,21,22,23,24,25,26,27,28,29] := rfl
def J16 (s0 : Value) (l : List Int) (most : Nat) (h : Heap) (n : Nat) (σ : St) : Prop := ∃ i : Nat, n = l.length - i ∧ i ≤ l.length ∧ i ≤ most ∧ σ.t.get 0 = some s0 ∧ σ.t.get 1 = some (.int .i64 most) ∧ σ.t.get 5 = some (.slice (some ⟨h.n, 0, none⟩) 30 30) ∧
  σ.t.get 6 = some (.string (B (textL (l.take i)))) ∧ σ.t.get 7 = some (.int .i64 i) ∧ Ext h σ.m.h ∧ σ.m.h.f h.n = .row true 9 (pieces.map fun p => .string (B p)) ∧ h.n < σ.m.h.n
theorem IntsA.ext {h h' : Heap} {v : Value} {l : List Int} (H : IntsA h v l) (e : Ext h h') : IntsA h' v l := by
  obtain ⟨ad, c, q, z⟩ := H
  refine ⟨ad, c, q, ?_⟩
  rcases z with z | ⟨b, w, cs, z1, z2, z3⟩
  · exact .inl z
  · exact .inr ⟨b, w, cs, z1, by rw [e.f b z3, z2], Nat.lt_of_lt_of_le z3 e.n⟩
theorem piece_len (x : Int) : (piece x).length ≤ 20 := by
  have h : ∀ n, n < 30 → (pieces.getD n []).length ≤ 20 := by decide
  exact h _ (by unfold pieceN; omega)
theorem textL_len (l : List Int) : (textL l).length ≤ 20 * l.length := by
  induction l with
  | nil => simp [textL]
  | cons x r ih => simp only [textL, List.flatMap_cons, List.length_append, List.length_cons] at ih ⊢; have := piece_len x; omega
theorem text_ok (s : Value) (l : List Int) (most : Nat) (hm : most ≤ 1000) (hl : l.length ≤ 1152921504606846976) (h : Heap) (hs : IntsA h s l) :
    ACalls PP 11 [s, .int .i64 most] h (fun v h' => Ext h h' ∧ v = .string (B (textL (l.take most)))) := by
  refine acalls_of_vc mix fn11 bodyEq11 rfl (by show 2 ≤ 35; decide) ok11 ?_
  simp only [body11, Tryz.f11]
  have hnl : noLoc s = true := by obtain ⟨ad, c, rfl, _⟩ := hs; rfl
  obtain ⟨ad, c, rfl, hz⟩ := hs
  simp [opBuildSlice, hr30]
  refine vc_loop (J16 (.slice ad l.length c) l most h) _ ⟨0, rfl, by omega, by omega, by simp, by simp, by simp, by simp [textL], by simp, Ext.new _ _, by simp [pieces], by simp⟩ ?_
  rintro n ⟨T, ⟨x, H⟩⟩ ⟨i, rfl, hi, him, g0, g1, g5, g6, g7, hE, hrow, hn⟩
  simp at g0 g1 g5 g6 g7 hE hn
  have hrow : H.f h.n = .row true 9 (pieces.map fun p => .string (B p)) := hrow
  simp [g0, g1, g5, g6, g7]
  by_cases h1 : i < l.length
  · by_cases h2 : i < most
    · obtain ⟨b, w, cs, rfl, hb, hbn⟩ : ∃ b w cs, ad = some (⟨b, 0, none⟩ : Addr) ∧ h.f b = .row w 3 (l.map (Value.int .i64) ++ cs) ∧ b < h.n := by
        rcases hz with rfl | z
        · simp at h1
        · exact z
      have hb2 : H.f b = .row w 3 (l.map (Value.int .i64) ++ cs) := by rw [hE.f b hbn, hb]
      have hx : l[i]? = some l[i] := List.getElem?_eq_getElem h1
      obtain ⟨rest, hd⟩ : ∃ rest, (l.map (Value.int .i64) ++ cs).drop i = .int .i64 l[i] :: rest := by
        refine ⟨(l.drop (i + 1)).map (Value.int .i64) ++ cs, ?_⟩
        rw [List.drop_append_of_le_length (by simp; omega), ← List.map_drop, List.drop_eq_getElem_cons h1]; rfl
      obtain ⟨cells, hcells⟩ : ∃ cells, cells = l.map (Value.int .i64) ++ cs := ⟨_, rfl⟩
      have hcl : i + 1 ≤ cells.length := by rw [hcells]; simp; omega
      rw [← hcells] at hb2 hd
      obtain ⟨R, hR⟩ : ∃ R, R = pieces.map fun p => Value.string (B p) := ⟨_, rfl⟩
      have hRl : R.length = 30 := by rw [hR]; rfl
      obtain ⟨r, hr⟩ : ∃ r, r = pieceN l[i] := ⟨_, rfl⟩
      have hr30 : r < 30 := by rw [hr]; unfold pieceN; omega
      obtain ⟨rest2, hd2⟩ : ∃ rest2, R.drop r = .string (B (piece l[i])) :: rest2 := by
        refine ⟨R.drop (r + 1), ?_⟩
        rw [List.drop_eq_getElem_cons (by omega)]
        congr 1
        subst hR
        rw [List.getElem_map, piece, ← hr, List.getD_eq_getElem?_getD, List.getElem?_eq_getElem (by simpa using hRl ▸ hr30)]
        rfl
      rw [← hR] at hrow
      obtain ⟨q, hq⟩ : ∃ q : Int, q = l[i] % 18446744073709551616 := ⟨_, rfl⟩
      have e1 : IntKind.wrap .u64 l[i] = q := by rw [u64wrap_mod, hq]
      have e2 : q.tmod 30 = (r : Int) := by
        rw [Int.tmod_eq_emod_of_nonneg (by omega), hr, pieceN, ← hq]; omega
      have e3 : IntKind.wrap .u64 30 = 30 := by rw [u64wrap (by omega)]
      have e4 : IntKind.wrap .i64 ((i : Int) + 1) = ((i + 1 : Nat) : Int) := by rw [i64wrap (by omega)]; omega
      have hlen : (textL (l.take i)).length ≤ 20 * i := by have := textL_len (l.take i); rw [List.length_take] at this; omega
      have hpl := piece_len l[i]
      have hfit : (textL (l.take i)).length + (piece l[i]).length ≤ 9223372036854775807 := by omega
      have hsn : textL (l.take (i + 1)) = textL (l.take i) ++ piece l[i] := by rw [List.take_add_one, hx, textL, textL, List.flatMap_append]; simp
      have hl2 : r + 1 ≤ 30 := by omega
      have hr31 : (r : Int) < 30 := by omega
      simp [h1, h2, g0, g1, g5, g6, g7, hb2, hd, hcl, hx, e1, e2, e3, hrow, hRl, hd2, hr30, hr31, hl2, hfit, e4]
      exact ⟨l.length - (i + 1), by omega, i + 1, rfl, by omega, by omega, by simp [g0], by simp [g1], by simp [g5], by rw [hsn]; simp, by simp, hE, hR ▸ hrow, hn⟩
    · have : i = most := by omega
      subst this
      simp [h1, g0, g1, g5, g6, g7]
      exact hE
  · have : l.take most = l.take i := by rw [List.take_of_length_le (by omega), List.take_of_length_le (by omega)]
    simp [h1, g0, g1, g5, g6, g7, this]
    exact hE
end Go.Proofs.Yph.T
/- Drawn regions whose first order is the text's. -/
namespace Go.Am
open Go
def idB (P : Program) : List Nat → Nat → List Oper → Bool
  | [], _, [] => true
  | i :: r, k, o :: l => decide (i = k) && (clsN P o.op && idB P r (k + 1) l)
  | _, _, _ => false
theorem lget_pre (pre : List Oper) (o : Oper) (l : List Oper) : lget default (pre ++ o :: l) pre.length = o := by
  induction pre with
  | nil => rfl
  | cons a r ih => exact ih
theorem idB_ok {P : Program} : ∀ (perm : List Nat) (k : Nat) (l pre : List Oper), pre.length = k → idB P perm k l = true → perm.map (lget default (pre ++ l)) = l ∧ perm.all (fun i => clsN P (lget default (pre ++ l) i).op) = true := by
  intro perm
  induction perm with
  | nil => intro k l pre hk h; cases l with
    | nil => exact ⟨rfl, rfl⟩
    | cons o l => simp [idB] at h
  | cons i r ih => intro k l pre hk h; cases l with
    | nil => simp [idB] at h
    | cons o l =>
      simp only [idB, Bool.and_eq_true, decide_eq_true_eq] at h
      obtain ⟨rfl, h2, h3⟩ := h
      have := ih (i + 1) l (pre ++ [o]) (by simp [hk]) h3
      rw [List.append_assoc] at this
      have e : lget default (pre ++ o :: l) i = o := by rw [← hk]; exact lget_pre pre o l
      refine ⟨?_, ?_⟩
      · rw [List.map_cons, e]; congr 1; exact this.1
      · rw [List.all_cons, e, h2]; exact this.2
theorem vc_id {P : Program} {cfg : Cfg} {Q : Ex → St → Prop} {σ : St} (id : Nat) (l : List Oper) (h : idB P (cfg.draw id).perm 0 l = true) (ha : (cfg.draw id).alts = []) : vc P cfg (.region id l.toArray true) Q σ = vcOps P cfg.loc l.toArray (regQ Q cfg id) l (enterD (pendL P l.toArray (cfg.draw id)) σ) := by
  obtain ⟨h1, h2⟩ := idB_ok (cfg.draw id).perm 0 l [] rfl h
  simp only [List.nil_append] at h1 h2
  rw [vc_draw', ha]
  simp only [ordQ_eq]
  rw [if_pos h2, h1]
end Go.Am
namespace Go.Proofs.Yph.T
open Go Go.Am
set_option maxRecDepth 20000
set_option linter.unusedSimpArgs false
set_option maxHeartbeats 2000000
attribute [local simp] idB
attribute [local simp ↓ high] vc_id
theorem nextV_code (l : List UInt8) (a : Nat) (ln col : Int) : (nextV l a ln col).code = 0 ∨ (nextV l a ln col).code = 2 ∨ (nextV l a ln col).code = 4 := by
  unfold nextV nextV'
  generalize a + skipL false (l.drop a) = k
  cases l[k]? with
  | none => simp
  | some c =>
    dsimp only
    (repeat' split) <;> simp
theorem rnext_bad (l : List UInt8) (a : Int) (ln col : Int) (ha : a < 0 ∨ (l.length : Int) < a) (h : Heap) :
    ACalls PP 60 [.string (B l), .int .i64 a, spotV ln col] h (fun v h' => Ext h h' ∧ v = .tuple #[tokV zTok, .int .i64 a, spotV ln col, .int .i64 1]) := by
  refine acalls_of_vc mix fn60 bodyEq60 rfl (by show 3 ≤ 165; decide) ok60 ?_
  simp only [body60, Tryz.f60]
  by_cases c1 : a < 0
  · simp [spotV, c1, tokV, tokC, zTok]
    exact Ext.rfl' _
  · have c2 : (l.length : Int) < a := by omega
    simp [spotV, c1, c2, tokV, tokC, zTok]
    exact Ext.rfl' _
def J12 (l : List UInt8) (z3 : List Value) (h : Heap) (n : Nat) (σ : St) : Prop := ∃ (a : Nat) (ln col : Int) (ts : List Tok) (s : Value), n = l.length - a ∧ a ≤ l.length ∧ (1 ≤ ln ∧ ln ≤ 1 + a) ∧ (1 ≤ col ∧ col ≤ 1 + a) ∧ ts.length ≤ a ∧
  σ.t.get 0 = some (.string (B l)) ∧ σ.t.get 5 = some s ∧ σ.t.get 7 = some (.int .i64 a) ∧ σ.t.get 6 = some (.pointer (some ⟨6, 0, some 0⟩)) ∧ σ.t.get 3 = some (.pointer (some ⟨3, 0, some 0⟩)) ∧
  σ.m.x.look 6 = some (27, [.int .i64 ln, .int .i64 col]) ∧ σ.m.x.look 3 = some (27, z3) ∧ Ext h σ.m.h ∧ OwnS h σ.m.h s ts ∧
  allV l = ⟨ts ++ (allL l (l.length - a + 1) a ln col).ts, (allL l (l.length - a + 1) a ln col).ln, (allL l (l.length - a + 1) a ln col).col, (allL l (l.length - a + 1) a ln col).code⟩
theorem rall_ok (l : List UInt8) (hl : l.length ≤ 1048576) (h : Heap) : ACalls PP 29 [.string (B l)] h (fun v h' => Ext h h' ∧ ∃ s, OwnS h h' s (allV l).ts ∧ v = .tuple #[s, spotV (allV l).ln (allV l).col, .int .i64 (allV l).code]) := by
  refine acalls_of_vc mix fn29 bodyEq29 rfl (by show 1 ≤ 41; decide) ok29 ?_
  simp only [body29, Tryz.f29]
  have c1 : ¬ (1048576 : Int) < (l.length : Int) := by omega
  simp [c1]
  refine vc_loop (J12 l _ h) _ ⟨0, 1, 1, [], .slice none 0 0, rfl, by omega, by omega, by omega, by simp, by simp, by simp, by simp, by simp, by simp, by simp, by simp; rfl, Ext.rfl' _, ⟨none, rfl, .inl ⟨rfl, rfl⟩⟩, rfl⟩ ?_
  rintro n ⟨T, ⟨x, H⟩⟩ ⟨a, ln, col, ts, s, rfl, ha, hln, hcol, hts, h0, h5, h7, h6, h3, hx6, hx3, hE, hO, hr⟩
  simp at h0 h5 h6 h7 h3 hx6 hx3 hE hO
  simp [h0, h5, h6, h7, h3, hx6, hx3]
  refine (rnext_ok l a ln col (by omega) ha (by omega) (by omega) H).mono ?_
  rintro v H2 ⟨hE2, rfl⟩
  have hgo := nextV_go (l := l) ha hln hcol
  have hcd := nextV_code l a ln col
  rw [show l.length - a + 1 = (l.length - a) + 1 by rfl, allL] at hr
  obtain ⟨X, hX⟩ : ∃ X, X = nextV l a ln col := ⟨_, rfl⟩
  rw [← hX] at hgo hr hcd ⊢
  simp [callQ, nxV, tokV, tokC, spotV]
  intro _
  obtain ⟨ad, rfl, hO2⟩ := hO.ext hE2
  have hE3 : Ext h H2 := hE.trans hE2
  simp [h0, h5, h6, h7, h3, hx6, hx3]
  by_cases hc0 : X.code = 0
  · rw [if_pos hc0] at hr
    obtain ⟨g1, g2, g3, g4⟩ := hgo hc0
    have hr5 : List.range 5 = [0, 1, 2, 3, 4] := rfl
    dsimp only at hr
    rw [allL_fuel l (l.length - a) (l.length - X.to + 1) X.to X.ln X.col (by omega) (by omega) g2 g3 g4] at hr
    rcases hO2 with ⟨rfl, rfl⟩ | ⟨b, rfl, hb1, hb2, hb3⟩
    · simp [hc0, opAppend, srcCells, opBuildSlice, maxA, hr5, h0, h5, h6, h7, h3, hx6, hx3]
      refine ⟨l.length - X.to, by omega, X.to, X.ln, X.col, [X.tok], _, rfl, g2, g3, g4, by simp; omega, by simp, by simp; rfl, by simp, by simp, by simp, by simp, by simp, (hE3.newOf _).newOf _, ⟨_, rfl, .inr ⟨_, rfl, ?_, ?_, ?_⟩⟩, ?_⟩
      · simp [tokC]
      · have := hE3.n; omega
      · simp
      · rw [hr]; simp
    · have hb : ¬ b = H2.n := by omega
      have hmx : (ts.length + 1) * 48 ≤ 140737488355328 := by omega
      obtain ⟨cs, hcs⟩ : ∃ cs, cs = ts.flatMap tokC := ⟨_, rfl⟩
      have hcl : cs.length = ts.length * 5 := by rw [hcs, tokC_len]
      rw [← hcs] at hb1
      simp [hc0, opAppend, srcCells, opBuildSlice, maxA, hb, hb1, hcl, hmx, hr5, h0, h5, h6, h7, h3, hx6, hx3]
      refine ⟨l.length - X.to, by omega, X.to, X.ln, X.col, ts ++ [X.tok], _, rfl, g2, g3, g4, by simp; omega, by simp, by simp; rfl, by simp, by simp, by simp, by simp, by simp, ((hE3.newOf _).setOf hb2 _).newOf _, ⟨_, by simp; rfl, .inr ⟨_, rfl, ?_, ?_, ?_⟩⟩, ?_⟩
      · have := List.take_of_length_le (l := cs) (i := ts.length * 5) (by omega)
        simp [tokC, this]; rw [← hcs] at *
      · have := hE3.n; omega
      · simp
      · rw [hr]; simp
  · rw [if_neg hc0] at hr
    by_cases hc4 : X.code = 4
    · simp [hc4, h0, h5, h6, h7, h3, hx6, hx3]
      rw [if_pos hc4] at hr
      rw [hr]
      exact ⟨hE3, _, ⟨ad, by simp, by simpa using hO2⟩, rfl, ⟨rfl, rfl⟩, rfl⟩
    · simp [hc4, hc0, h0, h5, h6, h7, h3, hx6, hx3]
      rw [if_neg hc4] at hr
      rw [hr]
      exact ⟨hE3, _, ⟨ad, by simp, by simpa using hO2⟩, rfl, ⟨rfl, rfl⟩, rfl⟩
/-! lines at any place -/
theorem TokS.nil (h : Heap) : TokS h (.slice none 0 0) [] := ⟨none, 0, rfl, .inl ⟨rfl, rfl, rfl⟩⟩
def lineL (ts : List Tok) (a : Int) : List Tok := if 0 ≤ a ∧ a < ts.length then (ts.take (a.toNat + lineN (ts.drop a.toNat))).drop a.toNat else []
def lineTo (ts : List Tok) (a : Int) : Int := if 0 ≤ a ∧ a < ts.length then ((if a.toNat + lineN (ts.drop a.toNat) < ts.length then a.toNat + lineN (ts.drop a.toNat) + 1 else ts.length : Nat) : Int) else a
def LineA (h : Heap) (ts : List Tok) (a : Int) (v : Value) : Prop := ∃ s', TokS h s' (lineL ts a) ∧ v = .tuple #[s', .int .i64 (lineTo ts a)]
def J14e (v : Value) (m : Nat) (h : Heap) (n : Nat) (σ : St) : Prop := n = 0 ∧ σ.m.h = h ∧ σ.t.get 0 = some v ∧ σ.t.get 1 = some (.int .i64 m) ∧ σ.t.get 6 = some (.int .i64 m)
theorem line_any (s : Value) (ts : List Tok) (a : Int) (hl : ts.length ≤ 1073741824) (h : Heap) (hs : TokS h s ts) :
    ACalls PP 45 [s, .int .i64 a] h (fun v h' => h' = h ∧ LineA h ts a v) := by
  by_cases hin : 0 ≤ a ∧ a < ts.length
  · obtain ⟨n, rfl⟩ : ∃ n : Nat, a = n := ⟨a.toNat, by omega⟩
    refine (line_ok s ts n (by omega) hl h hs).mono ?_
    rintro v h' ⟨rfl, s', h1, rfl⟩
    refine ⟨rfl, s', ?_, ?_⟩
    · rw [lineL, if_pos hin]; simpa using h1
    · rw [lineTo, if_pos hin]; simp
  · refine acalls_of_vc mix fn45 bodyEq45 rfl (by show 2 ≤ 40; decide) ok45 ?_
    simp only [body45, Tryz.f45]
    have e1 : lineL ts a = [] := by rw [lineL, if_neg hin]
    have e2 : lineTo ts a = a := by rw [lineTo, if_neg hin]
    obtain ⟨ad, c, rfl, hz⟩ := hs
    by_cases c1 : a < 0
    · simp [c1]
      exact ⟨_, by rw [e1]; exact TokS.nil h, by rw [e2]⟩
    · by_cases c2 : (ts.length : Int) < a
      · simp [c1, c2]
        exact ⟨_, by rw [e1]; exact TokS.nil h, by rw [e2]⟩
      · have ha : a = (ts.length : Int) := by omega
        subst ha
        have c3 : ¬ (ts.length : Int) < 0 := by omega
        simp [c3]
        refine vc_loop (J14e (.slice ad ts.length c) ts.length h) _ ⟨rfl, rfl, by simp, by simp, by simp⟩ ?_
        rintro n ⟨T, ⟨x, H⟩⟩ ⟨rfl, hH, g0, g1, g6⟩
        simp at hH g0 g1 g6
        subst hH
        simp [g0, g1, g6]
        rcases hz with ⟨rfl, rfl, rfl⟩ | ⟨b, off, w, cells, rest, rfl, z2, z3, z4, z5⟩
        · simp
          exact ⟨_, TokS.nil H, by simp [lineTo]⟩
        · simp [z2]
          refine ⟨_, ?_, by rw [e2]⟩
          rw [e1]
          refine ⟨some ⟨b, off + ts.length * 5, none⟩, _, rfl, .inr ⟨b, off + ts.length * 5, w, cells, cells.drop (off + ts.length * 5), rfl, z2, by simp, ?_, z5⟩⟩
          have := congrArg List.length z3
          rw [List.length_drop, List.length_append, tokC_len] at this; omega
def J15 (s : Value) (ts : List Tok) (a : Nat) (h : Heap) (n : Nat) (σ : St) : Prop := ∃ k : Nat, n = ts.length - k ∧ a ≤ k ∧ k ≤ ts.length ∧ σ.t.get 0 = some s ∧ σ.t.get 1 = some (.int .i64 a) ∧ σ.t.get 6 = some (.int .i64 k) ∧ σ.m.h = h ∧ k + lineN (ts.drop k) = a + lineN (ts.drop a)
theorem rline_any (s : Value) (ts : List Tok) (a : Int) (hl : ts.length ≤ 1073741824) (h : Heap) (hs : TokS h s ts) :
    ACalls PP 30 [s, .int .i64 a] h (fun v h' => h' = h ∧ LineA h ts a v) := by
  refine acalls_of_vc mix fn30 bodyEq30 rfl (by show 2 ≤ 40; decide) ok30 ?_
  simp only [body30, Tryz.f30]
  have hs0 := hs
  obtain ⟨ad, c, rfl, hz⟩ := hs
  by_cases hin : 0 ≤ a ∧ a < ts.length
  · obtain ⟨n, rfl⟩ : ∃ n : Nat, a = n := ⟨a.toNat, by omega⟩
    have hnl : n < ts.length := by omega
    have c1 : ¬ (n : Int) < 0 := by omega
    have c2 : ¬ (ts.length : Int) ≤ n := by omega
    obtain ⟨blk, off0, w0, cells0, rest0, rfl, hrow, hz3, hz4, hz5⟩ : ∃ b off w cells rest, ad = some (⟨b, off, none⟩ : Addr) ∧ h.f b = .row w 84 cells ∧ cells.drop off = ts.flatMap tokC ++ rest ∧ off ≤ cells.length ∧ b < h.n := by
      rcases hz with ⟨_, rfl, _⟩ | z
      · simp at hnl
      · exact z
    have eL : lineL ts n = (ts.take (n + lineN (ts.drop n))).drop n := by rw [lineL, if_pos hin]; simp
    have eT : lineTo ts n = ((if n + lineN (ts.drop n) < ts.length then n + lineN (ts.drop n) + 1 else ts.length : Nat) : Int) := by rw [lineTo, if_pos hin]; simp
    simp [c1, c2, hnl, show ¬ ts.length ≤ n by omega]
    refine vc_loop (J15 (.slice (some ⟨blk, off0, none⟩) ts.length c) ts n h) _ ⟨n, rfl, by omega, by omega, by simp, by simp, by simp, rfl, rfl⟩ ?_
    rintro _ ⟨T, ⟨x, H⟩⟩ ⟨k, rfl, hak, hk, g0, g1, g6, hH, hr⟩
    simp at g0 g1 g6 hH
    subst hH
    simp [g0, g1, g6]
    have fin : ∀ e, e = n + lineN (ts.drop n) → n ≤ e → e ≤ ts.length → LineA H ts n (.tuple #[.slice (some ⟨blk, off0 + n * 5, none⟩) (e - n) (e - n), .int .i64 ((if e < ts.length then e + 1 else ts.length : Nat) : Int)]) := by
      intro e he h1 h2
      refine ⟨_, ?_, by rw [eT, ← he]⟩
      rw [eL, ← he]
      exact hs0.sub h1 h2
    by_cases hkl : k < ts.length
    · have ht : ts[k]? = some ts[k] := List.getElem?_eq_getElem hkl
      obtain ⟨_, b, off, w, cells, rest, e1, e2, e3, e4, e5⟩ := hs0.at ht
      simp only [Option.some.injEq, Addr.mk.injEq, and_true] at e1
      obtain ⟨rfl, rfl⟩ := e1
      have hle : off0 + k * 5 + 1 ≤ cells.length := by omega
      have hdk : ts.drop k = ts[k] :: ts.drop (k + 1) := List.drop_eq_getElem_cons hkl
      by_cases hq : ts[k].kind = 3
      · have hn0 : lineN (ts.drop k) = 0 := by rw [hdk, lineN, List.takeWhile_cons]; simp [hq]
        have w1 : IntKind.wrap .i64 ((k : Int) + 1) = (k : Int) + 1 := by rw [i64wrap (by omega)]
        simp [g0, g1, g6, hkl, e2, e3, hle, tokC, hq, hak, hk, w1]
        have e : (if (ts.length : Int) < (k : Int) + 1 then (ts.length : Int) else (k : Int) + 1) = ((if k < ts.length then k + 1 else ts.length : Nat) : Int) := by (repeat' split) <;> omega
        rw [e]
        exact fin k (by omega) hak hk
      · have hw : IntKind.wrap .i64 ((k : Int) + 1) = ((k + 1 : Nat) : Int) := by rw [i64wrap (by omega)]; omega
        have hn1 : lineN (ts.drop k) = lineN (ts.drop (k + 1)) + 1 := by rw [hdk, lineN, List.takeWhile_cons]; simp [hq, lineN]
        simp [g0, g1, g6, hkl, e2, e3, hle, tokC, hq, hw]
        exact ⟨ts.length - (k + 1), by omega, k + 1, rfl, by omega, by omega, by simp [g0], by simp [g1], by simp, rfl, by omega⟩
    · have hn0 : lineN (ts.drop k) = 0 := by rw [List.drop_eq_nil_of_le (by omega)]; rfl
      have w1 : IntKind.wrap .i64 ((k : Int) + 1) = (k : Int) + 1 := by rw [i64wrap (by omega)]
      simp [g0, g1, g6, hkl, hrow, hak, hk, w1]
      have e : (if (ts.length : Int) < (k : Int) + 1 then (ts.length : Int) else (k : Int) + 1) = ((if k < ts.length then k + 1 else ts.length : Nat) : Int) := by (repeat' split) <;> omega
      rw [e]
      exact fin k (by omega) hak hk
  · have e1 : lineL ts a = [] := by rw [lineL, if_neg hin]
    have e2 : lineTo ts a = a := by rw [lineTo, if_neg hin]
    by_cases c1 : a < 0
    · simp [c1]
      exact ⟨_, by rw [e1]; exact TokS.nil h, by rw [e2]⟩
    · have c2 : (ts.length : Int) ≤ a := by omega
      simp [c1, c2]
      exact ⟨_, by rw [e1]; exact TokS.nil h, by rw [e2]⟩
end Go.Proofs.Yph.T
namespace Go.Proofs.Yph.F
open Go Go.Am
set_option maxRecDepth 20000
set_option maxHeartbeats 2000000
theorem step_nn {σ : St} (d : Option Nat) (x : Operand) (ty yt : TypeId) (pos : String) (aft : Array Edge) (g : Option (Nat × Bool)) (hx : opnd σ x = some .nilIface) :
    stepPure PP σ ⟨d, .binOp .eql 35 x (.const .nilIface) yt, ty, pos, aft, g⟩ = some (.bool true, σ) := by
  refine stepPure_of (by simp [Op.operands, flatO_of hx rfl]; rfl) rfl ?_ rfl
  have e1 : eqGuard .eql 35 x (.const .nilIface) .nilIface .nilIface = pure () := by unfold eqGuard; simp
  have e2 : binOp .eql 35 .nilIface .nilIface = (do pure (.bool (← Op.equal 35 .nilIface .nilIface))) := rfl
  have e3 : (Op.equal 35 .nilIface .nilIface).pureRun PP = some true := by
    have key : ∀ n, (Op.equalIn (n + 1) 35 .nilIface .nilIface).pureRun PP = some true := fun n => by simp [Op.equalIn, pureRun_bind, pureRun_under un35, pureRun_pure]
    exact key 9999
  have e4 : evO σ (.const .nilIface) = .nilIface := rfl
  simp only [execOp, evO_of hx, e4, e1, e2, pureRun_bind, pureRun_pure, Option.bind_some, e3]
attribute [simp] step_nn
def mx0 (a : Int) : Int := if a < 0 then 0 else a
def NewP (h : Heap) (l : List FR) (v : Value) (h' : Heap) : Prop := Ext h h' ∧ ChA h' h'.n v l
theorem new_ok (code line col : Int) (h : Heap) : ACalls PP 25 [.int .i64 code, .int .i64 line, .int .i64 col] h (NewP h (if code ≤ 0 then [] else [⟨code, mx0 line, mx0 col⟩])) := by
  refine acalls_of_vc mix fn25 bodyEq25 rfl (by show 3 ≤ 18; decide) ok25 ?_
  simp only [body25, Tryz.f25]
  by_cases h1 : code ≤ 0
  · simp -implicitDefEqProofs [h1]
    exact ⟨Ext.rfl' h, .nil⟩
  · simp -implicitDefEqProofs [h1, opMakeIface]
    exact ⟨Ext.new h _, .cons h.n ⟨code, mx0 line, mx0 col⟩ .nilIface [] (by simp [mx0]) (by simp) .nil⟩
theorem ChA.shape {h : Heap} {n : Nat} {E : Value} {l : List FR} (H : ChA h n E l) : (E = .nilIface ∧ l = []) ∨ ∃ b f E' r, E = .iface 58 (.pointer (some ⟨b, 0, none⟩)) ∧ l = f :: r ∧ h.f b = .row true 89 [.int .i64 f.code, .int .i64 f.line, .int .i64 f.col, E'] ∧ b < n ∧ ChA h n E' r := by
  cases H with
  | nil => exact .inl ⟨rfl, rfl⟩
  | cons b f E l h1 h2 h3 => exact .inr ⟨b, f, E, l, rfl, rfl, h1, h2, h3⟩
theorem wrap_ok (E : Value) (l : List FR) (code : Int) (h : Heap) (H : ChA h h.n E l) : ACalls PP 44 [E, .int .i64 code] h (NewP h (if code ≤ 0 then l else ⟨code, 0, 0⟩ :: l)) := by
  refine acalls_of_vc mix fn44 bodyEq44 rfl (by show 2 ≤ 19; decide) ok44 ?_
  simp only [body44, Tryz.f44]
  rcases H.shape with ⟨rfl, rfl⟩ | ⟨b, f, E', r, rfl, rfl, h1, h2, h3⟩
  · by_cases hc : code ≤ 0
    · simp -implicitDefEqProofs [hc]
      exact ⟨Ext.rfl' h, H⟩
    · simp -implicitDefEqProofs [hc]
      refine (new_ok code 0 0 h).mono ?_
      rintro v h' ⟨E, hv⟩
      rw [if_neg hc] at hv
      rcases hv.shape with ⟨_, q⟩ | ⟨b, f, E', r, rfl, q, k1, k2, k3⟩
      · cases q
      simp -implicitDefEqProofs [callQ]
      intro _
      exact ⟨E, hv⟩
  · by_cases hc : code ≤ 0
    · simp -implicitDefEqProofs [hc]
      exact ⟨Ext.rfl' h, H⟩
    · simp -implicitDefEqProofs [hc, opMakeIface]
      exact ⟨Ext.new h _, .cons h.n ⟨code, 0, 0⟩ _ _ (by simp) (by simp) (H.ext (Ext.new h _) |>.up (by simp) (fun _ _ => rfl))⟩
def ptrC (b : Nat) : List Value := [.pointer (some ⟨b, 0, none⟩)]
/-- the blocks of a chain's errors -/
def Blks (h : Heap) (bs : List Nat) (l : List FR) : Prop := bs.length = l.length ∧ ∀ (j b : Nat) (f : FR), bs[j]? = some b → l[j]? = some f → b < h.n ∧ ∃ E, h.f b = .row true 89 [.int .i64 f.code, .int .i64 f.line, .int .i64 f.col, E]
def AllP (h : Heap) (l : List FR) (v : Value) (h' : Heap) : Prop := Ext h h' ∧ ∃ bs o, Blks h bs l ∧ OwO 58 ptrC h h' o bs v
def J18 (h : Heap) (l : List FR) (bf : Nat) (m : Nat) (σ : St) : Prop := ∃ (i : Nat) (E : Value) (bs : List Nat) (o : Option Nat) (v old : Value), m = l.length - i ∧ i ≤ l.length ∧ Ext h σ.m.h ∧ ChA h h.n E (l.drop i) ∧ Blks h bs (l.take i) ∧ OwO 58 ptrC h σ.m.h o bs v ∧ o ≠ some bf ∧ bf < σ.m.h.n ∧ σ.m.h.f bf = .row true 58 [old] ∧
  σ.t.get 0 = some E ∧ σ.t.get 3 = some v ∧ σ.t.get 4 = some (.pointer (some ⟨bf, 0, none⟩))
theorem all_ok (E : Value) (l : List FR) (hl : l.length ≤ 1000) (h : Heap) (G : GlobOK h) (H : ChA h h.n E l) : ACalls PP 35 [E] h (AllP h l) := by
  refine acalls_of_vc mix fn35 bodyEq35 rfl (by show 1 ≤ 17; decide) ok35 ?_
  simp only [body35, Tryz.f35]
  have hloc : noLoc E = true := by rcases H.shape with ⟨rfl, _⟩ | ⟨b, f, E', r, rfl, _⟩ <;> rfl
  simp -implicitDefEqProofs
  refine vc_loop (J18 h l h.n) l.length ⟨0, E, [], none, .slice none 0 0, .pointer none, rfl, by omega, Ext.new h _, H, ⟨by simp, fun j b f hj => by simp at hj⟩, OwO.nil, by simp, by simp, by simp, by simp, by simp, by simp⟩ ?_
  rintro m ⟨T, ⟨x, H1⟩⟩ ⟨i, Ei, bs, o, v, old, rfl, hi, hE, hch, hB, hO, hob, hbf, hfb, g0, g3, g4⟩
  simp at hE hO hbf hfb g0 g3 g4
  obtain ⟨rfl, ho⟩ := id hO
  have hEi : noLoc Ei = true := by rcases hch.shape with ⟨rfl, _⟩ | ⟨b, f, E', r, rfl, _⟩ <;> rfl
  have hG1 := G.ext hE
  have hr1 : List.range 1 = [0] := rfl
  rcases hch.shape with ⟨rfl, hd⟩ | ⟨b, f, E', r, rfl, hd, h1, h2, h3⟩
  · have hie : i = l.length := by have := congrArg List.length hd; rw [List.length_drop] at this; simp at this; omega
    simp -implicitDefEqProofs [g0, g3, g4]
    refine (as_nil_ok _ H1 hG1).mono ?_
    rintro r H2 ⟨e3, rfl⟩
    replace e3 := e3.symm
    subst e3
    simp -implicitDefEqProofs [callQ, g0, g3, g4]
    intro _
    rw [hie, List.take_length] at hB
    exact ⟨hE, bs, o, hB, hO⟩
  · simp -implicitDefEqProofs [g0, g3, g4]
    refine (as_hit_ok b h.n old H1 hG1 hfb).mono ?_
    rintro r H2 ⟨rfl, e3⟩
    have hbn : ¬ b = h.n := by omega
    have hb1 : H1.f b = .row true 89 [.int .i64 f.code, .int .i64 f.line, .int .i64 f.col, E'] := by rw [hE.f b h2]; exact h1
    subst e3
    have hil : i < l.length := by
      rcases Nat.lt_or_ge i l.length with z | z
      · exact z
      · rw [List.drop_eq_nil_of_le z] at hd; cases hd
    have hti : l[i]? = some f := by
      have : (l.drop i)[0]? = some f := by rw [hd]; rfl
      simpa using this
    have hdr : l.drop (i + 1) = r := by
      have : (l.drop i).drop 1 = r := by rw [hd]; rfl
      rw [List.drop_drop] at this; exact this
    have hBl : bs.length = i := by have := hB.1; rw [List.length_take] at this; omega
    have hB' : Blks h (bs ++ [b]) (l.take (i + 1)) := by
      rw [List.take_add_one, hti]
      refine ⟨by simp [hB.1], fun j b' f' hj hf => ?_⟩
      rcases Nat.lt_or_ge j i with z | z
      · rw [List.getElem?_append_left (by omega)] at hj
        rw [List.getElem?_append_left (by rw [List.length_take]; omega)] at hf
        exact hB.2 j b' f' hj hf
      · rw [List.getElem?_append_right (by omega)] at hj
        rw [List.getElem?_append_right (by rw [List.length_take]; omega)] at hf
        have e1 : j - bs.length = 0 := by
          rcases Nat.eq_zero_or_pos (j - bs.length) with q | q
          · exact q
          · rw [List.getElem?_eq_none (by simp; omega)] at hj; cases hj
        rw [e1] at hj
        have e2 : j - (l.take i).length = 0 := by rw [List.length_take]; omega
        rw [e2] at hf
        simp at hj hf
        subst hj; subst hf
        exact ⟨h2, E', h1⟩
    have hE2 : ∀ c, Ext h (H1.set h.n c) := fun c => hE.setOf (Nat.le_refl _) c
    have hnH := hE.n
    have b1 : ¬ b = H1.n := by omega
    have b2 : ¬ b = H1.n + 1 := by omega
    have f1 : ¬ h.n = H1.n := by omega
    have f2 : ¬ h.n = H1.n + 1 := by omega
    have f3 : ¬ H1.n + 1 = h.n := by omega
    have hE'loc : noLoc E' = true := by rcases h3.shape with ⟨rfl, _⟩ | ⟨b, f, E', r, rfl, _⟩ <;> rfl
    have nxt : ∀ σ2 : St, Ext h σ2.m.h → ∀ o', OwO 58 ptrC h σ2.m.h (some o') (bs ++ [b]) (.slice (some ⟨o', 0, none⟩) (i + 1) (i + 1)) → o' ≠ h.n → h.n < σ2.m.h.n → σ2.m.h.f h.n = .row true 58 [.pointer (some ⟨b, 0, none⟩)] →
        σ2.t.get 0 = some E' → σ2.t.get 3 = some (.slice (some ⟨o', 0, none⟩) (i + 1) (i + 1)) → σ2.t.get 4 = some (.pointer (some ⟨h.n, 0, none⟩)) → ∃ j, j < l.length - i ∧ J18 h l h.n j σ2 := by
      intro σ2 x1 o' x2 x3 x4 x5 x6 x7 x8
      exact ⟨l.length - (i + 1), by omega, i + 1, E', bs ++ [b], some o', _, _, rfl, by omega, x1, by rw [hdr]; exact h3, hB', x2, by simpa using x3, x4, x5, x6, x7, x8⟩
    cases o with
    | none =>
      simp only at ho
      subst ho
      have hi0 : i = 0 := by simpa using hBl.symm
      subst hi0
      simp -implicitDefEqProofs [callQ, g0, g3, g4, opBuildSlice, hr1, opAppend, srcCells, maxA, hbn, hb1, b1, b2, f1, f2, f3]
      intro _
      refine nxt _ ?_ (H1.n + 1) ⟨by simp, ?_, ?_, ?_⟩ (by omega) ?_ ?_ (by simp) (by simp) (by simp)
      · exact ((hE2 _).newOf _).newOf _
      · simp [ptrC]
      · omega
      · simp
      · simp; omega
      · simp [f1, f2]
    | some bo =>
      simp only at ho
      obtain ⟨ho1, ho2, ho3⟩ := ho
      have hbo : ¬ bo = h.n := fun q => hob (by rw [q])
      have o1 : ¬ bo = H1.n := by omega
      have o2 : ¬ h.n = bo := fun q => hbo q.symm
      have o3 : ¬ b = bo := by omega
      obtain ⟨F, hF⟩ : ∃ F, F = bs.flatMap ptrC := ⟨_, rfl⟩
      have hFl : F.length = i := by have := flatA_len 1 (enc := ptrC) (fun _ => rfl) bs; rw [← hF] at this; omega
      rw [← hF] at ho1
      have e8 : F.take i = F := List.take_of_length_le (by omega)
      have hmx : (i + 1) * 8 ≤ 140737488355328 := by omega
      rw [hBl] at g3
      simp -implicitDefEqProofs [callQ, g0, g3, g4, opBuildSlice, hr1, opAppend, srcCells, maxA, hbn, hb1, b1, b2, f1, f2, f3, hbo, o1, o2, o3, ho1, hFl, e8, hmx]
      intro _
      refine nxt _ ?_ (H1.n + 1) ⟨by simp [hBl], ?_, ?_, ?_⟩ (by omega) ?_ ?_ (by simp) (by simp) (by simp)
      · exact ((((hE2 _).newOf _).setOf ho2 _).newOf _)
      · simp [ptrC, hF]
      · omega
      · simp
      · simp; omega
      · simp [f1, f2, o2]
end Go.Proofs.Yph.F
