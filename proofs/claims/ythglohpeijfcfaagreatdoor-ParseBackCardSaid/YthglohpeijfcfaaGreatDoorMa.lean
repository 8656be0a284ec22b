import Derived.Calls
import Derived.Below
import Derived.WalkKit
import Derived.Laws.Cells
import Derived.Laws.CopyRow
import Derived.Laws.Append
import Derived.Laws.AppendOwn
import Derived.Laws.RangeString
import Derived.IntWalk
set_option linter.unusedVariables false
set_option linter.unusedSimpArgs false
set_option linter.unusedSectionVars false
set_option linter.constructorNameAsVariable false
/- The abstract machine, part A: abstract frames, memory, and what they stand for in the model's world. -/
namespace Go.Am
open Go

/-! ### frames -/
def Fr := Nat → Option Value
def Fr.get (T : Fr) (i : Nat) : Option Value := T i
def Fr.put (T : Fr) (i : Nat) (v : Value) : Fr := fun j => if i = j then some v else T j
def lookL {α : Type} : List (Nat × Option α) → Nat → Option α
  | [], _ => none
  | (j, v) :: r, i => if j = i then v else lookL r i
def Fr.ofList (l : List (Nat × Option Value)) : Fr := lookL l
def Fr.prune (T : Fr) (l : List Nat) : Fr := Fr.ofList (l.map fun i => (i, T.get i))
def locOf : Value → Option Nat
  | .pointer (some ⟨s, _, some _⟩) => some s
  | _ => none
/-- without the local pointers to slot s -/
def scrub1 (s : Nat) : Option Value → Option Value
  | some v => match locOf v with
    | some s' => if s' = s then none else some v
    | none => some v
  | none => none
def Fr.scrub (s : Nat) (T : Fr) : Fr := fun i => scrub1 s (T i)
theorem Fr.get_scrub (s : Nat) (T : Fr) (i : Nat) : (T.scrub s).get i = scrub1 s (T.get i) := rfl
theorem lookL_map {α : Type} (T : Nat → Option α) (i : Nat) (v : α) : ∀ l : List Nat, lookL (l.map fun i => (i, T i)) i = some v → T i = some v := by
  intro l
  induction l with
  | nil => simp [lookL]
  | cons j r ih =>
    simp only [List.map_cons, lookL]
    split
    · rename_i h; subst h; exact id
    · exact ih
theorem Fr.get_prune (T : Fr) (i : Nat) (v : Value) (l : List Nat) (h : (T.prune l).get i = some v) : T.get i = some v := lookL_map T.get i v l h

/-! ### memory -/
inductive Blk
  | dead
  | row (w : Bool) (e : TypeId) (cs : List Value)
  | obj (o : Obj)
structure Heap where
  n : Nat
  g : Nat
  f : Nat → Blk
def Heap.set (h : Heap) (b : Nat) (x : Blk) : Heap := { h with f := fun i => if i = b then x else h.f i }
def Heap.new (h : Heap) (x : Blk) : Heap := { n := h.n + 1, g := h.g, f := fun i => if i = h.n then x else h.f i }
def Boxes := Nat → Option (TypeId × List Value)
def Boxes.look (x : Boxes) (i : Nat) : Option (TypeId × List Value) := x i
def Boxes.nil : Boxes := fun _ => none
def Boxes.set (x : Boxes) (i : Nat) (v : TypeId × List Value) : Boxes := fun j => if i = j then some v else x j
def Boxes.ofList (l : List (Nat × Option (TypeId × List Value))) : Boxes := lookL l
def Boxes.prune (x : Boxes) (l : List Nat) : Boxes := Boxes.ofList (l.map fun i => (i, x.look i))
theorem Boxes.look_set (l : Boxes) (i j : Nat) (v : TypeId × List Value) : (l.set i v).look j = if i = j then some v else l.look j := rfl
structure Mem where
  x : Boxes
  h : Heap
abbrev Key := Bool × Nat
def Mem.row? (m : Mem) : Key → Option (Bool × TypeId × List Value)
  | (true, s) => match m.x.look s with
    | some (e, cs) => some (true, e, cs)
    | none => none
  | (false, b) => match m.h.f b with
    | .row w e cs => some (w, e, cs)
    | _ => none
def Mem.live (m : Mem) : Key → Prop
  | (true, s) => (m.x.look s).isSome = true
  | (false, b) => m.h.f b ≠ .dead
def Heap.wr (h : Heap) (b : Nat) : Prop := match h.f b with
  | .row w _ _ => w = true
  | .obj _ => True
  | .dead => False
def Mem.wr (m : Mem) : Key → Prop
  | (true, s) => (m.x.look s).isSome = true
  | (false, b) => m.h.wr b
theorem Mem.live_of_wr {m : Mem} {k : Key} (h : m.wr k) : m.live k := by
  obtain ⟨t, b⟩ := k
  cases t
  · simp only [Mem.wr, Heap.wr] at h; simp only [Mem.live]; intro e; rw [e] at h; exact h
  · exact h
theorem Mem.live_of_row {m : Mem} {k : Key} {r} (h : m.row? k = some r) : m.live k := by
  obtain ⟨t, b⟩ := k
  cases t
  · simp only [Mem.row?] at h; simp only [Mem.live]; intro e; rw [e] at h; simp at h
  · simp only [Mem.row?] at h; simp only [Mem.live]; cases hl : m.x.look b <;> simp_all
theorem Mem.wr_of_row {m : Mem} {k : Key} {e cs} (h : m.row? k = some (true, e, cs)) : m.wr k := by
  obtain ⟨t, b⟩ := k
  cases t
  · simp only [Mem.row?] at h; simp only [Mem.wr, Heap.wr]; split at h <;> simp_all
  · simp only [Mem.row?] at h; simp only [Mem.wr]; cases hl : m.x.look b <;> simp_all

/-! ### places -/
structure Pl where
  B : Nat
  o : Nat
  n : Nat
  sz : Nat
abbrev Rho := Key → Option Pl

inductive VR (ρ : Rho) : Value → Value → Prop
  | bool (b : Bool) : VR ρ (.bool b) (.bool b)
  | int (k : IntKind) (n : Int) : VR ρ (.int k n) (.int k n)
  | string (s : ByteArray) : VR ρ (.string s) (.string s)
  | nilp : VR ρ (.pointer none) (.pointer none)
  | nilm : VR ρ (.map none) (.map none)
  | nilf : VR ρ .nilFunc .nilFunc
  | nili : VR ρ .nilIface .nilIface
  | ptr (b off : Nat) (pl : Pl) (h : ρ (false, b) = some pl) : VR ρ (.pointer (some ⟨b, off, none⟩)) (.pointer (some ⟨pl.B, pl.o + off, none⟩))
  | mp (b : Nat) (pl : Pl) (h : ρ (false, b) = some pl) : VR ρ (.map (some b)) (.map (some pl.B))
  | sln : VR ρ (.slice none 0 0) (.slice none 0 0)
  | sl0 (a a' : Addr) (c : Nat) : VR ρ (.slice (some a) 0 c) (.slice (some a') 0 0)
  | sl (b off len c : Nat) (pl : Pl) (cap : Nat) (h : ρ (false, b) = some pl) (hc : len ≤ cap) (hn : off + cap * pl.sz ≤ pl.n) :
      VR ρ (.slice (some ⟨b, off, none⟩) len c) (.slice (some ⟨pl.B, pl.o + off, none⟩) len cap)
  | iface (t : TypeId) (v v' : Value) (h : VR ρ v v') : VR ρ (.iface t v) (.iface t v')
  | agg (cs ds : List Value) (hl : cs.length = ds.length) (h : ∀ p ∈ cs.zip ds, VR ρ p.1 p.2) : VR ρ (.agg ⟨cs⟩) (.agg ⟨ds⟩)
  | tuple (cs ds : List Value) (hl : cs.length = ds.length) (h : ∀ p ∈ cs.zip ds, VR ρ p.1 p.2) : VR ρ (.tuple ⟨cs⟩) (.tuple ⟨ds⟩)
  | func (fn : Fn) (as as' cs ds : List Value) (ha : as.length = as'.length) (hl : cs.length = ds.length) (h1 : ∀ p ∈ as.zip as', VR ρ p.1 p.2)
      (h : ∀ p ∈ cs.zip ds, VR ρ p.1 p.2) : VR ρ (.func fn ⟨as⟩ ⟨cs⟩) (.func fn ⟨as'⟩ ⟨ds⟩)

/-- frames' values: a pointer to a box of this frame, or a value -/
inductive VT (ρ : Rho) : Value → Value → Prop
  | val (v v' : Value) (h : VR ρ v v') : VT ρ v v'
  | loc (s off x : Nat) (pl : Pl) (h : ρ (true, s) = some pl) : VT ρ (.pointer (some ⟨s, off, some x⟩)) (.pointer (some ⟨pl.B, pl.o + off, none⟩))

def VRs (ρ : Rho) (cs ds : List Value) : Prop := cs.length = ds.length ∧ ∀ (i : Nat) (v : Value), cs[i]? = some v → ∃ v', ds[i]? = some v' ∧ VR ρ v v'
theorem vrs_zip {ρ : Rho} {cs ds : List Value} (hl : cs.length = ds.length) : (∀ p ∈ cs.zip ds, VR ρ p.1 p.2) ↔ ∀ (i : Nat) (v : Value), cs[i]? = some v → ∃ v', ds[i]? = some v' ∧ VR ρ v v' := by
  constructor
  · intro h i v hi
    have h1 : i < cs.length := by rcases Nat.lt_or_ge i cs.length with q | q; exact q; simp [List.getElem?_eq_none q] at hi
    have h2 : i < ds.length := hl ▸ h1
    have e1 : cs[i] = v := by simpa [List.getElem?_eq_getElem h1] using hi
    refine ⟨ds[i], List.getElem?_eq_getElem h2, ?_⟩
    have := h (cs[i], ds[i]) (by rw [List.mem_iff_getElem]; exact ⟨i, by simp; omega, by simp⟩)
    simpa [e1] using this
  · rintro h ⟨a, b⟩ hp
    rw [List.mem_iff_getElem] at hp
    obtain ⟨i, hi, he⟩ := hp
    simp at hi he
    have q1 : i < cs.length := by omega
    have q2 : i < ds.length := by omega
    obtain ⟨v', h1, h2⟩ := h i a (by rw [List.getElem?_eq_getElem q1, he.1])
    rw [List.getElem?_eq_getElem q2] at h1
    simp only [Option.some.injEq] at h1
    rw [← he.2, h1]; exact h2
theorem VR.mono {ρ ρ' : Rho} (hρ : ∀ b pl, ρ (false, b) = some pl → ρ' (false, b) = some pl) {v v' : Value} (h : VR ρ v v') : VR ρ' v v' := by
  induction h with
  | ptr b off pl h => exact .ptr b off pl (hρ _ _ h)
  | mp b pl h => exact .mp b pl (hρ _ _ h)
  | sl b off len c pl cap h hc hn => exact .sl b off len c pl cap (hρ _ _ h) hc hn
  | sl0 a a' c => exact .sl0 a a' c
  | iface t v v' _ ih => exact .iface t v v' ih
  | agg cs ds hl _ ih => exact .agg cs ds hl ih
  | tuple cs ds hl _ ih => exact .tuple cs ds hl ih
  | func fn as as' cs ds ha hl _ _ ih1 ih => exact .func fn as as' cs ds ha hl ih1 ih
  | bool b => exact .bool b
  | int k n => exact .int k n
  | string s => exact .string s
  | nilp => exact .nilp
  | nilm => exact .nilm
  | nilf => exact .nilf
  | nili => exact .nili
  | sln => exact .sln

/-- values without addresses -/
def flat1 : Value → Bool
  | .bool _ | .int _ _ | .string _ | .pointer none | .map none | .nilFunc | .nilIface => true
  | .slice none 0 0 => true
  | _ => false
def flat2 : Value → Bool
  | .agg cs => cs.toList.all flat1
  | .tuple cs => cs.toList.all flat1
  | v => flat1 v
theorem VR.flat1 {ρ : Rho} {v v' : Value} (h : VR ρ v v') (hf : flat1 v = true) : v' = v := by
  cases h <;> simp_all [Am.flat1]
theorem VR.of_flat1 {ρ : Rho} {v : Value} (hf : Am.flat1 v = true) : VR ρ v v := by
  unfold Am.flat1 at hf
  split at hf
  · exact .bool _
  · exact .int _ _
  · exact .string _
  · exact .nilp
  · exact .nilm
  · exact .nilf
  · exact .nili
  · exact .sln
  · simp at hf
theorem zip_flat {ρ : Rho} {cs ds : List Value} (hl : cs.length = ds.length) (h : ∀ p ∈ cs.zip ds, VR ρ p.1 p.2) (hf : cs.all Am.flat1 = true) : ds = cs := by
  apply List.ext_getElem hl.symm
  intro i h1 h2
  have := h (cs[i], ds[i]) (by rw [List.mem_iff_getElem]; exact ⟨i, by simp; omega, by simp⟩)
  exact this.flat1 (List.all_eq_true.mp hf _ (List.getElem_mem h2))
theorem VR.flat2 {ρ : Rho} {v v' : Value} (h : VR ρ v v') (hf : Am.flat2 v = true) : v' = v := by
  cases h with
  | agg cs ds hl h => rw [zip_flat hl h (by simpa [Am.flat2] using hf)]
  | tuple cs ds hl h => rw [zip_flat hl h (by simpa [Am.flat2] using hf)]
  | _ => first | rfl | (simp [Am.flat2, Am.flat1] at hf)
theorem zip_self {ρ : Rho} {cs : List Value} (h : ∀ v ∈ cs, VR ρ v v) : ∀ p ∈ cs.zip cs, VR ρ p.1 p.2 := by
  rintro ⟨a, b⟩ hp
  rw [List.mem_iff_getElem] at hp
  obtain ⟨i, hi, he⟩ := hp
  simp at hi he
  rw [← he.1, ← he.2]
  exact h _ (List.getElem_mem hi)
theorem VR.of_flat2 {ρ : Rho} {v : Value} (hf : Am.flat2 v = true) : VR ρ v v := by
  unfold Am.flat2 at hf
  split at hf
  · rename_i cs
    obtain ⟨l⟩ := cs
    exact .agg l l rfl (zip_self fun v hv => .of_flat1 (List.all_eq_true.mp hf v hv))
  · rename_i cs
    obtain ⟨l⟩ := cs
    exact .tuple l l rfl (zip_self fun v hv => .of_flat1 (List.all_eq_true.mp hf v hv))
  · exact .of_flat1 hf
theorem VT.of_flat2 {ρ : Rho} {v : Value} (hf : Am.flat2 v = true) : VT ρ v v := .val _ _ (.of_flat2 hf)
theorem VT.flat2 {ρ : Rho} {v v' : Value} (h : VT ρ v v') (hf : Am.flat2 v = true) : v' = v := by
  cases h with
  | val _ _ h => exact h.flat2 hf
  | loc s off x pl h => simp [Am.flat2, Am.flat1] at hf
/-- a value that is no pointer to a box -/
def noLoc (v : Value) : Bool := (locOf v).isNone
theorem VT.noLoc {ρ : Rho} {v v' : Value} (h : VT ρ v v') (hf : Am.noLoc v = true) : VR ρ v v' := by
  cases h with
  | val _ _ h => exact h
  | loc s off x pl h => simp [Am.noLoc, locOf] at hf

/-! ### what the abstract memory stands for -/
structure MRel (P : Program) (ρ : Rho) (m : Mem) (w : World) : Prop where
  bound : ∀ k pl, ρ k = some pl → pl.B < w.heap.size
  dom : ∀ b pl, ρ (false, b) = some pl → b < m.h.n
  row : ∀ k pl wr e cs, ρ k = some pl → m.row? k = some (wr, e, cs) → ∃ C e' fz, w.heap[pl.B]? = some (.cells C e' fz) ∧ (wr = true → fz = (0, 0)) ∧
    cs.length ≤ pl.n ∧ pl.o + pl.n ≤ C.size ∧ pl.sz = P.cellsOf e ∧ ∀ (i : Nat) (v : Value), cs[i]? = some v → ∃ v', C[pl.o + i]? = some v' ∧ VR ρ v v'
  obj : ∀ b pl o, ρ (false, b) = some pl → m.h.f b = .obj o → w.heap[pl.B]? = some o ∧ pl.o = 0
  sep : ∀ k k' pl pl', k ≠ k' → ρ k = some pl → ρ k' = some pl' → m.wr k → m.live k' → pl.B ≠ pl'.B
  glob : ∀ i, i < m.h.g → ∃ pl, ρ (false, i) = some pl ∧ pl.B = i ∧ pl.o = 0

def Own (ρ : Rho) (h : Heap) (B : Nat) : Prop := ∃ b pl, ρ (false, b) = some pl ∧ pl.B = B ∧ h.wr b
structure Tr (ρ : Rho) (h : Heap) (w : World) (ρ' : Rho) (h' : Heap) (w' : World) : Prop where
  os : w'.os = w.os
  tape : w'.tape = w.tape
  output : w'.output = w.output
  drawn : h.g = 0 → w.drawn ≤ w'.drawn
  size : w.heap.size ≤ w'.heap.size
  ext : ∀ b pl, ρ (false, b) = some pl → ρ' (false, b) = some pl
  hn : h.n ≤ h'.n
  hg : h'.g = h.g
  new : ∀ b pl, ρ' (false, b) = some pl → ρ (false, b) = none → h.n ≤ b ∧ (h'.f b ≠ .dead → w.heap.size ≤ pl.B ∨ Own ρ h pl.B)
  dead : ∀ b, b < h.n → h'.f b ≠ .dead → h.f b ≠ .dead
  wrd : ∀ b, b < h.n → h'.wr b → h.wr b
  frame : ∀ B, B < w.heap.size → ¬ Own ρ h B → w'.heap[B]? = w.heap[B]?
/-- the state of a body that began at (ρ0, h0, w0) -/
structure Inv (P : Program) (ρ0 : Rho) (h0 : Heap) (w0 : World) (ρ : Rho) (m : Mem) (w : World) : Prop where
  rel : MRel P ρ m w
  tr : Tr ρ0 h0 w0 ρ m.h w
  box : ∀ s pl, ρ (true, s) = some pl → w0.heap.size ≤ pl.B
  dom0 : ∀ b pl, ρ0 (false, b) = some pl → b < h0.n ∧ pl.B < w0.heap.size

theorem Inv.own {P : Program} {ρ0 ρ : Rho} {h0 : Heap} {w0 w : World} {m : Mem} (I : Inv P ρ0 h0 w0 ρ m w) {B : Nat} (h : Own ρ m.h B) : w0.heap.size ≤ B ∨ Own ρ0 h0 B := by
  obtain ⟨b, pl, hb, rfl, hw⟩ := h
  cases h0b : ρ0 (false, b) with
  | none =>
    have hl : m.h.f b ≠ .dead := Mem.live_of_wr (m := m) (k := (false, b)) hw
    exact (I.tr.new b pl hb h0b).2 hl
  | some pl0 =>
    have := I.tr.ext b pl0 h0b
    rw [this] at hb
    obtain rfl := Option.some.inj hb
    exact .inr ⟨b, _, h0b, rfl, I.tr.wrd b (I.dom0 b _ h0b).1 hw⟩
end Go.Am
/- The abstract machine, part B: how the relation is carried over each change of memory. -/
namespace Go.Am
open Go

def Rho.upd (ρ : Rho) (k : Key) (pl : Pl) : Rho := fun k' => if k' = k then some pl else ρ k'
theorem Rho.upd_same (ρ : Rho) (k : Key) (pl : Pl) : ρ.upd k pl k = some pl := by simp [Rho.upd]
theorem Rho.upd_ne (ρ : Rho) {k k' : Key} (pl : Pl) (h : k' ≠ k) : ρ.upd k pl k' = ρ k' := by simp [Rho.upd, h]

theorem Tr.refl (ρ : Rho) (h : Heap) (w : World) : Tr ρ h w ρ h w :=
  ⟨rfl, rfl, rfl, fun _ => Nat.le_refl _, Nat.le_refl _, fun _ _ h => h, Nat.le_refl _, rfl, fun b pl h h' => by rw [h] at h'; simp at h', fun _ _ h => h, fun _ _ h => h, fun _ _ _ => rfl⟩

variable {cs0 : List Value} {P : Program} {ρ0 ρ : Rho} {h0 : Heap} {w0 w : World} {m : Mem}

theorem heap_alloc_lt (w : World) (o : Obj) {B : Nat} (h : B < w.heap.size) : (w.alloc o).heap[B]? = w.heap[B]? := by
  simp only [World.alloc]
  rw [Array.getElem?_push, if_neg (by omega)]
theorem heap_alloc_eq (w : World) (o : Obj) : (w.alloc o).heap[w.heap.size]? = some o := by
  simp only [World.alloc]
  rw [Array.getElem?_push, if_pos rfl]

theorem Inv.drew (I : Inv P ρ0 h0 w0 ρ m w) : Inv P ρ0 h0 w0 ρ m w.drew :=
  ⟨⟨I.rel.bound, I.rel.dom, I.rel.row, I.rel.obj, I.rel.sep, I.rel.glob⟩, ⟨I.tr.os, I.tr.tape, I.tr.output, fun hg => Nat.le_succ_of_le (I.tr.drawn hg), I.tr.size, I.tr.ext, I.tr.hn, I.tr.hg, I.tr.new, I.tr.dead, I.tr.wrd, I.tr.frame⟩, I.box, I.dom0⟩

/-- what a fresh block may hold for an abstract block -/
inductive Fits (P : Program) (ρ : Rho) : Blk → Obj → Pl → Prop
  | row (e e' : TypeId) (cs : List Value) (C : Array Value) (B : Nat) (hn : cs.length ≤ C.size)
      (h : ∀ (i : Nat) (v : Value), cs[i]? = some v → ∃ v', C[i]? = some v' ∧ VR ρ v v') : Fits P ρ (.row true e cs) (.cells C e' (0, 0)) ⟨B, 0, C.size, P.cellsOf e⟩
  | obj (o : Obj) (B sz : Nat) : Fits P ρ (.obj o) o ⟨B, 0, 0, sz⟩

theorem Fits.B {x : Blk} {o : Obj} {pl : Pl} (h : Fits P ρ x o pl) (B : Nat) : Fits P ρ x o { pl with B := B } := by
  cases h with
  | row e e' cs C B' hn h => exact .row e e' cs C B hn h
  | obj o B' sz => exact .obj o B sz

theorem Inv.newH (I : Inv P ρ0 h0 w0 ρ m w) {x : Blk} {o : Obj} {pl : Pl} (hf : Fits P ρ x o pl) (hB : pl.B = w.heap.size) :
    Inv P ρ0 h0 w0 (ρ.upd (false, m.h.n) pl) ⟨m.x, m.h.new x⟩ (w.alloc o) := by
  have hnone : ∀ pl', ρ (false, m.h.n) ≠ some pl' := fun pl' h => Nat.lt_irrefl _ (I.rel.dom _ _ h)
  have hold : ∀ {k pl'}, ρ k = some pl' → k ≠ (false, m.h.n) := fun h e => hnone _ (e ▸ h)
  have hmono : ∀ b pl', ρ (false, b) = some pl' → ρ.upd (false, m.h.n) pl (false, b) = some pl' := fun b pl' h => by rw [Rho.upd_ne _ _ (hold h)]; exact h
  have hfo : ∀ {b pl'}, ρ (false, b) = some pl' → (m.h.new x).f b = m.h.f b := fun {b pl'} h => by
    have := I.rel.dom _ _ h; simp only [Heap.new]; rw [if_neg (by omega)]
  have hfn : (m.h.new x).f m.h.n = x := by simp [Heap.new]
  have hrow : ∀ {k pl'}, ρ k = some pl' → (Mem.mk m.x (m.h.new x)).row? k = m.row? k := fun {k pl'} h => by
    obtain ⟨t, b⟩ := k
    cases t
    · simp only [Mem.row?, hfo h]
    · rfl
  have hwr : ∀ {k pl'}, ρ k = some pl' → (Mem.mk m.x (m.h.new x)).wr k = m.wr k := fun {k pl'} h => by
    obtain ⟨t, b⟩ := k
    cases t
    · simp only [Mem.wr, Heap.wr, hfo h]
    · rfl
  have hlive : ∀ {k pl'}, ρ k = some pl' → (Mem.mk m.x (m.h.new x)).live k = m.live k := fun {k pl'} h => by
    obtain ⟨t, b⟩ := k
    cases t
    · simp only [Mem.live, hfo h]
    · rfl
  have hsz : (w.alloc o).heap.size = w.heap.size + 1 := by simp
  refine ⟨⟨?_, ?_, ?_, ?_, ?_, fun i hi => let ⟨pl', q1, q2⟩ := I.rel.glob i hi; ⟨pl', hmono _ _ q1, q2⟩⟩, ⟨I.tr.os, I.tr.tape, I.tr.output, I.tr.drawn, by rw [hsz]; exact Nat.le_succ_of_le I.tr.size, ?_, by simp only [Heap.new]; exact Nat.le_succ_of_le I.tr.hn, I.tr.hg, ?_, ?_, ?_, ?_⟩, ?_, I.dom0⟩
  · intro k pl' h
    by_cases e : k = (false, m.h.n)
    · subst e; rw [Rho.upd_same] at h; obtain rfl := Option.some.inj h; rw [hsz, hB]; omega
    · rw [Rho.upd_ne _ _ e] at h; have := I.rel.bound _ _ h; omega
  · intro b pl' h
    by_cases e : (false, b) = (false, m.h.n)
    · simp only [Prod.mk.injEq, true_and] at e; subst e; simp [Heap.new]
    · rw [Rho.upd_ne _ _ e] at h; have := I.rel.dom _ _ h; simp only [Heap.new]; omega
  · intro k pl' wr e cs h hr
    by_cases ek : k = (false, m.h.n)
    · subst ek
      rw [Rho.upd_same] at h; obtain rfl := Option.some.inj h
      simp only [Mem.row?, hfn] at hr
      cases hf with
      | row e1 e' cs1 C B hn hc =>
        simp only [Option.some.injEq, Prod.mk.injEq] at hr
        obtain ⟨rfl, rfl, rfl⟩ := hr
        simp only at hB
        subst hB
        refine ⟨C, e', (0, 0), heap_alloc_eq w _, fun _ => rfl, hn, by simp, rfl, fun i v hi => ?_⟩
        obtain ⟨v', h1, h2⟩ := hc i v hi
        exact ⟨v', by simpa using h1, h2.mono hmono⟩
      | obj o B sz => simp at hr
    · rw [Rho.upd_ne _ _ ek] at h
      rw [hrow h] at hr
      obtain ⟨C, e', fz, h1, h2, h3, h4, h5, h6⟩ := I.rel.row _ _ _ _ _ h hr
      refine ⟨C, e', fz, by rw [heap_alloc_lt _ _ (I.rel.bound _ _ h)]; exact h1, h2, h3, h4, h5, fun i v hi => ?_⟩
      obtain ⟨v', q1, q2⟩ := h6 i v hi
      exact ⟨v', q1, q2.mono hmono⟩
  · intro b pl' o' h ho
    by_cases ek : b = m.h.n
    · subst ek
      rw [Rho.upd_same] at h; obtain rfl := Option.some.inj h
      rw [hfn] at ho
      cases hf with
      | row => simp at ho
      | obj o B sz =>
        simp only [Blk.obj.injEq] at ho; subst ho
        simp only at hB; subst hB
        exact ⟨heap_alloc_eq w _, rfl⟩
    · rw [Rho.upd_ne _ _ (by simpa using ek)] at h
      rw [hfo h] at ho
      rw [heap_alloc_lt _ _ (I.rel.bound _ _ h)]
      exact I.rel.obj _ _ _ h ho
  · intro k k' pl1 pl2 hne h1 h2 hw hl
    by_cases e1 : k = (false, m.h.n)
    · have e2 : k' ≠ (false, m.h.n) := fun e => hne (e1.trans e.symm)
      subst e1
      rw [Rho.upd_same] at h1; obtain rfl := Option.some.inj h1
      rw [Rho.upd_ne _ _ e2] at h2
      have := I.rel.bound _ _ h2; omega
    · rw [Rho.upd_ne _ _ e1] at h1
      by_cases e2 : k' = (false, m.h.n)
      · subst e2
        rw [Rho.upd_same] at h2; obtain rfl := Option.some.inj h2
        have := I.rel.bound _ _ h1; omega
      · rw [Rho.upd_ne _ _ e2] at h2
        rw [hwr h1] at hw; rw [hlive h2] at hl
        exact I.rel.sep _ _ _ _ hne h1 h2 hw hl
  · intro b pl' h; exact hmono _ _ (I.tr.ext _ _ h)
  · intro b pl' h h'
    by_cases e : b = m.h.n
    · subst e
      rw [Rho.upd_same] at h; obtain rfl := Option.some.inj h
      exact ⟨I.tr.hn, fun _ => .inl (by rw [hB]; exact I.tr.size)⟩
    · rw [Rho.upd_ne _ _ (by simpa using e)] at h
      obtain ⟨q1, q2⟩ := I.tr.new _ _ h h'
      exact ⟨q1, fun hl => q2 (by rwa [hfo h] at hl)⟩
  · intro b hb hl
    have : (m.h.new x).f b = m.h.f b := by simp only [Heap.new]; rw [if_neg (by have := I.tr.hn; omega)]
    rw [this] at hl
    exact I.tr.dead b hb hl
  · intro b hb hl
    have : (m.h.new x).wr b = m.h.wr b := by simp only [Heap.wr, Heap.new]; rw [if_neg (by have := I.tr.hn; omega)]
    rw [this] at hl
    exact I.tr.wrd b hb hl
  · intro B hBs ho
    rw [heap_alloc_lt _ _ (by have := I.tr.size; omega)]
    exact I.tr.frame B hBs ho
  · intro s pl' h
    rw [Rho.upd_ne _ _ (by simp)] at h
    exact I.box s pl' h

theorem Inv.newB (I : Inv P ρ0 h0 w0 ρ m w) (s : Nat) {e : TypeId} {cs : List Value} {o : Obj} {pl : Pl} (hf : Fits P ρ (.row true e cs) o pl) (hB : pl.B = w.heap.size) :
    Inv P ρ0 h0 w0 (ρ.upd (true, s) pl) ⟨m.x.set s (e, cs), m.h⟩ (w.alloc o) := by
  have hmono : ∀ b pl', ρ (false, b) = some pl' → ρ.upd (true, s) pl (false, b) = some pl' := fun b pl' h => by rw [Rho.upd_ne _ _ (by simp)]; exact h
  have hback : ∀ b pl', ρ.upd (true, s) pl (false, b) = some pl' → ρ (false, b) = some pl' := fun b pl' h => by rwa [Rho.upd_ne _ _ (by simp)] at h
  have hsz : (w.alloc o).heap.size = w.heap.size + 1 := by simp
  have hne : ∀ {k : Key}, k ≠ (true, s) → (Mem.mk (m.x.set s (e, cs)) m.h).row? k = m.row? k ∧ (Mem.mk (m.x.set s (e, cs)) m.h).wr k = m.wr k ∧ (Mem.mk (m.x.set s (e, cs)) m.h).live k = m.live k := fun {k} hk => by
    obtain ⟨t, b⟩ := k
    cases t
    · exact ⟨rfl, rfl, rfl⟩
    · have : ¬ s = b := fun h => hk (by rw [h])
      simp [Mem.row?, Mem.wr, Mem.live, Boxes.look_set, this]
  refine ⟨⟨?_, ?_, ?_, ?_, ?_, fun i hi => let ⟨pl', q1, q2⟩ := I.rel.glob i hi; ⟨pl', hmono _ _ q1, q2⟩⟩, ⟨I.tr.os, I.tr.tape, I.tr.output, I.tr.drawn, by rw [hsz]; exact Nat.le_succ_of_le I.tr.size, fun b pl' h => hmono _ _ (I.tr.ext _ _ h), I.tr.hn, I.tr.hg, fun b pl' h h' => I.tr.new _ _ (hback _ _ h) h', I.tr.dead, I.tr.wrd, ?_⟩, ?_, I.dom0⟩
  · intro k pl' h
    by_cases e : k = (true, s)
    · subst e; rw [Rho.upd_same] at h; obtain rfl := Option.some.inj h; rw [hsz, hB]; omega
    · rw [Rho.upd_ne _ _ e] at h; have := I.rel.bound _ _ h; omega
  · intro b pl' h; exact I.rel.dom _ _ (hback _ _ h)
  · intro k pl' wr e1 cs1 h hr
    by_cases ek : k = (true, s)
    · subst ek
      rw [Rho.upd_same] at h; obtain rfl := Option.some.inj h
      simp only [Mem.row?, Boxes.look_set, if_true] at hr
      simp only [Option.some.injEq, Prod.mk.injEq] at hr
      obtain ⟨rfl, rfl, rfl⟩ := hr
      cases hf with
      | row e1 e' cs1 C B hn hc =>
        simp only at hB
        subst hB
        refine ⟨C, e', (0, 0), heap_alloc_eq w _, fun _ => rfl, hn, by simp, rfl, fun i v hi => ?_⟩
        obtain ⟨v', h1, h2⟩ := hc i v hi
        exact ⟨v', by simpa using h1, h2.mono hmono⟩
    · rw [Rho.upd_ne _ _ ek] at h
      rw [(hne ek).1] at hr
      obtain ⟨C, e', fz, h1, h2, h3, h4, h5, h6⟩ := I.rel.row _ _ _ _ _ h hr
      refine ⟨C, e', fz, by rw [heap_alloc_lt _ _ (I.rel.bound _ _ h)]; exact h1, h2, h3, h4, h5, fun i v hi => ?_⟩
      obtain ⟨v', q1, q2⟩ := h6 i v hi
      exact ⟨v', q1, q2.mono hmono⟩
  · intro b pl' o' h ho
    have h := hback _ _ h
    rw [heap_alloc_lt _ _ (I.rel.bound _ _ h)]
    exact I.rel.obj _ _ _ h ho
  · intro k k' pl1 pl2 hn h1 h2 hw hl
    by_cases e1 : k = (true, s)
    · have e2 : k' ≠ (true, s) := fun e => hn (e1.trans e.symm)
      subst e1
      rw [Rho.upd_same] at h1; obtain rfl := Option.some.inj h1
      rw [Rho.upd_ne _ _ e2] at h2
      have := I.rel.bound _ _ h2; omega
    · rw [Rho.upd_ne _ _ e1] at h1
      by_cases e2 : k' = (true, s)
      · subst e2
        rw [Rho.upd_same] at h2; obtain rfl := Option.some.inj h2
        have := I.rel.bound _ _ h1; omega
      · rw [Rho.upd_ne _ _ e2] at h2
        rw [(hne e1).2.1] at hw; rw [(hne e2).2.2] at hl
        exact I.rel.sep _ _ _ _ hn h1 h2 hw hl
  · intro B hBs ho
    rw [heap_alloc_lt _ _ (by have := I.tr.size; omega)]
    exact I.tr.frame B hBs ho
  · intro s' pl' h
    by_cases e : s' = s
    · subst e; rw [Rho.upd_same] at h; obtain rfl := Option.some.inj h; rw [hB]; exact I.tr.size
    · rw [Rho.upd_ne _ _ (by simpa using e)] at h
      exact I.box s' pl' h

/-! ### a store into one row -/
theorem World.heap_setCell_ne (w : World) (a : Addr) (v : Value) {B : Nat} (h : B ≠ a.block) : (w.setCell a v).heap[B]? = w.heap[B]? := by
  simp only [World.setCell, Array.getElem?_modify]
  rw [if_neg (Ne.symm h)]
theorem World.heap_setCell_eq (w : World) (b off : Nat) (v : Value) {C : Array Value} {e : TypeId} {fz : Nat × Nat} (h : w.heap[b]? = some (.cells C e fz)) :
    (w.setCell ⟨b, off, none⟩ v).heap[b]? = some (.cells (C.setIfInBounds off v) e fz) := by
  simp only [World.setCell, Array.getElem?_modify, h]
  rfl

/-- memory with one row's cells changed -/
def Mem.setRow (m : Mem) : Key → TypeId → List Value → Mem
  | (true, s), e, cs => ⟨m.x.set s (e, cs), m.h⟩
  | (false, b), e, cs => ⟨m.x, m.h.set b (.row true e cs)⟩

theorem Mem.setRow_row (m : Mem) (k : Key) (e : TypeId) (cs : List Value) : (m.setRow k e cs).row? k = some (true, e, cs) := by
  obtain ⟨t, b⟩ := k
  cases t
  · simp [Mem.setRow, Mem.row?, Heap.set]
  · simp [Mem.setRow, Mem.row?, Boxes.look_set]
theorem Mem.setRow_ne (m : Mem) {k k' : Key} (e : TypeId) (cs : List Value) (h : k' ≠ k) :
    (m.setRow k e cs).row? k' = m.row? k' ∧ (m.setRow k e cs).wr k' = m.wr k' ∧ (m.setRow k e cs).live k' = m.live k' := by
  obtain ⟨t, b⟩ := k
  obtain ⟨t', b'⟩ := k'
  cases t <;> cases t'
  · have : ¬ b' = b := fun q => h (by rw [q])
    simp [Mem.setRow, Mem.row?, Mem.wr, Mem.live, Heap.wr, Heap.set, this]
  · simp [Mem.setRow, Mem.row?, Mem.wr, Mem.live]
  · simp [Mem.setRow, Mem.row?, Mem.wr, Mem.live]
  · have : ¬ b = b' := fun q => h (by rw [q])
    simp [Mem.setRow, Mem.row?, Mem.wr, Mem.live, Boxes.look_set, this]
theorem Mem.setRow_f (m : Mem) (k : Key) (e : TypeId) (cs : List Value) (hr : m.row? k = some (true, e, cs0)) (b : Nat) :
    ((m.setRow k e cs).h.f b ≠ .dead ↔ m.h.f b ≠ .dead) ∧ ((m.setRow k e cs).h.wr b ↔ m.h.wr b) ∧ (∀ o, (m.setRow k e cs).h.f b = .obj o → m.h.f b = .obj o) := by
  obtain ⟨t, b'⟩ := k
  cases t
  · simp only [Mem.row?] at hr
    by_cases hb : b = b'
    · subst hb
      simp only [Mem.setRow, Heap.set, Heap.wr, if_true]
      split at hr <;> simp_all
    · simp [Mem.setRow, Heap.set, Heap.wr, hb]
  · simp [Mem.setRow]

theorem Inv.putRow (I : Inv P ρ0 h0 w0 ρ m w) {k : Key} {pl : Pl} {e : TypeId} {cs : List Value} (hk : ρ k = some pl) (hr : m.row? k = some (true, e, cs))
    {ds : List Value} (hds : ds.length ≤ pl.n) {w' : World} {C : Array Value} {e' : TypeId}
    (hw : w' = { w with heap := w'.heap }) (hsz : w'.heap.size = w.heap.size) (hother : ∀ B, B ≠ pl.B → w'.heap[B]? = w.heap[B]?)
    (hB : w'.heap[pl.B]? = some (.cells C e' (0, 0))) (hC : pl.o + pl.n ≤ C.size)
    (hcs : ∀ (i : Nat) (v : Value), ds[i]? = some v → ∃ v', C[pl.o + i]? = some v' ∧ VR ρ v v') :
    Inv P ρ0 h0 w0 ρ (m.setRow k e ds) w' := by
  obtain ⟨C0, e0, fz, c1, c2, c3, c4, c5, c6⟩ := I.rel.row _ _ _ _ _ hk hr
  have hwk := Mem.wr_of_row hr
  have hlk := Mem.live_of_wr hwk
  have e1 : w'.os = w.os := by rw [hw]
  have e2 : w'.tape = w.tape := by rw [hw]
  have e3 : w'.output = w.output := by rw [hw]
  have hothers : ∀ {k' pl'}, ρ k' = some pl' → k' ≠ k → m.live k' → w'.heap[pl'.B]? = w.heap[pl'.B]? := fun {k' pl'} h hne hl =>
    hother _ fun q => I.rel.sep k k' pl pl' (Ne.symm hne) hk h hwk hl q.symm
  refine ⟨⟨?_, ?_, ?_, ?_, ?_, ?_⟩, ⟨e1.trans I.tr.os, e2.trans I.tr.tape, e3.trans I.tr.output, by rw [hw]; exact I.tr.drawn, by rw [hsz]; exact I.tr.size, I.tr.ext, ?_, ?_, ?_, ?_, ?_, ?_⟩, I.box, I.dom0⟩
  · intro k' pl' h; rw [hsz]; exact I.rel.bound _ _ h
  · intro b pl' h
    have := I.rel.dom _ _ h
    obtain ⟨t, b'⟩ := k
    cases t <;> simpa [Mem.setRow, Heap.set] using this
  · intro k' pl' wr1 e1 cs1 h h1
    by_cases hne : k' = k
    · subst hne
      rw [hk] at h; obtain rfl := Option.some.inj h
      rw [Mem.setRow_row] at h1
      simp only [Option.some.injEq, Prod.mk.injEq] at h1
      obtain ⟨rfl, rfl, rfl⟩ := h1
      exact ⟨C, e', (0, 0), hB, fun _ => rfl, hds, hC, c5, hcs⟩
    · rw [(Mem.setRow_ne m e _ hne).1] at h1
      obtain ⟨D, e2, f2, d1, d2⟩ := I.rel.row _ _ _ _ _ h h1
      exact ⟨D, e2, f2, by rw [hothers h hne (Mem.live_of_row h1)]; exact d1, d2⟩
  · intro b pl' o h ho
    have ho' := (Mem.setRow_f m k e _ hr b).2.2 o ho
    have hne : (false, b) ≠ k := fun q => by
      subst q; simp [Mem.row?, ho'] at hr
    rw [hothers h hne (by simp [Mem.live, ho'])]
    exact I.rel.obj _ _ _ h ho'
  · intro k1 k2 pl1 pl2 hne h1 h2 hw hl
    refine I.rel.sep k1 k2 pl1 pl2 hne h1 h2 ?_ ?_
    · by_cases q : k1 = k
      · subst q; exact hwk
      · rwa [(Mem.setRow_ne m e _ q).2.1] at hw
    · by_cases q : k2 = k
      · subst q; exact hlk
      · rwa [(Mem.setRow_ne m e _ q).2.2] at hl
  · intro i hi
    refine I.rel.glob i ?_
    obtain ⟨t, b'⟩ := k
    cases t <;> simpa [Mem.setRow, Heap.set] using hi
  · obtain ⟨t, b'⟩ := k
    cases t <;> simpa [Mem.setRow, Heap.set] using I.tr.hn
  · obtain ⟨t, b'⟩ := k
    cases t <;> simpa [Mem.setRow, Heap.set] using I.tr.hg
  · intro b pl' h h'
    obtain ⟨q1, q2⟩ := I.tr.new _ _ h h'
    exact ⟨q1, fun hl => q2 ((Mem.setRow_f m k e _ hr b).1.1 hl)⟩
  · intro b hb hl
    exact I.tr.dead b hb ((Mem.setRow_f m k e _ hr b).1.1 hl)
  · intro b hb hl
    exact I.tr.wrd b hb ((Mem.setRow_f m k e _ hr b).2.1.1 hl)
  · intro B hB' ho
    rw [hother]
    · exact I.tr.frame B hB' ho
    · intro q
      obtain ⟨t, b'⟩ := k
      cases t
      · rcases I.own ⟨b', pl, hk, q.symm, hwk⟩ with h | h
        · omega
        · exact ho h
      · have := I.box _ _ hk; omega

/-- a row that is given up -/
theorem Inv.kill (I : Inv P ρ0 h0 w0 ρ m w) (b : Nat) : Inv P ρ0 h0 w0 ρ ⟨m.x, m.h.set b .dead⟩ w := by
  have hrow : ∀ {k r}, (Mem.mk m.x (m.h.set b .dead)).row? k = some r → m.row? k = some r := fun {k r} h => by
    obtain ⟨t, b'⟩ := k
    cases t
    · simp only [Mem.row?, Heap.set] at h ⊢
      by_cases q : b' = b
      · simp [q] at h
      · simpa [q] using h
    · exact h
  have hwr : ∀ {k}, (Mem.mk m.x (m.h.set b .dead)).wr k → m.wr k := fun {k} h => by
    obtain ⟨t, b'⟩ := k
    cases t
    · simp only [Mem.wr, Heap.wr, Heap.set] at h ⊢
      by_cases q : b' = b
      · simp [q] at h
      · simpa [q] using h
    · exact h
  have hlive : ∀ {k}, (Mem.mk m.x (m.h.set b .dead)).live k → m.live k := fun {k} h => by
    obtain ⟨t, b'⟩ := k
    cases t
    · simp only [Mem.live, Heap.set] at h ⊢
      by_cases q : b' = b
      · simp [q] at h
      · simpa [q] using h
    · exact h
  refine ⟨⟨I.rel.bound, I.rel.dom, fun k pl wr e cs h hr => I.rel.row k pl wr e cs h (hrow hr), fun b' pl o h ho => I.rel.obj b' pl o h ?_,
    fun k k' pl pl' hne h h' hw hl => I.rel.sep k k' pl pl' hne h h' (hwr hw) (hlive hl), I.rel.glob⟩,
    ⟨I.tr.os, I.tr.tape, I.tr.output, I.tr.drawn, I.tr.size, I.tr.ext, I.tr.hn, I.tr.hg, fun b' pl h h' => ?_, fun b' hb hl => I.tr.dead b' hb (hlive (k := (false, b')) hl),
      fun b' hb hl => I.tr.wrd b' hb (hwr (k := (false, b')) hl), I.tr.frame⟩, I.box, I.dom0⟩
  · simp only [Heap.set] at ho
    by_cases q : b' = b
    · simp [q] at ho
    · simpa [q] using ho
  · obtain ⟨q1, q2⟩ := I.tr.new _ _ h h'
    exact ⟨q1, fun hl => q2 (hlive (k := (false, b')) hl)⟩

/-- an object that is changed -/
theorem Inv.setObj (I : Inv P ρ0 h0 w0 ρ m w) {b : Nat} {pl : Pl} {o : Obj} (hk : ρ (false, b) = some pl) (ho : m.h.f b = .obj o) (o' : Obj) :
    Inv P ρ0 h0 w0 ρ ⟨m.x, m.h.set b (.obj o')⟩ { w with heap := w.heap.setIfInBounds pl.B o' } := by
  have hwk : m.wr (false, b) := by simp [Mem.wr, Heap.wr, ho]
  have hlk := Mem.live_of_wr hwk
  have hBb := I.rel.bound _ _ hk
  have hrow : ∀ {k}, (Mem.mk m.x (m.h.set b (.obj o'))).row? k = m.row? k := fun {k} => by
    obtain ⟨t, b'⟩ := k
    cases t
    · simp only [Mem.row?, Heap.set]
      by_cases q : b' = b
      · subst q; simp [ho]
      · simp [q]
    · rfl
  have hwr : ∀ {k}, (Mem.mk m.x (m.h.set b (.obj o'))).wr k ↔ m.wr k := fun {k} => by
    obtain ⟨t, b'⟩ := k
    cases t
    · simp only [Mem.wr, Heap.wr, Heap.set]
      by_cases q : b' = b
      · subst q; simp [ho]
      · simp [q]
    · exact Iff.rfl
  have hlive : ∀ {k}, (Mem.mk m.x (m.h.set b (.obj o'))).live k ↔ m.live k := fun {k} => by
    obtain ⟨t, b'⟩ := k
    cases t
    · simp only [Mem.live, Heap.set]
      by_cases q : b' = b
      · subst q; simp [ho]
      · simp [q]
    · exact Iff.rfl
  have hh : ∀ B, B ≠ pl.B → (w.heap.setIfInBounds pl.B o')[B]? = w.heap[B]? := fun B h => by rw [Array.getElem?_setIfInBounds_ne (Ne.symm h)]
  have hothers : ∀ {k' pl'}, ρ k' = some pl' → k' ≠ (false, b) → m.live k' → (w.heap.setIfInBounds pl.B o')[pl'.B]? = w.heap[pl'.B]? := fun {k' pl'} h hne hl =>
    hh _ fun q => I.rel.sep _ _ _ _ (Ne.symm hne) hk h hwk hl q.symm
  refine ⟨⟨fun k' pl' h => by simpa using I.rel.bound _ _ h, I.rel.dom, fun k' pl' wr e cs h hr => ?_, fun b' pl' o1 h ho1 => ?_,
    fun k' k'' pl1 pl2 hne h h' hw hl => I.rel.sep _ _ pl1 pl2 hne h h' (hwr.1 hw) (hlive.1 hl), I.rel.glob⟩,
    ⟨I.tr.os, I.tr.tape, I.tr.output, I.tr.drawn, by simpa using I.tr.size, I.tr.ext, I.tr.hn, I.tr.hg, fun b' pl' h h' => ?_, fun b' hb hl => I.tr.dead b' hb ((hlive (k := (false, b'))).1 hl),
      fun b' hb hl => I.tr.wrd b' hb ((hwr (k := (false, b'))).1 hl), fun B hB hO => ?_⟩, I.box, I.dom0⟩
  · rw [hrow] at hr
    obtain ⟨D, e2, f2, d1, d2⟩ := I.rel.row _ _ _ _ _ h hr
    have hne : k' ≠ (false, b) := fun q => by subst q; simp [Mem.row?, ho] at hr
    exact ⟨D, e2, f2, by rw [hothers h hne (Mem.live_of_row hr)]; exact d1, d2⟩
  · by_cases q : b' = b
    · subst q
      rw [hk] at h; obtain rfl := Option.some.inj h
      simp only [Heap.set, if_true, Blk.obj.injEq] at ho1
      subst ho1
      exact ⟨by simp only; rw [Array.getElem?_setIfInBounds_self_of_lt hBb], (I.rel.obj _ _ _ hk ho).2⟩
    · simp only [Heap.set, q, if_false] at ho1
      simp only
      rw [hothers h (by simpa using q) (by simp [Mem.live, ho1])]
      exact I.rel.obj _ _ _ h ho1
  · obtain ⟨q1, q2⟩ := I.tr.new _ _ h h'
    exact ⟨q1, fun hl => q2 ((hlive (k := (false, b'))).1 hl)⟩
  · simp only
    rw [hh]
    · exact I.tr.frame B hB hO
    · intro q
      rcases I.own ⟨b, pl, hk, q.symm, hwk⟩ with h | h
      · omega
      · exact hO h

/-- a row that goes on in its place: the elder number is given up -/
theorem Inv.regrow (I : Inv P ρ0 h0 w0 ρ m w) {b : Nat} {pl : Pl} {e : TypeId} {cs : List Value} (hk : ρ (false, b) = some pl) (hr : m.h.f b = .row true e cs)
    {off : Nat} {ds : List Value} (hoff : off + ds.length ≤ pl.n) {w' : World} {C : Array Value} {e' : TypeId}
    (hw : w' = { w with heap := w'.heap }) (hsz : w'.heap.size = w.heap.size) (hother : ∀ B, B ≠ pl.B → w'.heap[B]? = w.heap[B]?)
    (hB : w'.heap[pl.B]? = some (.cells C e' (0, 0))) (hC : pl.o + pl.n ≤ C.size)
    (hcs : ∀ (i : Nat) (v : Value), ds[i]? = some v → ∃ v', C[pl.o + off + i]? = some v' ∧ VR ρ v v') :
    Inv P ρ0 h0 w0 (ρ.upd (false, m.h.n) ⟨pl.B, pl.o + off, pl.n - off, pl.sz⟩) ⟨m.x, (m.h.set b .dead).new (.row true e ds)⟩ w' := by
  have hwk : m.wr (false, b) := by simp [Mem.wr, Heap.wr, hr]
  have hbn := I.rel.dom _ _ hk
  have hnone : ∀ pl', ρ (false, m.h.n) ≠ some pl' := fun pl' h => Nat.lt_irrefl _ (I.rel.dom _ _ h)
  have hold : ∀ {k pl'}, ρ k = some pl' → k ≠ (false, m.h.n) := fun h e => hnone _ (e ▸ h)
  have hmono : ∀ b pl', ρ (false, b) = some pl' → ρ.upd (false, m.h.n) ⟨pl.B, pl.o + off, pl.n - off, pl.sz⟩ (false, b) = some pl' := fun b pl' h => by rw [Rho.upd_ne _ _ (hold h)]; exact h
  obtain ⟨C0, e0, fz0, c1, c2, c3, c4, c5, c6⟩ := I.rel.row (false, b) pl true e cs hk (by simp [Mem.row?, hr])
  -- what is still there of the elder ones
  have hf : ∀ i, i < m.h.n → ((m.h.set b .dead).new (.row true e ds)).f i = if i = b then .dead else m.h.f i := fun i hi => by
    have : ¬ i = m.h.n := by omega
    simp only [Heap.new, Heap.set, this, if_false]
  have hfn : ((m.h.set b .dead).new (.row true e ds)).f m.h.n = .row true e ds := by simp [Heap.new, Heap.set]
  have hrow : ∀ {k pl' r}, ρ k = some pl' → (Mem.mk m.x ((m.h.set b .dead).new (.row true e ds))).row? k = some r → k ≠ (false, b) ∧ m.row? k = some r := fun {k pl' r} h q => by
    obtain ⟨t, i⟩ := k
    cases t
    · have hi := I.rel.dom _ _ h
      simp only [Mem.row?, hf i hi] at q
      by_cases hib : i = b
      · simp [hib] at q
      · simp only [hib, if_false] at q; exact ⟨by simpa using hib, q⟩
    · exact ⟨by simp, q⟩
  have hlive : ∀ {k pl'}, ρ k = some pl' → (Mem.mk m.x ((m.h.set b .dead).new (.row true e ds))).live k → k ≠ (false, b) ∧ m.live k := fun {k pl'} h q => by
    obtain ⟨t, i⟩ := k
    cases t
    · have hi := I.rel.dom _ _ h
      simp only [Mem.live, hf i hi] at q
      by_cases hib : i = b
      · simp [hib] at q
      · simp only [hib, if_false] at q; exact ⟨by simpa using hib, q⟩
    · exact ⟨by simp, q⟩
  have hwr : ∀ {k pl'}, ρ k = some pl' → (Mem.mk m.x ((m.h.set b .dead).new (.row true e ds))).wr k → k ≠ (false, b) ∧ m.wr k := fun {k pl'} h q => by
    obtain ⟨t, i⟩ := k
    cases t
    · have hi := I.rel.dom _ _ h
      simp only [Mem.wr, Heap.wr, hf i hi] at q
      by_cases hib : i = b
      · simp [hib] at q
      · simp only [hib, if_false] at q; exact ⟨by simpa using hib, q⟩
    · exact ⟨by simp, q⟩
  have hsep : ∀ {k pl'}, ρ k = some pl' → k ≠ (false, b) → m.live k → pl'.B ≠ pl.B := fun {k pl'} h hne hl q =>
    I.rel.sep _ _ _ _ (Ne.symm hne) hk h hwk hl q.symm
  have e1 : w'.os = w.os := by rw [hw]
  have e2 : w'.tape = w.tape := by rw [hw]
  have e3 : w'.output = w.output := by rw [hw]
  have ewf : ((m.h.set b .dead).new (.row true e ds)).n = m.h.n + 1 := rfl
  refine ⟨⟨?_, ?_, ?_, ?_, ?_, fun i hi => let ⟨pl', q1, q2⟩ := I.rel.glob i hi; ⟨pl', hmono _ _ q1, q2⟩⟩,
    ⟨e1.trans I.tr.os, e2.trans I.tr.tape, e3.trans I.tr.output, by rw [hw]; exact I.tr.drawn, by rw [hsz]; exact I.tr.size, fun b pl' h => hmono _ _ (I.tr.ext _ _ h),
      by simp only [ewf]; exact Nat.le_succ_of_le I.tr.hn, I.tr.hg, ?_, ?_, ?_, ?_⟩, ?_, I.dom0⟩
  · intro k pl' h
    by_cases q : k = (false, m.h.n)
    · subst q; rw [Rho.upd_same] at h; obtain rfl := Option.some.inj h; rw [hsz]; exact I.rel.bound (false, b) pl hk
    · rw [Rho.upd_ne _ _ q] at h; rw [hsz]; exact I.rel.bound _ _ h
  · intro i pl' h
    by_cases q : (false, i) = (false, m.h.n)
    · simp only [Prod.mk.injEq, true_and] at q; subst q; simp only [ewf]; omega
    · rw [Rho.upd_ne _ _ q] at h; have := I.rel.dom _ _ h; simp only [ewf]; omega
  · intro k pl' wr1 e1 cs1 h h1
    by_cases q : k = (false, m.h.n)
    · subst q
      rw [Rho.upd_same] at h; obtain rfl := Option.some.inj h
      simp only [Mem.row?, hfn, Option.some.injEq, Prod.mk.injEq] at h1
      obtain ⟨rfl, rfl, rfl⟩ := h1
      refine ⟨C, e', (0, 0), hB, fun _ => rfl, by simp only; omega, by simp only; omega, c5, fun i v hi => ?_⟩
      obtain ⟨v', q1, q2⟩ := hcs i v hi
      exact ⟨v', q1, q2.mono hmono⟩
    · rw [Rho.upd_ne _ _ q] at h
      obtain ⟨hne, h1⟩ := hrow h h1
      obtain ⟨D, e2, f2, d1, d2, d3, d4, d5, d6⟩ := I.rel.row _ _ _ _ _ h h1
      refine ⟨D, e2, f2, by rw [hother _ (hsep h hne (Mem.live_of_row h1))]; exact d1, d2, d3, d4, d5, fun i v hi => ?_⟩
      obtain ⟨v', q1, q2⟩ := d6 i v hi
      exact ⟨v', q1, q2.mono hmono⟩
  · intro i pl' o h ho
    by_cases q : i = m.h.n
    · subst q; rw [hfn] at ho; simp at ho
    · rw [Rho.upd_ne _ _ (by simpa using q)] at h
      have hl := hlive h (by simp only [Mem.live, ne_eq]; intro z; rw [z] at ho; simp at ho)
      rw [hf i (I.rel.dom _ _ h)] at ho
      have hib : i ≠ b := by simpa using hl.1
      rw [if_neg hib] at ho
      rw [hother _ (hsep h hl.1 hl.2)]
      exact I.rel.obj _ _ _ h ho
  · intro k1 k2 pl1 pl2 hne h1 h2 hw hl
    by_cases q1 : k1 = (false, m.h.n)
    · have q2 : k2 ≠ (false, m.h.n) := fun q => hne (q1.trans q.symm)
      subst q1
      rw [Rho.upd_same] at h1; obtain rfl := Option.some.inj h1
      rw [Rho.upd_ne _ _ q2] at h2
      obtain ⟨a1, a2⟩ := hlive h2 hl
      exact fun q => hsep h2 a1 a2 q.symm
    · rw [Rho.upd_ne _ _ q1] at h1
      obtain ⟨a1, a2⟩ := hwr h1 hw
      by_cases q2 : k2 = (false, m.h.n)
      · subst q2
        rw [Rho.upd_same] at h2; obtain rfl := Option.some.inj h2
        exact hsep h1 a1 (Mem.live_of_wr a2)
      · rw [Rho.upd_ne _ _ q2] at h2
        exact I.rel.sep _ _ _ _ hne h1 h2 a2 (hlive h2 hl).2
  · intro i pl' h h'
    by_cases q : i = m.h.n
    · subst q
      rw [Rho.upd_same] at h; obtain rfl := Option.some.inj h
      exact ⟨I.tr.hn, fun _ => I.own ⟨b, pl, hk, rfl, hwk⟩⟩
    · rw [Rho.upd_ne _ _ (by simpa using q)] at h
      obtain ⟨q1, q2⟩ := I.tr.new _ _ h h'
      exact ⟨q1, fun hl => q2 (hlive (k := (false, i)) h hl).2⟩
  · intro i hi hl
    have hin : i < m.h.n := Nat.lt_of_lt_of_le hi I.tr.hn
    simp only at hl
    rw [hf i hin] at hl
    by_cases q : i = b
    · simp [q] at hl
    · rw [if_neg q] at hl; exact I.tr.dead i hi hl
  · intro i hi hl
    have hin : i < m.h.n := Nat.lt_of_lt_of_le hi I.tr.hn
    simp only [Heap.wr, hf i hin] at hl
    by_cases q : i = b
    · simp [q] at hl
    · simp only [q, if_false] at hl; exact I.tr.wrd i hi hl
  · intro B hB' hO
    rw [hother]
    · exact I.tr.frame B hB' hO
    · intro q
      rcases I.own ⟨b, pl, hk, q.symm, hwk⟩ with h | h
      · omega
      · exact hO h
  · intro s pl' h
    rw [Rho.upd_ne _ _ (by simp)] at h
    exact I.box s pl' h

/-- a number that stands for nothing -/
theorem Inv.newNone (I : Inv P ρ0 h0 w0 ρ m w) (x : Blk) : Inv P ρ0 h0 w0 ρ ⟨m.x, m.h.new x⟩ w := by
  have hfo : ∀ {b pl'}, ρ (false, b) = some pl' → (m.h.new x).f b = m.h.f b := fun {b pl'} h => by
    have := I.rel.dom _ _ h; simp only [Heap.new]; rw [if_neg (by omega)]
  have hrow : ∀ {k pl'}, ρ k = some pl' → (Mem.mk m.x (m.h.new x)).row? k = m.row? k := fun {k pl'} h => by
    obtain ⟨t, b⟩ := k
    cases t
    · simp only [Mem.row?, hfo h]
    · rfl
  have hwr : ∀ {k pl'}, ρ k = some pl' → (Mem.mk m.x (m.h.new x)).wr k = m.wr k := fun {k pl'} h => by
    obtain ⟨t, b⟩ := k
    cases t
    · simp only [Mem.wr, Heap.wr, hfo h]
    · rfl
  have hlive : ∀ {k pl'}, ρ k = some pl' → (Mem.mk m.x (m.h.new x)).live k = m.live k := fun {k pl'} h => by
    obtain ⟨t, b⟩ := k
    cases t
    · simp only [Mem.live, hfo h]
    · rfl
  refine ⟨⟨I.rel.bound, fun b pl h => by have := I.rel.dom _ _ h; simp only [Heap.new]; omega, fun k pl wr e cs h hr => I.rel.row k pl wr e cs h (by rwa [hrow h] at hr),
    fun b pl o h ho => I.rel.obj b pl o h (by rwa [hfo h] at ho), fun k k' pl pl' hne h h' hw hl => I.rel.sep k k' pl pl' hne h h' (by rwa [hwr h] at hw) (by rwa [hlive h'] at hl), I.rel.glob⟩,
    ⟨I.tr.os, I.tr.tape, I.tr.output, I.tr.drawn, I.tr.size, I.tr.ext, by simp only [Heap.new]; exact Nat.le_succ_of_le I.tr.hn, I.tr.hg, fun b pl h h' => ?_, fun b hb hl => ?_, fun b hb hl => ?_, I.tr.frame⟩, I.box, I.dom0⟩
  · obtain ⟨q1, q2⟩ := I.tr.new _ _ h h'
    exact ⟨q1, fun hl => q2 (by rwa [hfo h] at hl)⟩
  · have : (m.h.new x).f b = m.h.f b := by simp only [Heap.new]; rw [if_neg (by have := I.tr.hn; omega)]
    rw [this] at hl
    exact I.tr.dead b hb hl
  · have : (m.h.new x).wr b = m.h.wr b := by simp only [Heap.wr, Heap.new]; rw [if_neg (by have := I.tr.hn; omega)]
    rw [this] at hl
    exact I.tr.wrd b hb hl

/-! ### calls -/
def heapOnly (ρ : Rho) : Rho := fun k => if k.1 = true then none else ρ k
theorem heapOnly_f (ρ : Rho) (b : Nat) : heapOnly ρ (false, b) = ρ (false, b) := by simp [heapOnly]
theorem heapOnly_t (ρ : Rho) (s : Nat) : heapOnly ρ (true, s) = none := by simp [heapOnly]
theorem heapOnly_some {ρ : Rho} {k : Key} {pl : Pl} (h : heapOnly ρ k = some pl) : k.1 = false ∧ ρ k = some pl := by
  unfold heapOnly at h
  split at h
  · simp at h
  · rename_i q; exact ⟨by simpa using q, h⟩
theorem VR.heapOnly {v v' : Value} (h : VR ρ v v') : VR (heapOnly ρ) v v' := h.mono fun b pl q => by rw [heapOnly_f]; exact q
theorem VR.ofHeapOnly {v v' : Value} (h : VR (Am.heapOnly ρ) v v') : VR ρ v v' := h.mono fun b pl q => by rwa [heapOnly_f] at q

theorem MRel.heapOnly (R : MRel P ρ m w) : MRel P (heapOnly ρ) ⟨Boxes.nil, m.h⟩ w := by
  refine ⟨fun k pl h => R.bound k pl (heapOnly_some h).2, fun b pl h => R.dom b pl (heapOnly_some h).2, fun k pl wr e cs h hr => ?_, fun b pl o h ho => R.obj b pl o (heapOnly_some h).2 ho,
    fun k k' pl pl' hne h h' hw hl => ?_, fun i hi => ?_⟩
  · obtain ⟨t, b⟩ := k
    obtain ⟨ht, h⟩ := heapOnly_some h
    simp only at ht; subst ht
    obtain ⟨C, e', fz, c1, c2, c3, c4, c5, c6⟩ := R.row _ _ _ _ _ h (by simpa [Mem.row?] using hr)
    exact ⟨C, e', fz, c1, c2, c3, c4, c5, fun i v hi => let ⟨v', q1, q2⟩ := c6 i v hi; ⟨v', q1, q2.heapOnly⟩⟩
  · obtain ⟨t, b⟩ := k
    obtain ⟨t', b'⟩ := k'
    obtain ⟨ht, h⟩ := heapOnly_some h
    obtain ⟨ht', h'⟩ := heapOnly_some h'
    simp only at ht ht'; subst ht; subst ht'
    exact R.sep _ _ _ _ hne h h' hw hl
  · obtain ⟨pl, q1, q2⟩ := R.glob i hi
    exact ⟨pl, by rw [heapOnly_f]; exact q1, q2⟩

/-- behind a call: the boxes of this frame, what the call made of the heap -/
def Rho.join (ρ ρ' : Rho) : Rho := fun k => if k.1 = true then ρ k else ρ' k

theorem Inv.call (I : Inv P ρ0 h0 w0 ρ m w) {ρ' : Rho} {h' : Heap} {w' : World} (R : MRel P ρ' ⟨Boxes.nil, h'⟩ w') (T : Tr (Am.heapOnly ρ) m.h w ρ' h' w') :
    Inv P ρ0 h0 w0 (ρ.join ρ') ⟨m.x, h'⟩ w' ∧ (∀ b pl, ρ (false, b) = some pl → ρ.join ρ' (false, b) = some pl) ∧ (∀ s, ρ.join ρ' (true, s) = ρ (true, s)) := by
  have jt : ∀ s, ρ.join ρ' (true, s) = ρ (true, s) := fun s => by simp [Rho.join]
  have jf : ∀ b, ρ.join ρ' (false, b) = ρ' (false, b) := fun b => by simp [Rho.join]
  have hext : ∀ b pl, ρ (false, b) = some pl → ρ.join ρ' (false, b) = some pl := fun b pl h => by rw [jf]; exact T.ext b pl (by rw [heapOnly_f]; exact h)
  have hback : ∀ {B}, Own (Am.heapOnly ρ) m.h B → Own ρ m.h B := fun {B} ⟨b, pl, q1, q2⟩ => ⟨b, pl, by rwa [heapOnly_f] at q1, q2⟩
  -- a box is nobody's
  have hbox : ∀ s pl, ρ (true, s) = some pl → m.live (true, s) → ¬ Own (Am.heapOnly ρ) m.h pl.B := fun s pl h hl ho => by
    obtain ⟨b, pl', q1, q2, q3⟩ := hback ho
    exact I.rel.sep (false, b) (true, s) pl' pl (by simp) q1 h q3 hl q2
  have hboxh : ∀ s pl, ρ (true, s) = some pl → m.live (true, s) → w'.heap[pl.B]? = w.heap[pl.B]? := fun s pl h hl => T.frame _ (I.rel.bound _ _ h) (hbox s pl h hl)
  -- a box and a row of the heap behind the call
  have hapart : ∀ s pl b pl', ρ (true, s) = some pl → m.live (true, s) → ρ' (false, b) = some pl' → h'.f b ≠ .dead → pl.B ≠ pl'.B := fun s pl b pl' h hl h2 hl2 => by
    cases hb : ρ (false, b) with
    | none =>
      rcases (T.new b pl' h2 (by rw [heapOnly_f]; exact hb)).2 hl2 with q | q
      · have := I.rel.bound _ _ h; omega
      · exact fun e => hbox s pl h hl (e ▸ q)
    | some pl0 =>
      have := T.ext b pl0 (by rw [heapOnly_f]; exact hb)
      rw [this] at h2; obtain rfl := Option.some.inj h2
      exact I.rel.sep (true, s) (false, b) pl pl0 (by simp) h hb (by simpa [Mem.live, Mem.wr] using hl) (T.dead b (I.rel.dom _ _ hb) hl2)
  have hmono : ∀ {v u}, VR ρ v u → VR (ρ.join ρ') v u := fun {v u} h => h.mono hext
  have hmono' : ∀ {v u}, VR ρ' v u → VR (ρ.join ρ') v u := fun {v u} h => h.mono fun b pl q => by rw [jf]; exact q
  refine ⟨⟨⟨?_, ?_, ?_, ?_, ?_, ?_⟩, ⟨T.os.trans I.tr.os, T.tape.trans I.tr.tape, T.output.trans I.tr.output, fun hg => Nat.le_trans (I.tr.drawn hg) (T.drawn (I.tr.hg.trans hg)), Nat.le_trans I.tr.size T.size, fun b pl h => hext b pl (I.tr.ext b pl h),
    Nat.le_trans I.tr.hn T.hn, T.hg.trans I.tr.hg, ?_, ?_, ?_, ?_⟩, ?_, I.dom0⟩, hext, jt⟩
  · rintro ⟨t, b⟩ pl h
    cases t
    · rw [jf] at h; exact R.bound _ _ h
    · rw [jt] at h; exact Nat.lt_of_lt_of_le (I.rel.bound _ _ h) T.size
  · intro b pl h; rw [jf] at h; exact R.dom b pl h
  · rintro ⟨t, b⟩ pl wr e cs h hr
    cases t
    · rw [jf] at h
      obtain ⟨C, e', fz, c1, c2, c3, c4, c5, c6⟩ := R.row _ _ _ _ _ h (by simpa [Mem.row?] using hr)
      exact ⟨C, e', fz, c1, c2, c3, c4, c5, fun i v hi => let ⟨v', q1, q2⟩ := c6 i v hi; ⟨v', q1, hmono' q2⟩⟩
    · rw [jt] at h
      have hr' : m.row? (true, b) = some (wr, e, cs) := by simpa [Mem.row?] using hr
      obtain ⟨C, e', fz, c1, c2, c3, c4, c5, c6⟩ := I.rel.row _ _ _ _ _ h hr'
      exact ⟨C, e', fz, by rw [hboxh b pl h (Mem.live_of_row hr')]; exact c1, c2, c3, c4, c5, fun i v hi => let ⟨v', q1, q2⟩ := c6 i v hi; ⟨v', q1, hmono q2⟩⟩
  · intro b pl o h ho; rw [jf] at h; exact R.obj b pl o h ho
  · rintro ⟨t, b⟩ ⟨t', b'⟩ pl pl' hne h h2 hw hl
    cases t <;> cases t'
    · rw [jf] at h h2; exact R.sep _ _ _ _ hne h h2 hw hl
    · rw [jf] at h; rw [jt] at h2
      exact fun e => hapart b' pl' b pl h2 hl h (Mem.live_of_wr (m := ⟨m.x, h'⟩) (k := (false, b)) hw) e.symm
    · rw [jt] at h; rw [jf] at h2
      exact hapart b pl b' pl' h (Mem.live_of_wr (m := m) (k := (true, b)) hw) h2 hl
    · rw [jt] at h h2; exact I.rel.sep _ _ _ _ hne h h2 hw hl
  · intro i hi
    obtain ⟨pl, q1, q2⟩ := R.glob i hi
    exact ⟨pl, by rw [jf]; exact q1, q2⟩
  · intro b pl h hb
    rw [jf] at h
    cases hb' : ρ (false, b) with
    | none =>
      obtain ⟨q1, q2⟩ := T.new b pl h (by rw [heapOnly_f]; exact hb')
      refine ⟨Nat.le_trans I.tr.hn q1, fun hl => ?_⟩
      rcases q2 hl with q | q
      · exact .inl (Nat.le_trans I.tr.size q)
      · exact I.own (hback q)
    | some pl0 =>
      have := T.ext b pl0 (by rw [heapOnly_f]; exact hb')
      rw [this] at h; obtain rfl := Option.some.inj h
      obtain ⟨q1, q2⟩ := I.tr.new b pl0 hb' hb
      exact ⟨q1, fun hl => q2 (T.dead b (I.rel.dom _ _ hb') hl)⟩
  · exact fun b hb hl => I.tr.dead b hb (T.dead b (Nat.lt_of_lt_of_le hb I.tr.hn) hl)
  · exact fun b hb hl => I.tr.wrd b hb (T.wrd b (Nat.lt_of_lt_of_le hb I.tr.hn) hl)
  · intro B hB hO
    rw [T.frame B (Nat.lt_of_lt_of_le hB I.tr.size) ?_]
    · exact I.tr.frame B hB hO
    · intro q
      rcases I.own (hback q) with q | q
      · omega
      · exact hO q
  · intro s pl h; rw [jt] at h; exact I.box s pl h

theorem Inv.start {h : Heap} (R : MRel P ρ ⟨Boxes.nil, h⟩ w) (hb : ∀ s, ρ (true, s) = none) : Inv P ρ h w ρ ⟨Boxes.nil, h⟩ w :=
  ⟨R, Tr.refl _ _ _, fun s pl h => by rw [hb] at h; simp at h, fun b pl h => ⟨R.dom b pl h, R.bound _ _ h⟩⟩
end Go.Am
/- The abstract machine, part C: one operation. -/
namespace Go.Am
open Go

structure St where
  t : Fr
  m : Mem

def FRel (ρ : Rho) (T : Fr) (tmps : Array Value) : Prop := ∀ i v, T.get i = some v → ∃ v', tmps[i]? = some v' ∧ VT ρ v v'

def opnd (σ : St) : Operand → Option Value
  | .tmp i => σ.t.get i
  | .const v => if flat1 v then some v else none
  | .func f => some (.func (.func f) #[] #[])
  | .global g => if g < σ.m.h.g then some (.pointer (some ⟨g, 0, none⟩)) else none

section
variable {P : Program} {ρ0 ρ ρ' : Rho} {h0 : Heap} {w0 w : World} {m : Mem}

theorem VT.mono (hρ : ∀ b pl, ρ (false, b) = some pl → ρ' (false, b) = some pl) (ht : ∀ s, ρ' (true, s) = ρ (true, s)) {v v' : Value} (h : VT ρ v v') : VT ρ' v v' := by
  cases h with
  | val _ _ h => exact .val _ _ (h.mono hρ)
  | loc s off x pl h => exact .loc s off x pl (by rw [ht]; exact h)
theorem FRel.mono (hρ : ∀ b pl, ρ (false, b) = some pl → ρ' (false, b) = some pl) (ht : ∀ s, ρ' (true, s) = ρ (true, s)) {T : Fr} {tmps : Array Value} (h : FRel ρ T tmps) : FRel ρ' T tmps :=
  fun i v hi => let ⟨v', q1, q2⟩ := h i v hi; ⟨v', q1, q2.mono hρ ht⟩
theorem FRel.put {T : Fr} {tmps : Array Value} (h : FRel ρ T tmps) {i : Nat} (hi : i < tmps.size) {v v' : Value} (hv : VT ρ v v') : FRel ρ (T.put i v) (tmps.setIfInBounds i v') := by
  intro j u hj
  simp only [Fr.put, Fr.get] at hj
  split at hj
  · rename_i e; subst e; obtain rfl := Option.some.inj hj
    exact ⟨v', by rw [Array.getElem?_setIfInBounds_self_of_lt hi], hv⟩
  · rename_i e
    obtain ⟨u', q1, q2⟩ := h j u hj
    exact ⟨u', by rw [Array.getElem?_setIfInBounds_ne e]; exact q1, q2⟩
theorem FRel.prune {T : Fr} {tmps : Array Value} (h : FRel ρ T tmps) (l : List Nat) : FRel ρ (T.prune l) tmps := fun i v hi => h i v (Fr.get_prune T i v l hi)
/-- a new box at slot s: what pointed to the elder one is forgotten -/
theorem FRel.scrub {T : Fr} {tmps : Array Value} (h : FRel ρ T tmps) (s : Nat) (pl : Pl) : FRel (ρ.upd (true, s) pl) (T.scrub s) tmps := by
  intro i v hi
  rw [Fr.get_scrub] at hi
  unfold scrub1 at hi
  split at hi
  · rename_i u hu
    obtain ⟨u', q1, q2⟩ := h i u hu
    split at hi
    · rename_i s' hs'
      split at hi
      · simp at hi
      · rename_i hne
        obtain rfl := Option.some.inj hi
        refine ⟨u', q1, ?_⟩
        cases q2 with
        | val _ _ q => exact .val _ _ (q.mono fun b p z => by rw [Rho.upd_ne _ _ (by simp)]; exact z)
        | loc s2 off x p z =>
          simp only [locOf, Option.some.injEq] at hs'; subst hs'
          exact .loc _ off x p (by rw [Rho.upd_ne _ _ (by simpa using hne)]; exact z)
    · rename_i hnone
      obtain rfl := Option.some.inj hi
      refine ⟨u', q1, ?_⟩
      cases q2 with
      | val _ _ q => exact .val _ _ (q.mono fun b p z => by rw [Rho.upd_ne _ _ (by simp)]; exact z)
      | loc s2 off x p z => simp [locOf] at hnone
  · simp at hi

theorem opnd_sound {σ : St} (I : Inv P ρ0 h0 w0 ρ σ.m w) {a : Act} (F : FRel ρ σ.t a.tmps) {x : Operand} {v : Value} (h : opnd σ x = some v) : VT ρ v (a.eval x) := by
  cases x with
  | tmp i =>
    obtain ⟨v', q1, q2⟩ := F i v h
    have : a.eval (.tmp i) = v' := by
      simp only [Act.eval, Array.getD_eq_getD_getElem?, q1, Option.getD_some]
    rw [this]; exact q2
  | const u =>
    simp only [opnd] at h
    split at h
    · rename_i hf; obtain rfl := Option.some.inj h; exact .val _ _ (.of_flat1 hf)
    · simp at h
  | func f =>
    simp only [opnd, Option.some.injEq] at h; subst h
    exact .val _ _ (.func _ [] [] [] [] rfl rfl (by simp) (by simp))
  | global g =>
    simp only [opnd] at h
    split at h
    · rename_i hg; obtain rfl := Option.some.inj h
      obtain ⟨pl, q1, q2, q3⟩ := I.rel.glob g hg
      have := VR.ptr (ρ := ρ) g 0 pl q1
      rw [q2, q3] at this
      exact .val _ _ this
    · simp at h

/-! ### pure operations: no memory, no address -/
def _root_.Go.Sem.pureRun {α : Type} (P : Program) : Sem α → Option α
  | .pure a => some a
  | .program k => (k P).pureRun P
  | .mark _ k => k.pureRun P
  | _ => none
theorem pureRun_run {α : Type} (P : Program) (s : Sem α) (a : α) (h : s.pureRun P = some a) (w : World) : s.run P w = .ok a w := by
  induction s with
  | pure b => simp [Sem.pureRun] at h; subst h; rfl
  | program k ih => exact ih P h
  | mark m k ih => exact ih h
  | _ => simp [Sem.pureRun] at h
theorem pureRun_bind {α β : Type} (P : Program) (s : Sem α) (f : α → Sem β) : (s >>= f).pureRun P = (s.pureRun P).bind fun a => (f a).pureRun P := by
  induction s with
  | pure b => rfl
  | program k ih => exact ih P
  | mark m k ih => exact ih
  | _ => rfl
theorem pureRun_pure {α : Type} (P : Program) (a : α) : (pure a : Sem α).pureRun P = some a := rfl
theorem pureRun_program (P : Program) : program.pureRun P = some P := rfl

def evO (σ : St) : Operand → Value := fun x => (opnd σ x).getD undef
def isSelect : Op → Bool
  | .select .. => true
  | _ => false
def flatO (σ : St) (x : Operand) : Bool := match opnd σ x with
  | some v => flat2 v
  | none => false
def pureOp (P : Program) (σ : St) (o : Oper) : Option Value :=
  if o.op.operands.toList.all (flatO σ) && !isSelect o.op then
    match (execOp (evO σ) o).pureRun P with
    | some (.value v) => if flat2 v then some v else none
    | _ => none
  else none

def outV : Next → Option Value
  | .value v => some v
  | .skip => some undef
  | _ => none

/-- what is to be shown of one operation -/
def StepOK (P : Program) (o : Oper) (σ : St) (v : Value) (σ' : St) : Prop :=
  ∀ (ρ0 : Rho) (h0 : Heap) (w0 : World) (ρ : Rho) (a : Act) (w : World), Inv P ρ0 h0 w0 ρ σ.m w → FRel ρ σ.t a.tmps →
    ∃ nx v' w' ρ', (execOp a.eval o).run P w = .ok nx w' ∧ outV nx = some v' ∧ Inv P ρ0 h0 w0 ρ' σ'.m w' ∧ FRel ρ' σ'.t a.tmps ∧ VT ρ' v v' ∧
      ∀ s, (∀ d, o.dst = some d → d ≠ s) → ρ' (true, s) = ρ (true, s) ∧ (ρ (true, s) = none → σ'.m.x s = σ.m.x s)

theorem pureOp_ok {σ : St} {o : Oper} {v : Value} (h : pureOp P σ o = some v) : StepOK P o σ v σ := by
  intro ρ0 h0 w0 ρ a w I F
  unfold pureOp at h
  split at h
  · rename_i hall
    rw [Bool.and_eq_true] at hall
    obtain ⟨hall, hsel⟩ := hall
    rw [List.all_eq_true] at hall
    have hev : ∀ x ∈ o.op.operands, a.eval x = evO σ x := fun x hx => by
      have := hall x (by simpa using hx)
      unfold flatO at this
      cases ho : opnd σ x with
      | none => simp [ho] at this
      | some u =>
        rw [ho] at this
        rw [(opnd_sound I F ho).flat2 this]
        simp [evO, ho]
    have hc : execOp a.eval o = execOp (evO σ) o := execOp_congr o (fun cs b e => by simp [e, isSelect] at hsel) hev
    split at h
    · rename_i u hu
      split at h
      · rename_i hf
        obtain rfl := Option.some.inj h
        exact ⟨_, u, w, ρ, by rw [hc]; exact pureRun_run P _ _ hu w, rfl, I, F, .of_flat2 hf, fun _ _ => ⟨rfl, fun _ => rfl⟩⟩
      · simp at h
    · simp at h
  · simp at h
end
end Go.Am
/- The abstract machine, part D: the operations that go beyond plain values. -/
namespace Go.Am
open Go

section
variable {P : Program} {ρ0 ρ ρ' : Rho} {h0 : Heap} {w0 w : World} {m : Mem}

def key (ad : Addr) : Key := (ad.spot.isSome, ad.block)
def offA (ad : Addr) (n : Nat) : Addr := ⟨ad.block, ad.off + n, ad.spot⟩

theorem VT.ptr {ad : Addr} {v' : Value} (h : VT ρ (.pointer (some ad)) v') : ∃ pl, ρ (key ad) = some pl ∧ v' = .pointer (some ⟨pl.B, pl.o + ad.off, none⟩) := by
  cases h with
  | val _ _ h => cases h with | ptr b off pl h => exact ⟨pl, h, rfl⟩
  | loc s off x pl h => exact ⟨pl, h, rfl⟩
theorem VT.ofPtr {ad : Addr} {pl : Pl} (h : ρ (key ad) = some pl) : VT ρ (.pointer (some ad)) (.pointer (some ⟨pl.B, pl.o + ad.off, none⟩)) := by
  obtain ⟨b, off, sp⟩ := ad
  cases sp with
  | none => exact .val _ _ (.ptr b off pl h)
  | some x => exact .loc b off x pl h
theorem VT.offA {ad : Addr} {pl : Pl} (h : ρ (key ad) = some pl) (n : Nat) : VT ρ (.pointer (some (Am.offA ad n))) (.pointer (some ((⟨pl.B, pl.o + ad.off, none⟩ : Addr).add n))) := by
  have := VT.ofPtr (ad := Am.offA ad n) (pl := pl) h
  rw [Addr.add_lit]
  simpa [Am.offA, Nat.add_assoc] using this

def Mem.cells (m : Mem) (ad : Addr) (n : Nat) : Option (List Value) :=
  match m.row? (key ad) with
  | some (_, _, cs) => if ad.off + n ≤ cs.length then some ((cs.drop ad.off).take n) else none
  | none => none

theorem cell?_heap {w : World} {B : Nat} {C : Array Value} {e : TypeId} {fz : Nat × Nat} (h : w.heap[B]? = some (.cells C e fz)) (o : Nat) : w.cell? ⟨B, o, none⟩ = C[o]? := by
  simp [World.cell?, h]

theorem cells_sound (I : Inv P ρ0 h0 w0 ρ m w) {ad : Addr} {pl : Pl} (hk : ρ (key ad) = some pl) {n : Nat} {l : List Value} (h : m.cells ad n = some l) :
    l.length = n ∧ ∃ l' : List Value, l'.length = n ∧ (∀ (i : Nat) (v : Value), l[i]? = some v → ∃ v', l'[i]? = some v' ∧ VR ρ v v') ∧
      ∀ (j : Nat) (v : Value), l'[j]? = some v → w.cell? ((⟨pl.B, pl.o + ad.off, none⟩ : Addr).add j) = some v := by
  unfold Mem.cells at h
  split at h
  · rename_i wr e cs hr
    split at h
    · rename_i hle
      obtain rfl := Option.some.inj h
      obtain ⟨C, e', fz, c1, c2, c3, c4, c5, c6⟩ := I.rel.row _ _ _ _ _ hk hr
      have hsz : pl.o + ad.off + n ≤ C.size := by omega
      refine ⟨by simp; omega, (C.toList.drop (pl.o + ad.off)).take n, by simp; omega, fun i v hi => ?_, fun j v hj => ?_⟩
      · rw [List.getElem?_take] at hi
        split at hi
        · rename_i hin
          rw [List.getElem?_drop] at hi
          obtain ⟨v', q1, q2⟩ := c6 _ _ hi
          refine ⟨v', ?_, q2⟩
          rw [List.getElem?_take, if_pos hin, List.getElem?_drop, Array.getElem?_toList, Nat.add_assoc]
          exact q1
        · simp at hi
      · rw [List.getElem?_take] at hj
        split at hj
        · rw [List.getElem?_drop, Array.getElem?_toList] at hj
          rw [Addr.add_lit, cell?_heap c1]
          exact hj
        · simp at hj
    · simp at h
  · simp at h

theorem vrs_agg {l l' : List Value} (hl : l.length = l'.length) (h : ∀ (i : Nat) (v : Value), l[i]? = some v → ∃ v', l'[i]? = some v' ∧ VR ρ v v') : VR ρ (.agg ⟨l⟩) (.agg ⟨l'⟩) :=
  .agg l l' hl ((vrs_zip hl).2 h)

/-- is a type a struct or an array? -/
def aggT (P : Program) (t : TypeId) : Option Bool :=
  match P.underlying t with
  | some (.struct _) | some (.array _ _) => some true
  | some _ => some false
  | none => none
theorem run_isAgg {t : TypeId} {b : Bool} (h : aggT P t = some b) (w : World) : (isAgg t).run P w = .ok b w := by
  unfold aggT at h
  unfold isAgg
  cases hu : P.underlying t with
  | none => simp [hu] at h
  | some d =>
    rw [hu] at h
    simp only [Sem.run_bind, run_underlying hu, Result.andThen_ok]
    cases d <;> simp_all
/-- a type's number of cells, if there is one -/
def szT (P : Program) (t : TypeId) : Option Nat := (P.info? t).map (·.size)
theorem run_sizeOf {t : TypeId} {n : Nat} (h : szT P t = some n) (w : World) : (sizeOf t).run P w = .ok n w := by
  unfold szT at h
  cases hi : P.info? t with
  | none => simp [hi] at h
  | some i => simp [hi] at h; simp [sizeOf, typeInfo, hi, h]

/-! #### moves -/
def opMove (σ : St) (x : Operand) : Option (Value × St) := match opnd σ x with | some v => some (v, σ) | none => none
theorem opMove_ok {σ σ' : St} {o : Oper} {x : Operand} (ho : o.op = .move x ∨ o.op = .assign x) {v : Value} (h : opMove σ x = some (v, σ')) : StepOK P o σ v σ' := by
  intro ρ0 h0 w0 ρ a w I F
  unfold opMove at h
  split at h
  · rename_i u hu
    simp only [Option.some.injEq, Prod.mk.injEq] at h
    obtain ⟨rfl, rfl⟩ := h
    refine ⟨.value (a.eval x), _, w, ρ, ?_, rfl, I, F, opnd_sound I F hu, fun _ _ => ⟨rfl, fun _ => rfl⟩⟩
    rcases ho with ho | ho <;> simp [execOp, ho]
  · simp at h

def opPick (σ : St) (c x y : Operand) : Option (Value × St) :=
  match opnd σ c with
  | some (.bool b) => match opnd σ (if b then x else y) with
    | some v => some (v, σ)
    | none => none
  | _ => none
theorem opPick_ok {σ σ' : St} {o : Oper} {c x y : Operand} (ho : o.op = .pick c x y) {v : Value} (h : opPick σ c x y = some (v, σ')) : StepOK P o σ v σ' := by
  intro ρ0 h0 w0 ρ a w I F
  unfold opPick at h
  split at h
  · rename_i b hb
    split at h
    · rename_i u hu
      simp only [Option.some.injEq, Prod.mk.injEq] at h
      obtain ⟨rfl, rfl⟩ := h
      have hc := (opnd_sound I F hb).flat2 rfl
      refine ⟨.value (a.eval (if b then x else y)), _, w, ρ, ?_, rfl, I, F, opnd_sound I F hu, fun _ _ => ⟨rfl, fun _ => rfl⟩⟩
      simp only [execOp, ho, hc, asBool]
      cases b <;> simp
    · simp at h
  · simp at h

/-! #### memory is read -/
def opLoad (P : Program) (σ : St) (t : TypeId) (x : Operand) : Option (Value × St) :=
  match opnd σ x with
  | some (.pointer (some ad)) =>
    match aggT P t, szT P t with
    | some true, some n => match σ.m.cells ad n with
      | some l => some (.agg ⟨l⟩, σ)
      | none => none
    | some false, _ => match σ.m.cells ad 1 with
      | some [v] => some (v, σ)
      | _ => none
    | _, _ => none
  | _ => none
theorem opLoad_ok {σ σ' : St} {o : Oper} {t : TypeId} {x : Operand} (ho : o.op = .load t x) {v : Value} (h : opLoad P σ t x = some (v, σ')) : StepOK P o σ v σ' := by
  intro ρ0 h0 w0 ρ a w I F
  unfold opLoad at h
  split at h
  · rename_i ad hx
    obtain ⟨pl, hk, hv⟩ := (opnd_sound I F hx).ptr
    split at h
    · rename_i n hagg hsz
      split at h
      · rename_i l hl
        simp only [Option.some.injEq, Prod.mk.injEq] at h
        obtain ⟨rfl, rfl⟩ := h
        obtain ⟨q1, l', q2, q3, q4⟩ := cells_sound I hk hl
        have hrun := run_loadCells_list (P := P) w ⟨pl.B, pl.o + ad.off, none⟩ l' q4
        rw [q2] at hrun
        refine ⟨.value (.agg ⟨l'⟩), .agg ⟨l'⟩, w, ρ, ?_, rfl, I, F, .val _ _ (vrs_agg (q1.trans q2.symm) q3), fun _ _ => ⟨rfl, fun _ => rfl⟩⟩
        simp [execOp, ho, Instr.loadAt, hv, Instr.sureAddr, loadVar, run_isAgg hagg, run_sizeOf hsz, hrun]
      · simp at h
    · rename_i hagg
      split at h
      · rename_i v1 hl
        simp only [Option.some.injEq, Prod.mk.injEq] at h
        obtain ⟨rfl, rfl⟩ := h
        obtain ⟨q1, l', q2, q3, q4⟩ := cells_sound I hk hl
        obtain ⟨v', e1, e2⟩ := q3 0 v1 rfl
        have hc := q4 0 v' e1
        rw [Addr.add_zero'] at hc
        refine ⟨.value v', v', w, ρ, ?_, rfl, I, F, .val _ _ e2, fun _ _ => ⟨rfl, fun _ => rfl⟩⟩
        simp [execOp, ho, Instr.loadAt, hv, Instr.sureAddr, loadVar, run_isAgg hagg, hc]
      · simp at h
    · simp at h
  · simp at h

/-! #### new memory -/
def one (v : Value) : Bool := v.oneCell'
/-- a new variable of type e with these cells: a box of this frame, or a row of the heap -/
def St.newVar (σ : St) (loc : List Nat) (dst : Option Nat) (e : TypeId) (cs : List Value) : Option (Value × St) :=
  match dst with
  | some s => if loc.contains s then some (.pointer (some ⟨s, 0, some 0⟩), ⟨σ.t.scrub s, ⟨σ.m.x.set s (e, cs), σ.m.h⟩⟩)
    else some (.pointer (some ⟨σ.m.h.n, 0, none⟩), ⟨σ.t, ⟨σ.m.x, σ.m.h.new (.row true e cs)⟩⟩)
  | none => none

theorem newVar_ok {σ σ' : St} {loc : List Nat} {dst : Option Nat} {e e' : TypeId} {cs : List Value} {v : Value} (h : σ.newVar loc dst e cs = some (v, σ'))
    (I : Inv P ρ0 h0 w0 ρ σ.m w) {a : Act} (F : FRel ρ σ.t a.tmps) {C : Array Value} (hn : cs.length ≤ C.size)
    (hc : ∀ (i : Nat) (v : Value), cs[i]? = some v → ∃ v', C[i]? = some v' ∧ VR ρ v v') :
    ∃ ρ', Inv P ρ0 h0 w0 ρ' σ'.m (w.alloc (.cells C e')) ∧ FRel ρ' σ'.t a.tmps ∧ VT ρ' v (.pointer (some ⟨w.heap.size, 0, none⟩)) ∧
      ∀ s, (∀ d, dst = some d → d ≠ s) → ρ' (true, s) = ρ (true, s) ∧ (ρ (true, s) = none → σ'.m.x s = σ.m.x s) := by
  unfold St.newVar at h
  have hfit : Fits P ρ (.row true e cs) (.cells C e' (0, 0)) ⟨w.heap.size, 0, C.size, P.cellsOf e⟩ := .row e e' cs C _ hn hc
  split at h
  · rename_i s
    split at h
    · simp only [Option.some.injEq, Prod.mk.injEq] at h
      obtain ⟨rfl, rfl⟩ := h
      refine ⟨_, I.newB s hfit rfl, F.scrub s _, ?_, fun s' hs' => ⟨Rho.upd_ne _ _ (by have := hs' s rfl; simp; exact fun z => this z.symm), fun _ => by simp only [Boxes.set]; rw [if_neg (hs' s rfl)]⟩⟩
      have := VT.ofPtr (ρ := ρ.upd (true, s) ⟨w.heap.size, 0, C.size, P.cellsOf e⟩) (ad := ⟨s, 0, some 0⟩) (pl := ⟨w.heap.size, 0, C.size, P.cellsOf e⟩) (by simp [key, Rho.upd])
      simpa using this
    · simp only [Option.some.injEq, Prod.mk.injEq] at h
      obtain ⟨rfl, rfl⟩ := h
      have hnone : ∀ pl', ρ (false, σ.m.h.n) ≠ some pl' := fun pl' h => Nat.lt_irrefl _ (I.rel.dom _ _ h)
      refine ⟨_, I.newH hfit rfl, F.mono (fun b pl q => ?_) (fun s => Rho.upd_ne _ _ (by simp)), ?_, fun s' _ => ⟨Rho.upd_ne _ _ (by simp), fun _ => rfl⟩⟩
      · rw [Rho.upd_ne]; exact q
        intro z; simp only [Prod.mk.injEq, true_and] at z; subst z; exact hnone _ q
      · have := VT.ofPtr (ρ := ρ.upd (false, σ.m.h.n) ⟨w.heap.size, 0, C.size, P.cellsOf e⟩) (ad := ⟨σ.m.h.n, 0, none⟩) (pl := ⟨w.heap.size, 0, C.size, P.cellsOf e⟩) (by simp [key, Rho.upd])
        simpa using this
  · simp at h

def zeroT (P : Program) (t : TypeId) : Option (List Value) :=
  match P.info? t with
  | some i => match i.zero with
    | some z => if z.cells.toList.all flat1 then some z.cells.toList else none
    | none => none
  | none => none
theorem run_zeroValue {t : TypeId} {l : List Value} (h : zeroT P t = some l) : ∃ z, z.cells = ⟨l⟩ ∧ (∀ v ∈ l, flat1 v = true) ∧ ∀ w, (zeroValue t).run P w = .ok z w := by
  unfold zeroT at h
  cases hi : P.info? t with
  | none => simp [hi] at h
  | some i =>
    simp only [hi] at h
    cases hz : i.zero with
    | none => simp [hz] at h
    | some z =>
      simp only [hz] at h
      split at h
      · rename_i hall
        obtain rfl := Option.some.inj h
        exact ⟨z, by simp, fun v hv => List.all_eq_true.mp hall v hv, fun w => by simp [zeroValue, typeInfo, hi, hz]⟩
      · simp at h
theorem flat_self {l : List Value} (h : ∀ v ∈ l, flat1 v = true) : ∀ (i : Nat) (v : Value), l[i]? = some v → ∃ v', (⟨l⟩ : Array Value)[i]? = some v' ∧ VR ρ v v' :=
  fun i v hi => ⟨v, by simpa using hi, .of_flat1 (h v (List.mem_of_getElem? hi))⟩

def opAlloc (P : Program) (loc : List Nat) (σ : St) (dst : Option Nat) (t : TypeId) : Option (Value × St) :=
  match zeroT P t with
  | some l => σ.newVar loc dst t l
  | none => none
theorem opAlloc_ok {σ σ' : St} {o : Oper} {loc : List Nat} {t : TypeId} (ho : o.op = .alloc t) {v : Value} (h : opAlloc P loc σ o.dst t = some (v, σ')) : StepOK P o σ v σ' := by
  intro ρ0 h0 w0 ρ a w I F
  unfold opAlloc at h
  split at h
  · rename_i l hl
    obtain ⟨z, hz, hf, hrun⟩ := run_zeroValue hl
    obtain ⟨ρ', J, F', V, X⟩ := newVar_ok (e' := t) (C := ⟨l⟩) h I F (by simp) (flat_self hf)
    refine ⟨.value (.pointer (some ⟨w.heap.size, 0, none⟩)), _, _, ρ', ?_, rfl, J, F', V, X⟩
    simp [execOp, ho, Instr.alloc, hrun, newVar, newRow, hz]
  · simp at h

theorem VR.cells {v v' : Value} (h : VR ρ v v') : v.cells.toList.length = v'.cells.toList.length ∧ ∀ (i : Nat) (u : Value), v.cells.toList[i]? = some u → ∃ u', v'.cells.toList[i]? = some u' ∧ VR ρ u u' := by
  have triv : ∀ {v v' : Value}, VR ρ v v' → v.cells = #[v] → v'.cells = #[v'] → v.cells.toList.length = v'.cells.toList.length ∧ ∀ (i : Nat) (u : Value), v.cells.toList[i]? = some u → ∃ u', v'.cells.toList[i]? = some u' ∧ VR ρ u u' := by
    intro v v' h e1 e2
    rw [e1, e2]
    refine ⟨rfl, fun i u hi => ?_⟩
    cases i with
    | zero => simp at hi; subst hi; exact ⟨v', rfl, h⟩
    | succ i => simp at hi
  cases h with
  | agg cs ds hl h => exact ⟨hl, (vrs_zip hl).1 h⟩
  | bool b => exact triv (.bool b) rfl rfl
  | int k n => exact triv (.int k n) rfl rfl
  | string s => exact triv (.string s) rfl rfl
  | nilp => exact triv .nilp rfl rfl
  | nilm => exact triv .nilm rfl rfl
  | nilf => exact triv .nilf rfl rfl
  | nili => exact triv .nili rfl rfl
  | ptr b off pl h => exact triv (.ptr b off pl h) rfl rfl
  | mp b pl h => exact triv (.mp b pl h) rfl rfl
  | sln => exact triv .sln rfl rfl
  | sl0 a a' c => exact triv (.sl0 a a' c) rfl rfl
  | sl b off len c pl cap h hc hn => exact triv (.sl b off len c pl cap h hc hn) rfl rfl
  | iface t v v' h => exact triv (.iface t v v' h) rfl rfl
  | tuple cs ds hl h => exact triv (.tuple cs ds hl h) rfl rfl
  | func fn as as' cs ds ha hl h1 h => exact triv (.func fn as as' cs ds ha hl h1 h) rfl rfl

def opBox (loc : List Nat) (σ : St) (dst : Option Nat) (t : TypeId) (x : Operand) : Option (Value × St) :=
  match opnd σ x with
  | some v => if noLoc v then σ.newVar loc dst t v.cells.toList else none
  | none => none
theorem opBox_ok {σ σ' : St} {o : Oper} {loc : List Nat} {t : TypeId} {x : Operand} (ho : o.op = .box t x) {v : Value} (h : opBox loc σ o.dst t x = some (v, σ')) : StepOK P o σ v σ' := by
  intro ρ0 h0 w0 ρ a w I F
  unfold opBox at h
  split at h
  · rename_i u hu
    split at h
    · rename_i hnl
      have hc := ((opnd_sound I F hu).noLoc hnl).cells
      obtain ⟨ρ', J, F', V, X⟩ := newVar_ok (e' := t) (C := (a.eval x).cells) h I F (by rw [hc.1]; simp) (fun i v hi => by simpa using hc.2 i v hi)
      refine ⟨.value (.pointer (some ⟨w.heap.size, 0, none⟩)), _, _, ρ', ?_, rfl, J, F', V, X⟩
      simp [execOp, ho, Instr.box, newVar, newRow]
    · simp at h
  · simp at h

/-! #### stores -/
def setL (cs : List Value) (j : Nat) (vs : List Value) : List Value := cs.take j ++ vs ++ cs.drop (j + vs.length)
def opStore (P : Program) (σ : St) (t : TypeId) (x y : Operand) : Option (Value × St) :=
  match opnd σ x, opnd σ y with
  | some (.pointer (some ad)), some v =>
    match σ.m.row? (key ad), szT P t with
    | some (true, e, cs), some n =>
      if noLoc v && v.cells.toList.length == n && v.cells.toList.all one && decide (ad.off + n ≤ cs.length) then
        some (undef, ⟨σ.t, σ.m.setRow (key ad) e (setL cs ad.off v.cells.toList)⟩)
      else none
    | _, _ => none
  | _, _ => none
theorem VR.one {v v' : Value} (h : VR ρ v v') (ho : Am.one v = true) : v'.oneCell' = true := by
  cases h <;> simp_all [Am.one, Value.oneCell']
theorem setRow_world (w : World) (g : Nat) (cs : Array Value) : w.setRow g cs = { w with heap := (w.setRow g cs).heap } := rfl
theorem setRow_size (w : World) (g : Nat) (cs : Array Value) : (w.setRow g cs).heap.size = w.heap.size := by simp [World.setRow]
theorem setRow_ne (w : World) (g : Nat) (cs : Array Value) {B : Nat} (h : B ≠ g) : (w.setRow g cs).heap[B]? = w.heap[B]? := by
  simp only [World.setRow, Array.getElem?_modify]
  rw [if_neg (Ne.symm h)]
theorem setRow_eq (w : World) (g : Nat) (cs : Array Value) {C : Array Value} {e : TypeId} {fz : Nat × Nat} (h : w.heap[g]? = some (.cells C e fz)) : (w.setRow g cs).heap[g]? = some (.cells cs e fz) := by
  simp only [World.setRow, Array.getElem?_modify, h]
  rfl
theorem getElem?_splice (C vs : List Value) (j i : Nat) (h : j + vs.length ≤ C.length) :
    (C.take j ++ vs ++ C.drop (j + vs.length))[i]? = if i < j then C[i]? else if i < j + vs.length then vs[i - j]? else C[i]? := by
  have hl : (C.take j).length = j := by simp; omega
  by_cases h1 : i < j
  · rw [if_pos h1, List.append_assoc, List.getElem?_append_left (by omega), List.getElem?_take, if_pos h1]
  · rw [if_neg h1]
    by_cases h2 : i < j + vs.length
    · rw [if_pos h2, List.getElem?_append_left (by simp; omega), List.getElem?_append_right (by omega), hl]
    · rw [if_neg h2, List.getElem?_append_right (by simp; omega), List.getElem?_drop]
      congr 1
      simp; omega
/-- cells are written into a row: world and abstract row go together -/
theorem splice_rel {cs vs vs' : List Value} {C : Array Value} {o off n : Nat} (hlen : vs.length = vs'.length) (hin : off + vs.length ≤ cs.length) (hn : cs.length ≤ n) (hC : o + n ≤ C.size)
    (h : ∀ (i : Nat) (v : Value), cs[i]? = some v → ∃ v', C[o + i]? = some v' ∧ VR ρ v v')
    (hv : ∀ (i : Nat) (v : Value), vs[i]? = some v → ∃ v', vs'[i]? = some v' ∧ VR ρ v v') :
    ∀ (i : Nat) (v : Value), (setL cs off vs)[i]? = some v → ∃ v', (C.toList.take (o + off) ++ vs' ++ C.toList.drop (o + off + vs'.length)).toArray[o + i]? = some v' ∧ VR ρ v v' := by
  intro i v hi
  unfold setL at hi
  rw [getElem?_splice _ _ _ _ hin] at hi
  rw [List.getElem?_toArray, getElem?_splice _ _ _ _ (by rw [← hlen]; simp only [Array.length_toList]; omega)]
  by_cases h1 : i < off
  · rw [if_pos h1] at hi
    rw [if_pos (by omega), Array.getElem?_toList]
    exact h i v hi
  · rw [if_neg h1] at hi
    rw [if_neg (by omega)]
    by_cases h2 : i < off + vs.length
    · rw [if_pos h2] at hi
      rw [if_pos (by omega), show o + i - (o + off) = i - off by omega]
      exact hv _ v hi
    · rw [if_neg h2] at hi
      rw [if_neg (by omega), Array.getElem?_toList]
      exact h i v hi
theorem opStore_ok {σ σ' : St} {o : Oper} {t : TypeId} {x y : Operand} (ho : o.op = .store t x y) {v : Value} (h : opStore P σ t x y = some (v, σ')) : StepOK P o σ v σ' := by
  intro ρ0 h0 w0 ρ a w I F
  unfold opStore at h
  split at h
  · rename_i ad u hx hy
    split at h
    · rename_i e cs n hr hsz
      split at h
      · rename_i hall
        simp only [Bool.and_eq_true, beq_iff_eq, decide_eq_true_eq] at hall
        obtain ⟨⟨⟨hnl, hlen⟩, hone⟩, hin⟩ := hall
        simp only [Option.some.injEq, Prod.mk.injEq] at h
        obtain ⟨rfl, rfl⟩ := h
        obtain ⟨pl, hk, hv⟩ := (opnd_sound I F hx).ptr
        have hc := ((opnd_sound I F hy).noLoc hnl).cells
        obtain ⟨C, e', fz, c1, c2, c3, c4, c5, c6⟩ := I.rel.row _ _ _ _ _ hk hr
        obtain rfl := c2 rfl
        have hone' : ∀ z ∈ (a.eval y).cells.toList, z.oneCell' = true := fun z hz => by
          rw [List.mem_iff_getElem?] at hz
          obtain ⟨i, hi⟩ := hz
          have hlt : i < (a.eval y).cells.toList.length := by
            rcases Nat.lt_or_ge i (a.eval y).cells.toList.length with q | q
            · exact q
            · rw [List.getElem?_eq_none q] at hi; cases hi
          rw [← hc.1] at hlt
          obtain ⟨z', q1, q2⟩ := hc.2 i _ (List.getElem?_eq_getElem hlt)
          rw [hi] at q1
          obtain rfl := Option.some.inj q1
          exact q2.one (List.all_eq_true.mp hone _ (List.getElem_mem hlt))
        have hst := run_storeCells_at P pl.B (pl.o + ad.off) e' (a.eval y).cells.toList 0 C w c1 (by rw [← hc.1]; omega) hone'
        simp only [Nat.add_zero] at hst
        refine ⟨.skip, undef, w.setRow pl.B (C.toList.take (pl.o + ad.off) ++ (a.eval y).cells.toList ++ C.toList.drop (pl.o + ad.off + (a.eval y).cells.toList.length)).toArray, ρ, ?_, rfl, I.putRow hk hr (ds := setL cs ad.off u.cells.toList) (by simp only [setL, List.length_append, List.length_take, List.length_drop]; omega)
          (setRow_world w pl.B _) (setRow_size w pl.B _) (fun B hB => setRow_ne w pl.B _ hB) (setRow_eq w pl.B _ c1) ?_ ?_, F, .of_flat2 rfl, fun s' _ => ⟨rfl, fun hn => ?_⟩⟩
        rotate_left 3
        · obtain ⟨b, off, sp⟩ := ad
          cases sp with
          | none => rfl
          | some z =>
            have : b ≠ s' := fun q => by subst q; simp [key] at hk; rw [hn] at hk; cases hk
            simp [key, Mem.setRow, Boxes.set, this]
        · have hsz' : (a.eval y).cells.size = n := by rw [← hlen, hc.1]; simp
          simp [execOp, ho, Instr.storeAt, hv, Instr.sureAddr, storeVar, run_sizeOf hsz, hsz', hst]
        · simp only [List.size_toArray, List.length_append, List.length_take, List.length_drop, Array.length_toList]
          have : (a.eval y).cells.toList.length = n := by rw [← hc.1, hlen]
          simp only [Array.length_toList] at this
          omega
        · exact splice_rel hc.1 (by rw [hlen]; exact hin) c3 c4 c6 hc.2
      · simp at h
    · simp at h
  · simp at h
end
end Go.Am
/- The abstract machine, part E: places, parts, slices, calls of builtins. -/
namespace Go.Am
open Go

section
variable {P : Program} {ρ0 ρ ρ' : Rho} {h0 : Heap} {w0 w : World} {m : Mem}

def fldT (P : Program) (s f : Nat) : Option Field := match P.underlying s with
  | some (.struct fs) => fs[f]?
  | _ => none
theorem fldT_some {s f : Nat} {x : Field} (h : fldT P s f = some x) : ∃ fs, P.underlying s = some (.struct fs) ∧ fs[f]? = some x := by
  unfold fldT at h
  split at h
  · rename_i fs hu; exact ⟨fs, hu, h⟩
  · simp at h
/-- a field's place and its cells; what has no cells is not served -/
def offT (P : Program) (s f : Nat) : Option (Nat × TypeId × Nat) := match fldT P s f with
  | some x => match szT P x.type with
    | some n => if n = 0 then none else some (x.offset, x.type, n)
    | none => none
  | none => none
theorem offT_some {s f off t n : Nat} (h : offT P s f = some (off, t, n)) : ∃ fs x, P.underlying s = some (.struct fs) ∧ fs[f]? = some x ∧ x.offset = off ∧ x.type = t ∧ szT P t = some n ∧ n ≠ 0 := by
  unfold offT at h
  split at h
  · rename_i x hx
    split at h
    · rename_i k hk
      split at h
      · simp at h
      · rename_i hn
        simp only [Option.some.injEq, Prod.mk.injEq] at h
        obtain ⟨rfl, rfl, rfl⟩ := h
        obtain ⟨fs, q1, q2⟩ := fldT_some hx
        exact ⟨fs, x, q1, q2, rfl, rfl, hk, hn⟩
    · simp at h
  · simp at h

def opFieldAddr (P : Program) (σ : St) (s : TypeId) (x : Operand) (f : Nat) : Option (Value × St) :=
  match opnd σ x, offT P s f with
  | some (.pointer (some ad)), some (off, _, _) => some (.pointer (some (offA ad off)), σ)
  | _, _ => none
theorem opFieldAddr_ok {σ σ' : St} {o : Oper} {s : TypeId} {x : Operand} {f : Nat} (ho : o.op = .fieldAddr s x f) {v : Value} (h : opFieldAddr P σ s x f = some (v, σ')) : StepOK P o σ v σ' := by
  intro ρ0 h0 w0 ρ a w I F
  unfold opFieldAddr at h
  split at h
  · rename_i ad off t n hx hoff
    simp only [Option.some.injEq, Prod.mk.injEq] at h
    obtain ⟨rfl, rfl⟩ := h
    obtain ⟨pl, hk, hv⟩ := (opnd_sound I F hx).ptr
    obtain ⟨fs, fd, q1, q2, rfl, rfl, q5, q6⟩ := offT_some hoff
    refine ⟨.value (.pointer (some ((⟨pl.B, pl.o + ad.off, none⟩ : Addr).add fd.offset))), _, w, ρ, ?_, rfl, I, F, VT.offA hk _, fun _ _ => ⟨rfl, fun _ => rfl⟩⟩
    simp [execOp, ho, Instr.fieldAt, run_underlying q1, q2, hv, Instr.sureAddr, fieldPlace, run_sizeOf q5, q6]
  · simp at h

theorem vrs_sub {l l' : List Value} (h : ∀ (i : Nat) (v : Value), l[i]? = some v → ∃ v', l'[i]? = some v' ∧ VR ρ v v') (off n : Nat) :
    ∀ (i : Nat) (v : Value), ((l.drop off).take n)[i]? = some v → ∃ v', ((l'.drop off).take n)[i]? = some v' ∧ VR ρ v v' := by
  intro i v hi
  rw [List.getElem?_take] at hi
  split at hi
  · rename_i hin
    rw [List.getElem?_drop] at hi
    obtain ⟨v', q1, q2⟩ := h _ _ hi
    exact ⟨v', by rw [List.getElem?_take, if_pos hin, List.getElem?_drop]; exact q1, q2⟩
  · simp at hi
/-- a part of a struct's cells -/
def partL (P : Program) (t : TypeId) (n : Nat) (cs : List Value) (off : Nat) : Option Value :=
  match aggT P t with
  | some true => some (.agg ⟨(cs.drop off).take n⟩)
  | some false => cs[off]?
  | none => none
theorem partL_ok {t : TypeId} {n off : Nat} {cs ds : List Value} {v : Value} (hn : szT P t = some n) (h : partL P t n cs off = some v) (hl : cs.length = ds.length)
    (hc : ∀ (i : Nat) (v : Value), cs[i]? = some v → ∃ v', ds[i]? = some v' ∧ VR ρ v v') (w : World) :
    ∃ v', (part t ⟨ds⟩ off).run P w = .ok v' w ∧ VR ρ v v' := by
  unfold partL at h
  split at h
  · rename_i ha
    obtain rfl := Option.some.inj h
    refine ⟨.agg ⟨(ds.drop off).take n⟩, ?_, vrs_agg (by simp [hl]) (vrs_sub hc off n)⟩
    simp only [part, Sem.run_bind, run_isAgg ha, Result.andThen_ok, if_true, run_sizeOf hn, Sem.run_pure]
    congr 2
    simp [List.extract_toArray]
  · rename_i ha
    obtain ⟨v', q1, q2⟩ := hc _ _ h
    refine ⟨v', ?_, q2⟩
    simp [part, run_isAgg ha, q1]
  · simp at h

def opField (P : Program) (σ : St) (s : TypeId) (x : Operand) (f : Nat) : Option (Value × St) :=
  match opnd σ x, offT P s f with
  | some (.agg cs), some (off, t, n) => match partL P t n cs.toList off with
    | some v => some (v, σ)
    | none => none
  | _, _ => none
theorem opField_ok {σ σ' : St} {o : Oper} {s : TypeId} {x : Operand} {f : Nat} (ho : o.op = .field s x f) {v : Value} (h : opField P σ s x f = some (v, σ')) : StepOK P o σ v σ' := by
  intro ρ0 h0 w0 ρ a w I F
  unfold opField at h
  split at h
  · rename_i cs off t n hx hoff
    split at h
    · rename_i u hu
      simp only [Option.some.injEq, Prod.mk.injEq] at h
      obtain ⟨rfl, rfl⟩ := h
      obtain ⟨fs, fd, q1, q2, rfl, rfl, q5, q6⟩ := offT_some hoff
      have hv := (opnd_sound I F hx).noLoc rfl
      generalize hx' : a.eval x = x' at hv
      cases hv with
      | agg cs ds hl hz =>
        obtain ⟨v', e1, e2⟩ := partL_ok q5 hu hl ((vrs_zip hl).1 hz) w
        refine ⟨.value v', _, w, ρ, ?_, rfl, I, F, .val _ _ e2, fun _ _ => ⟨rfl, fun _ => rfl⟩⟩
        simp [execOp, ho, Instr.field, run_underlying q1, q2, hx', asAgg, e1]
    · simp at h
  · simp at h

def elemT (P : Program) (t : TypeId) : Option (TypeId × Nat) := match P.underlying t with
  | some (.slice e) => match szT P e with
    | some n => some (e, n)
    | none => none
  | _ => none
theorem elemT_some {t e n : Nat} (h : elemT P t = some (e, n)) : P.underlying t = some (.slice e) ∧ szT P e = some n := by
  unfold elemT at h
  split at h
  · rename_i e' hu
    split at h
    · rename_i n' hn
      simp only [Option.some.injEq, Prod.mk.injEq] at h
      obtain ⟨rfl, rfl⟩ := h
      exact ⟨hu, hn⟩
    · simp at h
  · simp at h
theorem VR.slice_some {ad : Addr} {len c : Nat} {v' : Value} (h : VR ρ (.slice (some ad) len c) v') :
    (∃ a', len = 0 ∧ v' = .slice (some a') 0 0) ∨
    ∃ b off pl cap, ad = ⟨b, off, none⟩ ∧ ρ (false, b) = some pl ∧ len ≤ cap ∧ off + cap * pl.sz ≤ pl.n ∧ v' = .slice (some ⟨pl.B, pl.o + off, none⟩) len cap := by
  cases h with
  | sl0 a a' c => exact .inl ⟨a', rfl, rfl⟩
  | sl b off len c pl cap h hc hn => exact .inr ⟨b, off, pl, cap, rfl, h, hc, hn, rfl⟩

/-- an array's length, and the cells of an element -/
def arrT (P : Program) (t : TypeId) : Option (Nat × Nat) := match P.underlying t with
  | some (.array len e) => match szT P e with
    | some s => some (len, s)
    | none => none
  | _ => none
theorem arrT_some {t len s : Nat} (h : arrT P t = some (len, s)) : ∃ e, P.underlying t = some (.array len e) ∧ szT P e = some s := by
  unfold arrT at h
  split at h
  · rename_i l e hu
    split at h
    · rename_i s' hs
      simp only [Option.some.injEq, Prod.mk.injEq] at h
      obtain ⟨rfl, rfl⟩ := h
      exact ⟨e, hu, hs⟩
    · cases h
  · cases h
def opIndexAddr (P : Program) (σ : St) (t : TypeId) (x i : Operand) : Option (Value × St) :=
  match opnd σ x, opnd σ i with
  | some (.slice (some ad) len _), some (.int _ n) =>
    match elemT P t with
    | some (_, s) => if 0 ≤ n ∧ n < len then some (.pointer (some (offA ad (n.toNat * s))), σ) else none
    | none => none
  | some (.pointer (some ad)), some (.int _ n) =>
    match arrT P t with
    | some (len, s) => if 0 ≤ n ∧ n < len then some (.pointer (some (offA ad (n.toNat * s))), σ) else none
    | none => none
  | _, _ => none
theorem opIndexAddr_ok {σ σ' : St} {o : Oper} {t : TypeId} {x i : Operand} (ho : o.op = .indexAddr t x i) {v : Value} (h : opIndexAddr P σ t x i = some (v, σ')) : StepOK P o σ v σ' := by
  intro ρ0 h0 w0 ρ a w I F
  unfold opIndexAddr at h
  split at h
  · rename_i ad len c k n hx hi
    split at h
    · rename_i e s he
      split at h
      · rename_i hin
        simp only [Option.some.injEq, Prod.mk.injEq] at h
        obtain ⟨rfl, rfl⟩ := h
        obtain ⟨q1, q2⟩ := elemT_some he
        have hv := (opnd_sound I F hx).noLoc rfl
        have hiv := (opnd_sound I F hi).flat2 rfl
        rcases hv.slice_some with ⟨a', hl, _⟩ | ⟨b, off, pl, cap, rfl, hk, hc, hn, hv'⟩
        · omega
        · refine ⟨.value (.pointer (some ((⟨pl.B, pl.o + off, none⟩ : Addr).add (n.toNat * s)))), _, w, ρ, ?_, rfl, I, F, VT.offA (ad := ⟨b, off, none⟩) hk _, fun _ _ => ⟨rfl, fun _ => rfl⟩⟩
          simp [execOp, ho, Instr.indexAt, hiv, asIntOf, run_underlying q1, hv', hin, run_sizeOf q2]
      · simp at h
    · simp at h
  · rename_i ad k n hx hi
    split at h
    · rename_i len s he
      split at h
      · rename_i hin
        simp only [Option.some.injEq, Prod.mk.injEq] at h
        obtain ⟨rfl, rfl⟩ := h
        obtain ⟨e, q1, q2⟩ := arrT_some he
        have hiv := (opnd_sound I F hi).flat2 rfl
        obtain ⟨pl, hk, hv⟩ := (opnd_sound I F hx).ptr
        refine ⟨.value (.pointer (some ((⟨pl.B, pl.o + ad.off, none⟩ : Addr).add (n.toNat * s)))), _, w, ρ, ?_, rfl, I, F, VT.offA hk _, fun _ _ => ⟨rfl, fun _ => rfl⟩⟩
        simp [execOp, ho, Instr.indexAt, hiv, asIntOf, run_underlying q1, hv, Instr.sureAddr, hin, run_sizeOf q2]
      · simp at h
    · simp at h
  · simp at h

def opExtract (σ : St) (x : Operand) (k : Nat) : Option (Value × St) :=
  match opnd σ x with
  | some (.tuple vs) => match vs.toList[k]? with
    | some v => some (v, σ)
    | none => none
  | _ => none
theorem opExtract_ok {σ σ' : St} {o : Oper} {x : Operand} {k : Nat} (ho : o.op = .extract x k) {v : Value} (h : opExtract σ x k = some (v, σ')) : StepOK P o σ v σ' := by
  intro ρ0 h0 w0 ρ a w I F
  unfold opExtract at h
  split at h
  · rename_i vs hx
    split at h
    · rename_i u hu
      simp only [Option.some.injEq, Prod.mk.injEq] at h
      obtain ⟨rfl, rfl⟩ := h
      have hv := (opnd_sound I F hx).noLoc rfl
      generalize hx' : a.eval x = x' at hv
      cases hv with
      | tuple cs ds hl hz =>
        obtain ⟨v', e1, e2⟩ := (vrs_zip hl).1 hz _ _ hu
        refine ⟨.value v', _, w, ρ, ?_, rfl, I, F, .val _ _ e2, fun _ _ => ⟨rfl, fun _ => rfl⟩⟩
        simp [execOp, ho, hx', Instr.extract, e1]
    · simp at h
  · simp at h

def opMakeIface (P : Program) (σ : St) (t : TypeId) (x : Operand) : Option (Value × St) :=
  match P.underlying t with
  | some (.interface _) => none
  | some _ => match opnd σ x with
    | some v => if noLoc v then some (.iface t v, σ) else none
    | none => none
  | none => none
theorem opMakeIface_ok {σ σ' : St} {o : Oper} {t : TypeId} {x : Operand} (ho : o.op = .makeInterface t x) {v : Value} (h : opMakeIface P σ t x = some (v, σ')) : StepOK P o σ v σ' := by
  intro ρ0 h0 w0 ρ a w I F
  unfold opMakeIface at h
  split at h
  · simp at h
  · rename_i d hni hd
    split at h
    · rename_i u hx
      split at h
      · rename_i hnl
        simp only [Option.some.injEq, Prod.mk.injEq] at h
        obtain ⟨rfl, rfl⟩ := h
        refine ⟨.value (.iface t (a.eval x)), _, w, ρ, ?_, rfl, I, F, .val _ _ (.iface _ _ _ ((opnd_sound I F hx).noLoc hnl)), fun _ _ => ⟨rfl, fun _ => rfl⟩⟩
        simp only [execOp, ho, Instr.makeInterface, Sem.run_bind, run_underlying hd, Result.andThen_ok]
        cases d <;> first | rfl | (exact absurd rfl (hni _))
      · simp at h
    · simp at h
  · simp at h

theorem mapM_opnds {σ : St} (I : Inv P ρ0 h0 w0 ρ σ.m w) {a : Act} (F : FRel ρ σ.t a.tmps) : ∀ {l : List Operand} {vs : List Value}, l.mapM (opnd σ) = some vs → vs.all noLoc = true →
    vs.length = (l.map a.eval).length ∧ ∀ (i : Nat) (v : Value), vs[i]? = some v → ∃ v', (l.map a.eval)[i]? = some v' ∧ VR ρ v v' := by
  intro l
  induction l with
  | nil => intro vs h _; simp at h; subst h; simp
  | cons x r ih =>
    intro vs h hn
    rw [List.mapM_cons] at h
    cases hx : opnd σ x with
    | none => simp [hx] at h
    | some v =>
      cases hr : r.mapM (opnd σ) with
      | none => simp [hx, hr] at h
      | some us =>
        simp [hx, hr] at h
        subst h
        simp only [List.all_cons, Bool.and_eq_true] at hn
        obtain ⟨q1, q2⟩ := ih hr hn.2
        refine ⟨by simpa using q1, fun i u hi => ?_⟩
        cases i with
        | zero => simp at hi; subst hi; exact ⟨_, rfl, (opnd_sound I F hx).noLoc hn.1⟩
        | succ i => exact q2 i u (by simpa using hi)

def opMakeFunc (σ : St) (fn : Fn) (first cap : Array Operand) : Option (Value × St) :=
  match first.toList.mapM (opnd σ), cap.toList.mapM (opnd σ) with
  | some as, some cs => if as.all noLoc && cs.all noLoc then some (.func fn ⟨as⟩ ⟨cs⟩, σ) else none
  | _, _ => none
theorem opMakeFunc_ok {σ σ' : St} {o : Oper} {fn : Fn} {first cap : Array Operand} (ho : o.op = .makeFunc fn first cap) {v : Value} (h : opMakeFunc σ fn first cap = some (v, σ')) : StepOK P o σ v σ' := by
  intro ρ0 h0 w0 ρ a w I F
  unfold opMakeFunc at h
  split at h
  · rename_i as cs ha hc
    split at h
    · rename_i hnl
      rw [Bool.and_eq_true] at hnl
      simp only [Option.some.injEq, Prod.mk.injEq] at h
      obtain ⟨rfl, rfl⟩ := h
      obtain ⟨p1, p2⟩ := mapM_opnds I F ha hnl.1
      obtain ⟨q1, q2⟩ := mapM_opnds I F hc hnl.2
      refine ⟨.value (.func fn ⟨first.toList.map a.eval⟩ ⟨cap.toList.map a.eval⟩), _, w, ρ, ?_, rfl, I, F,
        .val _ _ (.func _ _ _ _ _ p1 q1 ((vrs_zip p1).2 p2) ((vrs_zip q1).2 q2)), fun _ _ => ⟨rfl, fun _ => rfl⟩⟩
      have e1 : first.map a.eval = ⟨first.toList.map a.eval⟩ := by apply Array.ext'; simp
      have e2 : cap.map a.eval = ⟨cap.toList.map a.eval⟩ := by apply Array.ext'; simp
      simp [execOp, ho, Instr.makeFunc, e1, e2]
    · simp at h
  · simp at h

/-! #### slices -/
/-- the number of cells of an element of a row of type e -/
def szE (P : Program) (m : Mem) (b : Nat) : Option Nat := match m.row? (false, b) with
  | some (_, e, _) => some (P.cellsOf e)
  | none => none
def boundA (σ : St) (x : Option Operand) (dflt : Nat) : Option Nat := match x with
  | none => some dflt
  | some i => match opnd σ i with
    | some (.int _ n) => if 0 ≤ n then some n.toNat else none
    | _ => none
def opSlice (P : Program) (σ : St) (t : TypeId) (x : Operand) (lo hi : Option Operand) : Option (Value × St) :=
  match opnd σ x with
  | some (.slice (some ad) len _) =>
    match elemT P t, boundA σ lo 0, boundA σ hi len, szE P σ.m ad.block with
    | some (_, s), some l, some h, some s' => if l ≤ h ∧ h ≤ len ∧ s = s' then some (.slice (some (offA ad (l * s))) (h - l) (h - l), σ) else none
    | _, _, _, _ => none
  | some (.slice none 0 0) =>
    match elemT P t, boundA σ lo 0, boundA σ hi 0 with
    | some _, some 0, some 0 => some (.slice none 0 0, σ)
    | _, _, _ => none
  | _ => none
theorem run_sliceBound {σ : St} (I : Inv P ρ0 h0 w0 ρ σ.m w) {a : Act} (F : FRel ρ σ.t a.tmps) {i : Operand} {dflt n : Nat} (h : boundA σ (some i) dflt = some n) (y : Nat) (c : BoundsCode) (hy : n ≤ y) :
    (Instr.sliceBound (a.eval i) y c).run P w = .ok n w := by
  unfold boundA at h
  split at h
  · cases ‹some i = none›
  · rename_i j hj
    obtain rfl := Option.some.inj hj
    split at h
    · rename_i k z hz
      split at h
      · rename_i h0z
        obtain rfl := Option.some.inj h
        have := (opnd_sound I F hz).flat2 rfl
        have hzy : z ≤ (y : Int) := by omega
        simp [Instr.sliceBound, this, asIntOf, h0z, hzy]
      · simp at h
    · simp at h
theorem opSlice_ok {σ σ' : St} {o : Oper} {t : TypeId} {x : Operand} {lo hi : Option Operand} (ho : o.op = .slice t x lo hi none) {v : Value} (h : opSlice P σ t x lo hi = some (v, σ')) : StepOK P o σ v σ' := by
  intro ρ0 h0 w0 ρ a w I F
  unfold opSlice at h
  split at h
  · rename_i ad len c hx
    split at h
    · rename_i e s l hh s' he hlo hhi hs'
      split at h
      · rename_i hle
        obtain ⟨hlh, hhl, rfl⟩ := hle
        simp only [Option.some.injEq, Prod.mk.injEq] at h
        obtain ⟨rfl, rfl⟩ := h
        obtain ⟨q1, q2⟩ := elemT_some he
        have hv := (opnd_sound I F hx).noLoc rfl
        have hb : ∀ cap, len ≤ cap → (Instr.sliceBounds true len cap (lo.map a.eval) (hi.map a.eval) none).run P w = .ok (l, hh, cap) w := by
          intro cap hcap
          cases hi with
          | none =>
            simp only [boundA, Option.some.injEq] at hhi; subst hhi
            cases lo with
            | none => simp only [boundA, Option.some.injEq] at hlo; subst hlo; simp [Instr.sliceBounds]
            | some i => simp [Instr.sliceBounds, run_sliceBound I F hlo _ _ hlh]
          | some j =>
            have hj := run_sliceBound I F hhi cap .sliceAcap (by omega)
            cases lo with
            | none => simp only [boundA, Option.some.injEq] at hlo; subst hlo; simp [Instr.sliceBounds, hj]
            | some i => simp [Instr.sliceBounds, hj, run_sliceBound I F hlo _ _ hlh]
        have hrun : ∀ base cap, len ≤ cap → a.eval x = .slice base len cap → (execOp a.eval o).run P w = .ok (.value (.slice (if cap = l then base else base.map (·.add (l * s))) (hh - l) (cap - l))) w := by
          intro base cap hcap hxv
          simp [execOp, ho, Instr.sliceAt, run_underlying q1, hxv, Instr.slice, hb cap hcap, run_sizeOf q2]
        rcases hv.slice_some with ⟨a', rfl, hv'⟩ | ⟨b, off, pl, cap, rfl, hk, hc, hn, hv'⟩
        · have hl0 : l = 0 := by omega
          have hh0 : hh = 0 := by omega
          subst hl0; subst hh0
          refine ⟨_, _, w, ρ, hrun _ _ (Nat.le_refl _) hv', rfl, I, F, ?_, fun _ _ => ⟨rfl, fun _ => rfl⟩⟩
          simp only [if_true]
          exact .val _ _ (.sl0 _ _ _)
        · refine ⟨_, _, w, ρ, hrun _ _ hc hv', rfl, I, F, ?_, fun _ _ => ⟨rfl, fun _ => rfl⟩⟩
          by_cases hcl : cap = l
          · subst hcl
            have : hh = cap := by omega
            subst this
            simp only [Nat.sub_self]
            exact .val _ _ (.sl0 _ _ _)
          · simp only [hcl, if_false, Option.map_some, Addr.add_lit]
            have hpl : pl.sz = s := by
              unfold szE at hs'
              split at hs'
              · rename_i wr e1 cs hr
                obtain ⟨C, e', fz, c1, c2, c3, c4, c5, c6⟩ := I.rel.row _ _ _ _ _ hk hr
                simp only [Option.some.injEq] at hs'
                rw [c5, hs']
              · simp at hs'
            have := VR.sl (ρ := ρ) b (off + l * s) (hh - l) (hh - l) pl (cap - l) hk (by omega) (by
              rw [hpl] at hn ⊢
              have h1 : l * s + (cap - l) * s = cap * s := by rw [← Nat.add_mul]; congr 1; omega
              omega)
            rw [← Nat.add_assoc] at this
            exact .val _ _ this
      · simp at h
    · simp at h
  · rename_i hx
    split at h
    · rename_i es he hlo hhi
      obtain ⟨e, s⟩ := es
      simp only [Option.some.injEq, Prod.mk.injEq] at h
      obtain ⟨rfl, rfl⟩ := h
      obtain ⟨q1, q2⟩ := elemT_some he
      have hv := (opnd_sound I F hx).noLoc rfl
      have hxv : a.eval x = .slice none 0 0 := by
        generalize a.eval x = y at hv
        cases hv
        rfl
      have hb : (Instr.sliceBounds true 0 0 (lo.map a.eval) (hi.map a.eval) none).run P w = .ok (0, 0, 0) w := by
        cases hi with
        | none =>
          cases lo with
          | none => simp [Instr.sliceBounds]
          | some i => simp [Instr.sliceBounds, run_sliceBound I F hlo _ _ (Nat.le_refl 0)]
        | some j =>
          have hj := run_sliceBound I F hhi 0 .sliceAcap (Nat.le_refl 0)
          cases lo with
          | none => simp [Instr.sliceBounds, hj]
          | some i => simp [Instr.sliceBounds, hj, run_sliceBound I F hlo _ _ (Nat.le_refl 0)]
      refine ⟨.value (.slice none 0 0), .slice none 0 0, w, ρ, ?_, rfl, I, F, .val _ _ .sln, fun _ _ => ⟨rfl, fun _ => rfl⟩⟩
      simp [execOp, ho, Instr.sliceAt, run_underlying q1, hxv, Instr.slice, hb, run_sizeOf q2]
    · simp at h
  · simp at h

/-- the builtin len of strings and slices -/
def opLen (P : Program) (σ : St) (t : TypeId) (x : Operand) : Option (Value × St) :=
  match P.underlying t, opnd σ x with
  | some .string, some (.string s) => some (.int .i64 s.size, σ)
  | some (.slice _), some (.slice _ n _) => some (.int .i64 n, σ)
  | _, _ => none
theorem opLen_ok {σ σ' : St} {o : Oper} {t : TypeId} {x : Operand} (ho : o.op = .call { callee := .builtin .len, args := #[x], argTypes := #[t] }) {v : Value} (h : opLen P σ t x = some (v, σ')) : StepOK P o σ v σ' := by
  intro ρ0 h0 w0 ρ a w I F
  unfold opLen at h
  split at h
  · rename_i s ht hx
    simp only [Option.some.injEq, Prod.mk.injEq] at h
    obtain ⟨rfl, rfl⟩ := h
    have hv := (opnd_sound I F hx).flat2 rfl
    refine ⟨.value (.int .i64 s.size), _, w, ρ, ?_, rfl, I, F, .of_flat2 rfl, fun _ _ => ⟨rfl, fun _ => rfl⟩⟩
    simp [execOp, ho, resolve, invoke, builtin, Builtin.len_, run_underlying ht, hv, goInt]
  · rename_i e a0 n c ht hx
    simp only [Option.some.injEq, Prod.mk.injEq] at h
    obtain ⟨rfl, rfl⟩ := h
    have hv := (opnd_sound I F hx).noLoc rfl
    refine ⟨.value (.int .i64 n), _, w, ρ, ?_, rfl, I, F, .of_flat2 rfl, fun _ _ => ⟨rfl, fun _ => rfl⟩⟩
    generalize hx' : a.eval x = x' at hv
    cases hv <;> simp [execOp, ho, resolve, invoke, builtin, Builtin.len_, run_underlying ht, goInt, hx']
  · simp at h

/-- a value of an address's kind, compared with nil -/
def nilEq (d : TypeDesc) (u v : Value) : Option Bool := match d, u, v with
  | .slice _, .slice a _ _, .slice none 0 0 => some a.isNone
  | .pointer _, .pointer (some _), .pointer none => some false
  | .map _ _, .map (some _), .map none => some false
  | .interface _, .iface _ _, .nilIface => some false
  | .func _ _ _, .func _ _ _, .nilFunc => some false
  | _, _, _ => none
def opNilC (P : Program) (σ : St) (op : BinOp) (t : TypeId) (x y : Operand) : Option (Value × St) := match P.underlying t, opnd σ x, opnd σ y with
  | some d, some u, some v => match nilEq d u v with
    | some b => match op with
      | .eql => some (.bool b, σ)
      | .neq => some (.bool (!b), σ)
      | _ => none
    | none => none
  | _, _, _ => none
theorem nilEq_ok {d : TypeDesc} {u v u' v' : Value} {b : Bool} {t : TypeId} (h : nilEq d u v = some b) (ht : P.underlying t = some d) (hu : VT ρ u u') (hv : VT ρ v v') (w : World) :
    (∀ op x y, (eqGuard op t x y u' v').run P w = .ok () w) ∧ (binOp .eql t u' v').run P w = .ok (.bool b) w ∧ (binOp .neq t u' v').run P w = .ok (.bool (!b)) w := by
  have key : ∀ n, (Op.equalIn (n + 1) t u' v').run P w = .ok b w := by
    intro n
    unfold nilEq at h
    split at h
    · simp only [Option.some.injEq] at h; subst h
      have hu := hu.noLoc rfl
      have hv := hv.flat2 rfl
      subst hv
      cases hu <;> simp [Op.equalIn, run_underlying ht]
    · simp only [Option.some.injEq] at h; subst h
      have hv := hv.flat2 rfl
      subst hv
      cases hu with
      | val _ _ hu => cases hu <;> simp [Op.equalIn, run_underlying ht]
      | loc _ _ _ _ _ => simp [Op.equalIn, run_underlying ht]
    · simp only [Option.some.injEq] at h; subst h
      have hu := hu.noLoc rfl
      have hv := hv.flat2 rfl
      subst hv
      cases hu <;> simp [Op.equalIn, run_underlying ht]
    · simp only [Option.some.injEq] at h; subst h
      have hu := hu.noLoc rfl
      have hv := hv.flat2 rfl
      subst hv
      cases hu <;> simp [Op.equalIn, run_underlying ht]
    · simp only [Option.some.injEq] at h; subst h
      have hu := hu.noLoc rfl
      have hv := hv.flat2 rfl
      subst hv
      cases hu <;> simp [Op.equalIn, run_underlying ht]
    · simp at h
  have he : (Op.equal t u' v').run P w = .ok b w := key 9999
  have k2 : binOp .eql t u' v' = (do pure (.bool (← Op.equal t u' v'))) ∧ binOp .neq t u' v' = (do pure (.bool (!(← Op.equal t u' v')))) ∧ ∀ op x y, eqGuard op t x y u' v' = pure () := by
    clear key he
    unfold nilEq at h
    split at h
    · have hu := hu.noLoc rfl
      have hv := hv.flat2 rfl
      subst hv
      cases hu <;> exact ⟨rfl, rfl, fun op x y => by unfold eqGuard; split <;> rfl⟩
    · have hv := hv.flat2 rfl
      subst hv
      cases hu with
      | val _ _ hu => cases hu <;> exact ⟨rfl, rfl, fun op x y => by unfold eqGuard; split <;> rfl⟩
      | loc _ _ _ _ _ => exact ⟨rfl, rfl, fun op x y => by unfold eqGuard; split <;> rfl⟩
    · have hu := hu.noLoc rfl
      have hv := hv.flat2 rfl
      subst hv
      cases hu <;> exact ⟨rfl, rfl, fun op x y => by unfold eqGuard; split <;> rfl⟩
    · have hu := hu.noLoc rfl
      have hv := hv.flat2 rfl
      subst hv
      cases hu <;> exact ⟨rfl, rfl, fun op x y => by unfold eqGuard; split <;> rfl⟩
    · have hu := hu.noLoc rfl
      have hv := hv.flat2 rfl
      subst hv
      cases hu <;> exact ⟨rfl, rfl, fun op x y => by unfold eqGuard; split <;> rfl⟩
    · simp at h
  obtain ⟨e1, e2, e3⟩ := k2
  refine ⟨fun op x y => by rw [e3]; rfl, ?_, ?_⟩
  · rw [e1]; simp [he]
  · rw [e2]; simp [he]
theorem opNilC_ok {σ σ' : St} {o : Oper} {op : BinOp} {t yt : TypeId} {x y : Operand} (ho : o.op = .binOp op t x y yt) {v : Value} (h : opNilC P σ op t x y = some (v, σ')) : StepOK P o σ v σ' := by
  intro ρ0 h0 w0 ρ a w I F
  unfold opNilC at h
  split at h
  · rename_i d u z hd hx hy
    split at h
    · rename_i b hb
      obtain ⟨q2, q3, q4⟩ := nilEq_ok hb hd (opnd_sound I F hx) (opnd_sound I F hy) w
      split at h
      · simp only [Option.some.injEq, Prod.mk.injEq] at h
        obtain ⟨rfl, rfl⟩ := h
        refine ⟨.value (.bool b), _, w, ρ, ?_, rfl, I, F, .of_flat2 rfl, fun _ _ => ⟨rfl, fun _ => rfl⟩⟩
        simp [execOp, ho, q2, q3]
      · simp only [Option.some.injEq, Prod.mk.injEq] at h
        obtain ⟨rfl, rfl⟩ := h
        refine ⟨.value (.bool (!b)), _, w, ρ, ?_, rfl, I, F, .of_flat2 rfl, fun _ _ => ⟨rfl, fun _ => rfl⟩⟩
        simp [execOp, ho, q2, q4]
      · simp at h
    · simp at h
  · simp at h

def opNilCheck (σ : St) (x : Operand) : Option (Value × St) :=
  match opnd σ x with
  | some (.pointer (some ad)) => some (.pointer (some ad), σ)
  | some (.func (.func f) as cs) => some (.func (.func f) as cs, σ)
  | _ => none
theorem opNilCheck_ok {σ σ' : St} {o : Oper} {x : Operand} (ho : o.op = .nilCheck x) {v : Value} (h : opNilCheck σ x = some (v, σ')) : StepOK P o σ v σ' := by
  intro ρ0 h0 w0 ρ a w I F
  unfold opNilCheck at h
  split at h
  · rename_i ad hx
    simp only [Option.some.injEq, Prod.mk.injEq] at h
    obtain ⟨rfl, rfl⟩ := h
    have hv := opnd_sound I F hx
    obtain ⟨pl, hk, hv'⟩ := hv.ptr
    refine ⟨.value (a.eval x), _, w, ρ, ?_, rfl, I, F, hv, fun _ _ => ⟨rfl, fun _ => rfl⟩⟩
    simp [execOp, ho, hv']
  · rename_i f as cs hx
    simp only [Option.some.injEq, Prod.mk.injEq] at h
    obtain ⟨rfl, rfl⟩ := h
    have hv := opnd_sound I F hx
    refine ⟨.value (a.eval x), _, w, ρ, ?_, rfl, I, F, hv, fun _ _ => ⟨rfl, fun _ => rfl⟩⟩
    have hv2 := hv.noLoc rfl
    generalize hx' : a.eval x = x' at hv2
    cases hv2
    simp [execOp, ho, hx']
  · simp at h
end
end Go.Am
/- The abstract machine, part F: append. -/
namespace Go.Am
open Go

section
variable {P : Program} {ρ0 ρ ρ' : Rho} {h0 : Heap} {w0 w : World} {m : Mem}

/-- what is appended: cells and how many elements -/
def srcCells (P : Program) (σ : St) (u : TypeId) (sz : Nat) (x : Operand) : Option (List Value × Nat) :=
  match P.underlying u with
  | some (.slice _) => match opnd σ x with
    | some (.slice none 0 0) => some ([], 0)
    | some (.slice (some ad) n _) => if n = 0 then some ([], 0) else match σ.m.cells ad (n * sz) with
      | some l => some (l, n)
      | none => none
    | _ => none
  | some .string => match opnd σ x with
    | some (.string s) => if sz = 1 then some (s.data.toList.map fun b => .int .u8 b.toNat, s.size) else none
    | _ => none
  | _ => none
theorem firstCells_string (s : ByteArray) (sz : Nat) : (Builtin.firstCells sz s.size (.string s)).run P w = .ok ⟨s.data.toList.map fun b => Value.int .u8 b.toNat⟩ w := by
  simp only [Builtin.firstCells, Sem.run_pure]
  congr 1
  have hx : s.extract 0 s.size = s := by simp
  rw [hx]
  apply Array.ext'
  simp
theorem srcCells_ok {σ : St} (I : Inv P ρ0 h0 w0 ρ σ.m w) {a : Act} (F : FRel ρ σ.t a.tmps) {u : TypeId} {sz : Nat} {x : Operand} {l : List Value} {n : Nat} (h : srcCells P σ u sz x = some (l, n)) (hsz : 0 < sz) :
    l.length = n * sz ∧ ∃ l' : List Value, l'.length = n * sz ∧ (∀ (i : Nat) (v : Value), l[i]? = some v → ∃ v', l'[i]? = some v' ∧ VR ρ v v') ∧
      (∃ d, P.underlying u = some d ∧ ((∃ e2, d = .slice e2) ∨ d = .string)) ∧ (∀ w1 : World, (Builtin.lenOf (a.eval x)).run P w1 = .ok n w1) ∧
      ∀ w1 : World, w1.heap = w.heap → (Builtin.firstCells sz n (a.eval x)).run P w1 = .ok ⟨l'⟩ w1 := by
  unfold srcCells at h
  split at h
  · rename_i e hu
    split at h
    · rename_i hx
      simp only [Option.some.injEq, Prod.mk.injEq] at h
      obtain ⟨rfl, rfl⟩ := h
      have hv := (opnd_sound I F hx).flat2 rfl
      refine ⟨by simp, [], by simp, by simp, ⟨_, hu, .inl ⟨_, rfl⟩⟩, fun w1 => by rw [hv]; rfl, fun w1 _ => by rw [hv]; rfl⟩
    · rename_i ad k c hx
      have hv := (opnd_sound I F hx).noLoc rfl
      split at h
      · rename_i hk0
        simp only [Option.some.injEq, Prod.mk.injEq] at h
        obtain ⟨rfl, rfl⟩ := h
        subst hk0
        have : ∃ a' c', a.eval x = .slice (some a') 0 c' := by
          rcases hv.slice_some with ⟨a', _, hv'⟩ | ⟨b, off, pl, cap, _, hk, hc, hn, hv'⟩
          · exact ⟨a', 0, hv'⟩
          · exact ⟨_, cap, hv'⟩
        obtain ⟨a', c', hv'⟩ := this
        refine ⟨by simp, [], by simp, by simp, ⟨_, hu, .inl ⟨_, rfl⟩⟩, fun w1 => by rw [hv']; rfl, fun w1 _ => by rw [hv']; simp [Builtin.firstCells, loadCells, loadCellsFrom]⟩
      · rename_i hk0
        split at h
        · rename_i l1 hl
          simp only [Option.some.injEq, Prod.mk.injEq] at h
          obtain ⟨rfl, rfl⟩ := h
          rcases hv.slice_some with ⟨a', hl0, _⟩ | ⟨b, off, pl, cap, rfl, hk, hc, hn, hv'⟩
          · exact absurd hl0 hk0
          · obtain ⟨q1, l', q2, q3, q4⟩ := cells_sound I (ad := ⟨b, off, none⟩) hk hl
            refine ⟨q1, l', q2, q3, ⟨_, hu, .inl ⟨_, rfl⟩⟩, fun w1 => by rw [hv']; rfl, fun w1 hw1 => ?_⟩
            rw [hv']
            exact run_firstCells_some (P := P) w1 sz k ⟨pl.B, pl.o + off, none⟩ k cap l' q2 (fun j v hj => by
              have := q4 j v hj
              simp only [World.cell?] at this ⊢
              rw [hw1]; exact this)
        · simp at h
    · simp at h
  · rename_i hu
    split at h
    · rename_i s hx
      split at h
      · rename_i h1
        simp only [Option.some.injEq, Prod.mk.injEq] at h
        obtain ⟨rfl, rfl⟩ := h
        subst h1
        have hv := (opnd_sound I F hx).flat2 rfl
        have hf : ∀ v ∈ s.data.toList.map (fun b : UInt8 => Value.int .u8 b.toNat), flat1 v = true := by simp [flat1]
        refine ⟨by rw [List.length_map, Nat.mul_one]; rfl, s.data.toList.map (fun b => Value.int .u8 b.toNat), by rw [List.length_map, Nat.mul_one]; rfl, fun i v hi => ⟨v, hi, .of_flat1 (hf v (List.mem_of_getElem? hi))⟩, ⟨_, hu, .inr rfl⟩,
          fun w1 => by rw [hv]; rfl, fun w1 _ => by rw [hv]; exact firstCells_string s 1⟩
      · simp at h
    · simp at h
  · simp at h

def maxA : Nat := 140737488355328
def bytesT (P : Program) (t : TypeId) : Option Nat := (P.info? t).map (·.bytes)
def opAppend (P : Program) (σ : St) (t u : TypeId) (s x : Operand) : Option (Value × St) :=
  match elemT P t with
  | some (e, sz) => match zeroT P e, bytesT P e, srcCells P σ u sz x with
    | some zl, some by_, some (l, n) =>
      if l.all one && decide (0 < sz) && decide (0 < by_) && zl.length == sz then
        match opnd σ s with
        | some (.slice none 0 0) => if n = 0 then some (.slice none 0 0, σ) else
            if n * by_ ≤ maxA then some (.slice (some ⟨σ.m.h.n, 0, none⟩) n n, ⟨σ.t, ⟨σ.m.x, σ.m.h.new (.row true e l)⟩⟩) else none
        | some (.slice (some ⟨b, off, none⟩) len _) => match σ.m.h.f b with
          | .row true e' cs => if P.cellsOf e' = sz ∧ off + len * sz ≤ cs.length ∧ (len + n) * by_ ≤ maxA then
              some (.slice (some ⟨σ.m.h.n, 0, none⟩) (len + n) (len + n), ⟨σ.t, ⟨σ.m.x, (σ.m.h.set b .dead).new (.row true e' ((cs.drop off).take (len * sz) ++ l))⟩⟩) else none
          | _ => none
        | _ => none
      else none
    | _, _, _ => none
  | none => none

theorem ones_of {l l' : List Value} (hl : l.length = l'.length) (h : ∀ (i : Nat) (v : Value), l[i]? = some v → ∃ v', l'[i]? = some v' ∧ VR ρ v v') (h1 : l.all one = true) : ∀ z ∈ l', z.oneCell' = true := by
  intro z hz
  rw [List.mem_iff_getElem] at hz
  obtain ⟨i, hi, rfl⟩ := hz
  have hi' : i < l.length := by omega
  obtain ⟨v', q1, q2⟩ := h i _ (List.getElem?_eq_getElem hi')
  rw [List.getElem?_eq_getElem hi] at q1
  obtain rfl := Option.some.inj q1
  exact q2.one (List.all_eq_true.mp h1 _ (List.getElem_mem hi'))

theorem run_grow (t u ty e : TypeId) (i : TypeInfo) (z : Value) (ht : P.underlying t = some (.slice e)) (hi : P.info? e = some i) (hz : i.zero = some z)
    {d : TypeDesc} (hu : P.underlying u = some d) (hd : (∃ e2, d = .slice e2) ∨ d = .string) (X : Value) (n : Nat) (news : List Value) (hlen : ∀ w1 : World, (Builtin.lenOf X).run P w1 = .ok n w1)
    (hnew : (Builtin.firstCells i.size n X).run P w.drew = .ok ⟨news⟩ w.drew)
    (base : Option Addr) (sLen sCap : Nat) (olds : List Value) (hold : (Builtin.firstCells i.size sLen (.slice base sLen sCap)).run P w.drew = .ok ⟨olds⟩ w.drew)
    (hg : sCap < sLen + n) (h63 : ((sLen + n : Nat) : Int) ≤ 9223372036854775807) (hfit : Builtin.nextslicecap (sLen + n) sCap * i.bytes ≤ 281474976710656) :
    (Builtin.append_ #[t, u] ty #[.slice base sLen sCap, X]).run P w =
      .ok (.slice (some ⟨w.heap.size, 0, none⟩) (sLen + n) (grownCap w (sLen + n) sCap e))
        (w.drew.alloc (.cells ((⟨olds⟩ : Array Value) ++ ⟨news⟩ ++ Builtin.zeroCells z.cells (grownCap w (sLen + n) sCap e - (sLen + n))) e)) := by
  have hn : ¬ (sLen + n ≤ sCap) := by omega
  have h63' : ¬ (9223372036854775807 < ((sLen : Int) + (n : Int))) := by omega
  have h48' : ¬ (281474976710656 < Builtin.nextslicecap (sLen + n) sCap * i.bytes) := by omega
  have hfin : ∀ k : Nat, ((⟨olds⟩ : Array Value) ++ (⟨news⟩ ++ Builtin.zeroCells z.cells k)) = (olds ++ news).toArray ++ Builtin.zeroCells z.cells k := fun k => by
    apply Array.ext'; simp [List.append_assoc]
  rcases hd with ⟨e2, rfl⟩ | rfl <;> simp [Builtin.append_, run_underlying ht, run_underlying hu, sizeOf, typeInfo, zeroValue, hi, hz, hlen, hn, h63', h48', Question.forced, hnew, hold, newRow, grownCap, hfin]
theorem run_room (t u ty e : TypeId) (i : TypeInfo) (ht : P.underlying t = some (.slice e)) (hi : P.info? e = some i)
    {d : TypeDesc} (hu : P.underlying u = some d) (hd : (∃ e2, d = .slice e2) ∨ d = .string) (X : Value) (n : Nat) (news : List Value) (hlen : ∀ w1 : World, (Builtin.lenOf X).run P w1 = .ok n w1)
    (hnew : (Builtin.firstCells i.size n X).run P w = .ok ⟨news⟩ w) (h1 : ∀ v ∈ news, v.oneCell' = true)
    (g off sLen sCap : Nat) (e' : TypeId) (cur : Array Value) (hg : w.heap[g]? = some (.cells cur e' (0, 0))) (hroom : sLen + n ≤ sCap) (hfit : off + sLen * i.size + news.length ≤ cur.size) :
    (Builtin.append_ #[t, u] ty #[.slice (some ⟨g, off, none⟩) sLen sCap, X]).run P w =
      .ok (.slice (some ⟨g, off, none⟩) (sLen + n) sCap) (w.setRow g (cur.toList.take (off + sLen * i.size) ++ news ++ cur.toList.drop (off + sLen * i.size + news.length)).toArray) := by
  have hst := run_storeCells_at P g (off + sLen * i.size) e' news 0 cur w hg (by simpa using hfit) h1
  simp only [Nat.add_zero] at hst
  rcases hd with ⟨e2, rfl⟩ | rfl <;> simp [Builtin.append_, run_underlying ht, run_underlying hu, sizeOf, typeInfo, hi, hlen, hroom, hnew, Addr.add_lit, hst]
theorem run_room0 (t u ty e : TypeId) (i : TypeInfo) (ht : P.underlying t = some (.slice e)) (hi : P.info? e = some i)
    {d : TypeDesc} (hu : P.underlying u = some d) (hd : (∃ e2, d = .slice e2) ∨ d = .string) (X : Value) (news : List Value) (hlen : ∀ w1 : World, (Builtin.lenOf X).run P w1 = .ok 0 w1)
    (hnew : (Builtin.firstCells i.size 0 X).run P w = .ok ⟨news⟩ w) (hl : news = []) (base : Option Addr) :
    (Builtin.append_ #[t, u] ty #[.slice base 0 0, X]).run P w = .ok (.slice base 0 0) w := by
  subst hl
  rcases hd with ⟨e2, rfl⟩ | rfl <;> cases base <;> simp [Builtin.append_, run_underlying ht, run_underlying hu, sizeOf, typeInfo, hi, hlen, hnew, storeCells]

theorem vrs_append {cs vs cs' vs' : List Value} (rest : List Value) (hl : cs.length = cs'.length) (hl2 : vs.length = vs'.length)
    (h1 : ∀ (i : Nat) (v : Value), cs[i]? = some v → ∃ v', cs'[i]? = some v' ∧ VR ρ v v') (h2 : ∀ (i : Nat) (v : Value), vs[i]? = some v → ∃ v', vs'[i]? = some v' ∧ VR ρ v v') :
    ∀ (i : Nat) (v : Value), (cs ++ vs)[i]? = some v → ∃ v', (cs' ++ vs' ++ rest)[i]? = some v' ∧ VR ρ v v' := by
  intro i v hi
  have hlt : i < (cs ++ vs).length := by
    rcases Nat.lt_or_ge i (cs ++ vs).length with q | q
    · exact q
    · rw [List.getElem?_eq_none q] at hi; cases hi
  rw [List.getElem?_append_left (by simp at hlt ⊢; omega)]
  by_cases hc : i < cs.length
  · rw [List.getElem?_append_left hc] at hi
    rw [List.getElem?_append_left (by omega)]
    exact h1 i v hi
  · rw [List.getElem?_append_right (by omega)] at hi
    rw [List.getElem?_append_right (by omega), ← hl]
    exact h2 _ v hi

theorem opAppend_ok {σ σ' : St} {o : Oper} {t u : TypeId} {s x : Operand} (ho : o.op = .call { callee := .builtin .append, args := #[s, x], argTypes := #[t, u] }) {v : Value}
    (h : opAppend P σ t u s x = some (v, σ')) : StepOK P o σ v σ' := by
  intro ρ0 h0 w0 ρ a w I F
  unfold opAppend at h
  split at h
  rotate_left
  · simp at h
  rename_i e sz he
  split at h
  rotate_left
  · simp at h
  rename_i zl by_ l n hz hby hsrc
  split at h
  rotate_left
  · simp at h
  rename_i hall
  simp only [Bool.and_eq_true, decide_eq_true_eq, beq_iff_eq] at hall
  obtain ⟨⟨⟨hone, hszp⟩, hbyp⟩, hzlen⟩ := hall
  obtain ⟨ht, hsz⟩ := elemT_some he
  obtain ⟨ll, l', hl', hll', ⟨d, hu, hd⟩, hlen, hfirst⟩ := srcCells_ok I F hsrc hszp
  have hone' := ones_of (ll.trans hl'.symm) hll' hone
  have hinfo : ∃ i, P.info? e = some i ∧ i.size = sz ∧ i.bytes = by_ ∧ ∃ z, i.zero = some z ∧ z.cells.size = sz := by
    unfold zeroT at hz; unfold szT at hsz; unfold bytesT at hby
    cases hi : P.info? e with
    | none => simp [hi] at hz
    | some i =>
      simp only [hi] at hz hsz hby
      cases hzz : i.zero with
      | none => simp [hzz] at hz
      | some z =>
        refine ⟨i, rfl, by simpa using hsz, by simpa using hby, z, hzz, ?_⟩
        simp only [hzz] at hz
        split at hz
        · obtain rfl := Option.some.inj hz; simpa using hzlen
        · simp at hz
  obtain ⟨i, hi, rfl, rfl, z, hzz, hz1⟩ := hinfo
  have hexec : ∀ base sLen sCap, a.eval s = .slice base sLen sCap → (execOp a.eval o).run P w = ((Builtin.append_ #[t, u] o.type #[.slice base sLen sCap, a.eval x]).run P w).andThen fun v w' => .ok (.value v) w' := by
    intro base sLen sCap hs
    simp [execOp, ho, resolve, invoke, builtin, hs]
  have hgrowF : ∀ {k pl}, ρ (false, k) = some pl → ∀ pl', ρ.upd (false, σ.m.h.n) pl' (false, k) = some pl := fun {k pl} q pl' => by
    rw [Rho.upd_ne]; exact q
    intro z; simp only [Prod.mk.injEq, true_and] at z; subst z; exact Nat.lt_irrefl _ (I.rel.dom _ _ q)
  split at h
  · -- nil
    rename_i hs
    have hsv := (opnd_sound I F hs).flat2 rfl
    split at h
    · rename_i hn0
      simp only [Option.some.injEq, Prod.mk.injEq] at h
      obtain ⟨rfl, rfl⟩ := h
      subst hn0
      refine ⟨.value (.slice none 0 0), _, w, ρ, ?_, rfl, I, F, .of_flat2 rfl, fun _ _ => ⟨rfl, fun _ => rfl⟩⟩
      rw [hexec _ _ _ hsv, run_room0 t u o.type e i ht hi hu hd _ l' hlen (hfirst w rfl) (by simpa using hl')]
      rfl
    · rename_i hn0
      split at h
      · rename_i hmax
        unfold maxA at hmax
        simp only [Option.some.injEq, Prod.mk.injEq] at h
        obtain ⟨rfl, rfl⟩ := h
        have hnn : n ≤ n * i.bytes := Nat.le_mul_of_pos_right n hbyp
        have hrun := run_grow (w := w) t u o.type e i z ht hi hzz hu hd (a.eval x) n l' hlen (hfirst w.drew rfl) none 0 0 [] (by rfl) (by omega) (by omega)
          (growslice_fits (by omega) (by simpa using hmax))
        have hc := vrs_append (ρ := ρ) (cs := []) (cs' := []) (vs := l) (vs' := l') (Builtin.zeroCells z.cells (grownCap w (0 + n) 0 e - (0 + n))).toList rfl (ll.trans hl'.symm) (by simp) hll'
        have J := I.drew.newH (x := .row true e l) (o := .cells ((⟨[]⟩ : Array Value) ++ ⟨l'⟩ ++ Builtin.zeroCells z.cells (grownCap w (0 + n) 0 e - (0 + n))) e) (pl := ⟨w.heap.size, 0, _, P.cellsOf e⟩)
          (.row e e l _ _ (by simp [ll, hl']) (fun j v hj => by
            obtain ⟨v', q1, q2⟩ := hc j v (by simpa using hj)
            exact ⟨v', by rw [← Array.getElem?_toList, Array.toList_append, Array.toList_append]; exact q1, q2⟩)) rfl
        refine ⟨_, _, _, _, by rw [hexec _ _ _ hsv, hrun]; rfl, rfl, J, F.mono (fun b pl q => hgrowF q _) (fun s => Rho.upd_ne _ _ (by simp)), ?_, fun s' _ => ⟨Rho.upd_ne _ _ (by simp), fun _ => rfl⟩⟩
        have hsize : P.cellsOf e = i.size := by simp [Program.cellsOf, hi]
        have := VR.sl (ρ := ρ.upd (false, σ.m.h.n) ⟨w.heap.size, 0, ((⟨[]⟩ : Array Value) ++ ⟨l'⟩ ++ Builtin.zeroCells z.cells (grownCap w (0 + n) 0 e - (0 + n))).size, P.cellsOf e⟩) σ.m.h.n 0 n n
          ⟨w.heap.size, 0, ((⟨[]⟩ : Array Value) ++ ⟨l'⟩ ++ Builtin.zeroCells z.cells (grownCap w (0 + n) 0 e - (0 + n))).size, P.cellsOf e⟩ (grownCap w (0 + n) 0 e) (Rho.upd_same _ _ _)
          (by have := grownCap_ge w (0 + n) 0 e; omega) (by
            have hg := grownCap_ge w (0 + n) 0 e
            simp only [Array.size_append, size_zeroCells, hz1, hsize]
            simp only [List.size_toArray, List.length_nil, hl']
            rw [Nat.sub_mul]
            have := Nat.mul_le_mul_right i.size hg
            have e1 : (0 + n) * i.size = n * i.size := by rw [Nat.zero_add]
            omega)
        rw [Nat.zero_add] at this ⊢
        exact VT.val _ _ this
      · simp at h
  · -- a row
    rename_i b off len c hs
    have hsv := (opnd_sound I F hs).noLoc rfl
    split at h
    rotate_left
    · simp at h
    rename_i e1 cs hb
    split at h
    rotate_left
    · simp at h
    rename_i hcond
    obtain ⟨hce, hin, hmax⟩ := hcond
    unfold maxA at hmax
    simp only [Option.some.injEq, Prod.mk.injEq] at h
    obtain ⟨rfl, rfl⟩ := h
    have hnn : len + n ≤ (len + n) * i.bytes := Nat.le_mul_of_pos_right _ hbyp
      -- behind a growth: the elder row is given up, a new one stands for the sum
    have grown : ∀ (base : Option Addr) (sCap : Nat) (olds : List Value), a.eval s = .slice base len sCap → sCap < len + n → olds.length = len * i.size →
        (Builtin.firstCells i.size len (.slice base len sCap)).run P w.drew = .ok ⟨olds⟩ w.drew →
        (∀ (j : Nat) (v : Value), ((cs.drop off).take (len * i.size))[j]? = some v → ∃ v', olds[j]? = some v' ∧ VR ρ v v') →
        ∃ nx v' w' ρ', (execOp a.eval o).run P w = .ok nx w' ∧ outV nx = some v' ∧ Inv P ρ0 h0 w0 ρ' ⟨σ.m.x, (σ.m.h.set b .dead).new (.row true e1 ((cs.drop off).take (len * i.size) ++ l))⟩ w' ∧
          FRel ρ' σ.t a.tmps ∧ VT ρ' (.slice (some ⟨σ.m.h.n, 0, none⟩) (len + n) (len + n)) v' ∧
          ∀ s, (∀ d, o.dst = some d → d ≠ s) → ρ' (true, s) = ρ (true, s) ∧ (ρ (true, s) = none → σ.m.x s = σ.m.x s) := by
      intro base sCap olds hsv' hlt holds hfo hrel
      have hrun := run_grow (w := w) t u o.type e i z ht hi hzz hu hd (a.eval x) n l' hlen (hfirst w.drew rfl) base len sCap olds hfo hlt (by omega)
        (growslice_fits (by omega) (by omega))
      have hlo : ((cs.drop off).take (len * i.size)).length = olds.length := by rw [holds]; simp; omega
      have hc := vrs_append (ρ := ρ) (Builtin.zeroCells z.cells (grownCap w (len + n) sCap e - (len + n))).toList hlo (ll.trans hl'.symm) hrel hll'
      have hCg : ∀ j : Nat, ((⟨olds⟩ : Array Value) ++ ⟨l'⟩ ++ Builtin.zeroCells z.cells (grownCap w (len + n) sCap e - (len + n)))[j]? =
          (olds ++ l' ++ (Builtin.zeroCells z.cells (grownCap w (len + n) sCap e - (len + n))).toList)[j]? := fun j => by
        rw [← Array.getElem?_toList, Array.toList_append, Array.toList_append]
      have hCs : ((⟨olds⟩ : Array Value) ++ ⟨l'⟩ ++ Builtin.zeroCells z.cells (grownCap w (len + n) sCap e - (len + n))).size = len * i.size + n * i.size + (grownCap w (len + n) sCap e - (len + n)) * i.size := by
        rw [Array.size_append, Array.size_append, size_zeroCells, hz1, List.size_toArray, List.size_toArray, holds, hl']
      generalize ((⟨olds⟩ : Array Value) ++ ⟨l'⟩ ++ Builtin.zeroCells z.cells (grownCap w (len + n) sCap e - (len + n))) = C at hrun hCg hCs
      have hfit : Fits P ρ (.row true e1 ((cs.drop off).take (len * i.size) ++ l)) (.cells C e (0, 0)) ⟨w.heap.size, 0, C.size, P.cellsOf e1⟩ :=
        .row e1 e _ C _ (by rw [List.length_append, hlo, holds, ll, hCs]; omega) (fun j v hj => by
          obtain ⟨v', q1, q2⟩ := hc j v hj
          exact ⟨v', by rw [hCg]; exact q1, q2⟩)
      have J := (I.drew.kill b).newH hfit rfl
      refine ⟨_, _, _, _, by rw [hexec _ _ _ hsv', hrun]; rfl, rfl, J, F.mono (fun b pl q => hgrowF q _) (fun s => Rho.upd_ne _ _ (by simp)), ?_, fun s' _ => ⟨Rho.upd_ne _ _ (by simp), fun _ => rfl⟩⟩
      have hg := grownCap_ge w (len + n) sCap e
      have := VR.sl (ρ := ρ.upd (false, σ.m.h.n) ⟨w.heap.size, 0, C.size, P.cellsOf e1⟩) σ.m.h.n 0 (len + n) (len + n)
        ⟨w.heap.size, 0, C.size, P.cellsOf e1⟩ (grownCap w (len + n) sCap e) (Rho.upd_same _ _ _)
        hg (by
          simp only [hCs, hce]
          rw [Nat.sub_mul]
          have := Nat.mul_le_mul_right i.size hg
          have e1 : (len + n) * i.size = len * i.size + n * i.size := Nat.add_mul _ _ _
          omega)
      exact VT.val _ _ this
    rcases hsv.slice_some with ⟨a', rfl, hv'⟩ | ⟨b', off', pl, cap, hbo, hk, hc, hn, hv'⟩
    · -- nothing is held, and there is no room
      by_cases hn0 : n = 0
      · subst hn0
        refine ⟨_, _, w, ρ, by rw [hexec _ _ _ hv', run_room0 t u o.type e i ht hi hu hd _ l' hlen (hfirst w rfl) (by simpa using hl')]; rfl, rfl, (I.kill b).newNone _, F, .val _ _ (.sl0 _ _ _), fun _ _ => ⟨rfl, fun _ => rfl⟩⟩
      · exact grown (some a') 0 [] hv' (by omega) (by simp) (by simp [Builtin.firstCells, loadCells, loadCellsFrom]) (by simp)
    · simp only [Addr.mk.injEq, and_true] at hbo
      obtain ⟨rfl, rfl⟩ := hbo
      have hrow : σ.m.row? (false, b) = some (true, e1, cs) := by simp [Mem.row?, hb]
      obtain ⟨C, e', fz, c1, c2, c3, c4, c5, c6⟩ := I.rel.row _ _ _ _ _ hk hrow
      obtain rfl := c2 rfl
      have hpl : pl.sz = i.size := by rw [c5, hce]
      by_cases hroom : len + n ≤ cap
      · have hspan : (len + n) * i.size ≤ cap * i.size := Nat.mul_le_mul_right _ hroom
        have esplit : (len + n) * i.size = len * i.size + n * i.size := Nat.add_mul _ _ _
        rw [hpl] at hn
        have hrun := run_room (w := w) t u o.type e i ht hi hu hd (a.eval x) n l' hlen (hfirst w rfl) hone' pl.B (pl.o + off) len cap e' C c1 hroom (by omega)
        refine ⟨_, _, _, _, by rw [hexec _ _ _ hv', hrun]; rfl, rfl,
          I.regrow hk hb (off := off) (ds := (cs.drop off).take (len * i.size) ++ l) (e' := e')
            (C := (C.toList.take (pl.o + off + len * i.size) ++ l' ++ C.toList.drop (pl.o + off + len * i.size + l'.length)).toArray)
            (by simp only [List.length_append, List.length_take, List.length_drop]; omega) (setRow_world w pl.B _) (setRow_size w pl.B _) (fun B hB => setRow_ne w pl.B _ hB)
            (setRow_eq w pl.B _ c1) ?_ ?_, F.mono (fun b pl q => hgrowF q _) (fun s => Rho.upd_ne _ _ (by simp)), ?_, fun s' _ => ⟨Rho.upd_ne _ _ (by simp), fun _ => rfl⟩⟩
        · simp only [List.size_toArray, List.length_append, List.length_take, List.length_drop, Array.length_toList]
          omega
        · intro j v hj
          have hlo : ((cs.drop off).take (len * i.size)).length = len * i.size := by simp; omega
          rw [List.getElem?_toArray, getElem?_splice _ _ _ _ (by simp only [Array.length_toList]; omega)]
          by_cases hjl : j < len * i.size
          · rw [List.getElem?_append_left (by omega), List.getElem?_take, if_pos hjl, List.getElem?_drop] at hj
            obtain ⟨v', q1, q2⟩ := c6 _ _ hj
            exact ⟨v', by rw [if_pos (by omega), Array.getElem?_toList, Nat.add_assoc]; exact q1, q2⟩
          · rw [List.getElem?_append_right (by omega), hlo] at hj
            obtain ⟨v', q1, q2⟩ := hll' _ _ hj
            have hjn : j - len * i.size < l'.length := by
              rcases Nat.lt_or_ge (j - len * i.size) l'.length with q | q
              · exact q
              · rw [List.getElem?_eq_none q] at q1; cases q1
            refine ⟨v', ?_, q2⟩
            rw [if_neg (by omega), if_pos (by omega), show pl.o + off + j - (pl.o + off + len * i.size) = j - len * i.size by omega]
            exact q1
        · have := VR.sl (ρ := ρ.upd (false, σ.m.h.n) ⟨pl.B, pl.o + off, pl.n - off, pl.sz⟩) σ.m.h.n 0 (len + n) (len + n) ⟨pl.B, pl.o + off, pl.n - off, pl.sz⟩ cap (Rho.upd_same _ _ _) hroom (by
            simp only [hpl]; omega)
          exact VT.val _ _ this
      · obtain ⟨q1, olds, q2, q3, q4⟩ := cells_sound I (ad := ⟨b, off, none⟩) hk (n := len * i.size) (l := (cs.drop off).take (len * i.size)) (by simp only [Mem.cells, key, Option.isSome_none, hrow]; rw [if_pos hin])
        exact grown (some ⟨pl.B, pl.o + off, none⟩) cap olds hv' (by omega) q2 (run_firstCells_some (P := P) w.drew i.size len _ len cap olds q2 (fun j v hj => by simpa using q4 j v hj)) q3
  · simp at h
end
end Go.Am
/- The abstract machine, part G: values and slices that are built; iterators over strings. -/
namespace Go.Am
open Go

section
variable {P : Program} {ρ0 ρ ρ' : Rho} {h0 : Heap} {w0 w : World} {m : Mem}

theorem foldl_set (vs : List Value) : ∀ (k off : Nat) (C : Array Value), off + k + vs.length ≤ C.size →
    ((vs.zipIdx k).foldl (fun cs (p : Value × Nat) => cs.setIfInBounds (off + p.2) p.1) C) = ⟨C.toList.take (off + k) ++ vs ++ C.toList.drop (off + k + vs.length)⟩ := by
  induction vs with
  | nil => intro k off C h; apply Array.ext'; simp
  | cons v r ih =>
    intro k off C h
    simp only [List.length_cons] at h
    rw [List.zipIdx_cons, List.foldl_cons, ih (k + 1) off _ (by simp; omega)]
    apply Array.ext'
    simp only [Array.toList_setIfInBounds]
    apply List.ext_getElem?
    intro i
    rw [getElem?_splice _ _ _ _ (by simp; omega), getElem?_splice _ _ _ _ (by simp; omega)]
    simp only [List.length_cons, List.getElem?_set]
    by_cases h1 : i < off + k
    · rw [if_pos (by omega), if_neg (by omega), if_pos h1]
    · by_cases h2 : i = off + k
      · subst h2
        rw [if_pos (by omega), if_pos rfl, if_pos (by simp; omega), if_neg (by omega), if_pos (by omega)]
        simp
      · by_cases h3 : i < off + (k + 1) + r.length
        · rw [if_neg (by omega), if_pos h3, if_neg h1, if_pos (by omega)]
          rw [show i - (off + k) = (i - (off + (k + 1))) + 1 by omega, List.getElem?_cons_succ]
        · rw [if_neg (by omega), if_neg h3, if_neg (by omega), if_neg h1, if_neg (by omega)]

/-- cells are laid over a zero value, part by part -/
def fillL (place : Nat → Option (Nat × Nat)) : List Value → List (Nat × Value) → Option (List Value)
  | cs, [] => some cs
  | cs, (i, v) :: r => match place i with
    | some (off, n) => if v.cells.toList.length = n ∧ off + n ≤ cs.length ∧ noLoc v = true then fillL place (setL cs off v.cells.toList) r else none
    | none => none
theorem fillL_ok (place : Nat → Option (Nat × Nat)) : ∀ (ps ps' : List (Nat × Value)) (cs out : List Value) (C : Array Value), fillL place cs ps = some out →
    ps.length = ps'.length → (∀ (k : Nat) (p : Nat × Value), ps[k]? = some p → ∃ p', ps'[k]? = some p' ∧ p'.1 = p.1 ∧ VT ρ p.2 p'.2) →
    cs.length = C.size → (∀ (i : Nat) (v : Value), cs[i]? = some v → ∃ v', C[i]? = some v' ∧ VR ρ v v') →
    ∃ D, Instr.fill place C ps' = some D ∧ out.length = D.size ∧ ∀ (i : Nat) (v : Value), out[i]? = some v → ∃ v', D[i]? = some v' ∧ VR ρ v v' := by
  intro ps
  induction ps with
  | nil =>
    intro ps' cs out C h hl _ hcs hrel
    cases ps' with
    | nil => simp only [fillL, Option.some.injEq] at h; subst h; exact ⟨C, rfl, hcs, hrel⟩
    | cons _ _ => simp at hl
  | cons p r ih =>
    intro ps' cs out C h hl hp hcs hrel
    obtain ⟨i, v⟩ := p
    cases ps' with
    | nil => simp at hl
    | cons p' r' =>
      obtain ⟨i', v'⟩ := p'
      obtain ⟨q, hq, hq1, hq2⟩ := hp 0 (i, v) rfl
      simp only [List.getElem?_cons_zero, Option.some.injEq] at hq
      subst hq
      simp only at hq1 hq2
      subst hq1
      simp only [fillL] at h
      split at h
      · rename_i off n hpl
        split at h
        · rename_i hc
          obtain ⟨hc1, hc2, hc3⟩ := hc
          have hvc := (hq2.noLoc hc3).cells
          have hn : v'.cells.size = n := by rw [← hc1, hvc.1]; simp
          have hsz : ¬ (n < v'.cells.size) := by omega
          have hfold := foldl_set v'.cells.toList 0 off C (by rw [Nat.add_zero, Array.length_toList, hn, ← hcs]; exact hc2)
          simp only [Nat.add_zero] at hfold
          have hz : (v'.cells.zipIdx.foldl (fun cs (p : Value × Nat) => cs.setIfInBounds (off + p.2) p.1) C) =
              ⟨C.toList.take off ++ v'.cells.toList ++ C.toList.drop (off + v'.cells.toList.length)⟩ := by
            rw [← hfold, ← Array.foldl_toList, Array.toList_zipIdx]
          have hlen' : (setL cs off v.cells.toList).length = (⟨C.toList.take off ++ v'.cells.toList ++ C.toList.drop (off + v'.cells.toList.length)⟩ : Array Value).size := by
            have h1 := hvc.1
            simp only [setL, List.length_append, List.length_take, List.length_drop, List.size_toArray, Array.length_toList] at h1 hc1 ⊢
            omega
          have hrel' := splice_rel (ρ := ρ) (o := 0) (C := C) (n := cs.length) hvc.1 (by rw [hc1]; exact hc2) (Nat.le_refl _) (by omega) (by simpa using hrel) hvc.2
          obtain ⟨D, e1, e2, e3⟩ := ih r' (setL cs off v.cells.toList) out ⟨C.toList.take off ++ v'.cells.toList ++ C.toList.drop (off + v'.cells.toList.length)⟩ h (by simpa using hl)
            (fun k p hk => hp (k + 1) p (by simpa using hk)) hlen' (by simpa using hrel')
          refine ⟨D, ?_, e2, e3⟩
          simp only [Instr.fill, hpl]
          have hb : ((decide (v'.cells.size ≠ n)) || (decide (off + v'.cells.size > C.size))) = false := by
            rw [Bool.or_eq_false_iff]; exact ⟨by simp [hn], by simp; omega⟩
          simp only [hb, if_false, Bool.false_eq_true]
          rw [← e1, ← hz]
        · simp at h
      · simp at h

def partsA (σ : St) : List (Nat × Operand) → Option (List (Nat × Value))
  | [] => some []
  | (i, x) :: r => match opnd σ x, partsA σ r with
    | some v, some l => some ((i, v) :: l)
    | _, _ => none
theorem partsA_ok {σ : St} (I : Inv P ρ0 h0 w0 ρ σ.m w) {a : Act} (F : FRel ρ σ.t a.tmps) : ∀ {l : List (Nat × Operand)} {ps : List (Nat × Value)}, partsA σ l = some ps →
    ps.length = (l.map fun (p : Nat × Operand) => (p.1, a.eval p.2)).length ∧
      ∀ (k : Nat) (p : Nat × Value), ps[k]? = some p → ∃ p', (l.map fun (p : Nat × Operand) => (p.1, a.eval p.2))[k]? = some p' ∧ p'.1 = p.1 ∧ VT ρ p.2 p'.2 := by
  intro l
  induction l with
  | nil => intro ps h; simp only [partsA, Option.some.injEq] at h; subst h; simp
  | cons q r ih =>
    intro ps h
    obtain ⟨i, x⟩ := q
    simp only [partsA] at h
    split at h
    · rename_i v l hv hl
      obtain rfl := Option.some.inj h
      obtain ⟨q1, q2⟩ := ih hl
      refine ⟨by simpa using q1, fun k p hk => ?_⟩
      cases k with
      | zero => simp at hk; subst hk; exact ⟨_, rfl, rfl, opnd_sound I F hv⟩
      | succ k => exact q2 k p (by simpa using hk)
    · simp at h

def placesT (P : Program) : List Field → Option (List (Nat × Nat))
  | [] => some []
  | f :: r => match szT P f.type, placesT P r with
    | some n, some l => some ((f.offset, n) :: l)
    | _, _ => none
theorem run_places (w : World) : ∀ (fs : List Field) (l : List (Nat × Nat)), placesT P fs = some l → (fs.mapM (fun f => do pure (f.offset, ← sizeOf f.type) : Field → Sem (Nat × Nat))).run P w = .ok l w := by
  intro fs
  induction fs with
  | nil => intro l h; simp only [placesT, Option.some.injEq] at h; subst h; rfl
  | cons f r ih =>
    intro l h
    simp only [placesT] at h
    split at h
    · rename_i n l' hn hl
      obtain rfl := Option.some.inj h
      have ih' := ih l' hl
      rw [List.mapM_cons]
      simp only [Sem.run_bind, run_sizeOf hn, Result.andThen_ok, Sem.run_pure, ih']
    · simp at h

def opBuild (P : Program) (σ : St) (t : TypeId) (parts : Array (Nat × Operand)) : Option (Value × St) :=
  match P.underlying t with
  | some (.struct fs) => match placesT P fs.toList, zeroT P t, partsA σ parts.toList with
    | some pl, some z, some ps => match fillL (fun i => pl[i]?) z ps with
      | some out => some (.agg ⟨out⟩, σ)
      | none => none
    | _, _, _ => none
  | _ => none
theorem opBuild_ok {σ σ' : St} {o : Oper} {t : TypeId} {parts : Array (Nat × Operand)} (ho : o.op = .build t parts) {v : Value} (h : opBuild P σ t parts = some (v, σ')) : StepOK P o σ v σ' := by
  intro ρ0 h0 w0 ρ a w I F
  unfold opBuild at h
  split at h
  rotate_left
  · simp at h
  rename_i fs hu
  split at h
  rotate_left
  · simp at h
  rename_i pl z ps hpl hz hps
  split at h
  rotate_left
  · simp at h
  rename_i out hout
  simp only [Option.some.injEq, Prod.mk.injEq] at h
  obtain ⟨rfl, rfl⟩ := h
  obtain ⟨zv, hzc, hzf, hzr⟩ := run_zeroValue hz
  obtain ⟨q1, q2⟩ := partsA_ok I F hps
  obtain ⟨D, e1, e2, e3⟩ := fillL_ok _ _ _ _ _ ⟨z⟩ hout q1 q2 (by simp) (flat_self hzf)
  obtain ⟨dl⟩ := D
  refine ⟨.value (.agg ⟨dl⟩), _, w, ρ, ?_, rfl, I, F, .val _ _ (.agg _ _ (by simpa using e2) ((vrs_zip (by simpa using e2)).2 (by simpa using e3))), fun _ _ => ⟨rfl, fun _ => rfl⟩⟩
  have hpl' := run_places w fs.toList pl hpl
  have hmap : (parts.map fun (i, x) => (i, a.eval x)).toList = parts.toList.map fun (p : Nat × Operand) => (p.1, a.eval p.2) := by simp
  have hget : (fun (i : Nat) => (pl.toArray)[i]?) = fun (i : Nat) => pl[i]? := by funext i; simp
  simp only [execOp, ho, Instr.build, Sem.run_bind, hzr, Result.andThen_ok, run_underlying hu, hzc, Array.mapM_eq_mapM_toList, Sem.run_map, hpl', hmap, hget, e1]
  rfl

def opBuildSlice (P : Program) (σ : St) (t : TypeId) (len : Nat) (parts : Array (Nat × Operand)) : Option (Value × St) :=
  match elemT P t with
  | some (e, s) => match zeroT P e, partsA σ parts.toList with
    | some z, some ps =>
      if z.length = s ∧ 0 < s ∧ len * s ≤ 16777216 then
        match fillL (fun i => some (i * s, s)) ((List.range (len * s)).map fun i => z.getD (i % s) undef) ps with
        | some out => some (.slice (some ⟨σ.m.h.n, 0, none⟩) len len, ⟨σ.t, ⟨σ.m.x, σ.m.h.new (.row true e out)⟩⟩)
        | none => none
      else none
    | _, _ => none
  | none => none
theorem opBuildSlice_ok {σ σ' : St} {o : Oper} {t len : Nat} {parts : Array (Nat × Operand)} (ho : o.op = .buildSlice t len parts) {v : Value} (h : opBuildSlice P σ t len parts = some (v, σ')) : StepOK P o σ v σ' := by
  intro ρ0 h0 w0 ρ a w I F
  unfold opBuildSlice at h
  split at h
  rotate_left
  · simp at h
  rename_i e s he
  split at h
  rotate_left
  · simp at h
  rename_i z ps hz hps
  split at h
  rotate_left
  · simp at h
  rename_i hc
  obtain ⟨hzl, hpos, hle⟩ := hc
  split at h
  rotate_left
  · simp at h
  rename_i out hout
  simp only [Option.some.injEq, Prod.mk.injEq] at h
  obtain ⟨rfl, rfl⟩ := h
  obtain ⟨zv, hzc, hzf, hzr⟩ := run_zeroValue hz
  obtain ⟨ht, hs⟩ := elemT_some he
  obtain ⟨q1, q2⟩ := partsA_ok I F hps
  have hs0 : 0 < s := hpos
  have hzz : ∀ i, z.getD (i % s) undef = (⟨z⟩ : Array Value)[i % z.length]! := fun i => by
    have : i % s < z.length := by rw [hzl]; exact Nat.mod_lt _ hs0
    rw [hzl, List.getD_eq_getElem?_getD]
    simp [List.getElem?_eq_getElem this]
  have hflat : ∀ v ∈ (List.range (len * s)).map (fun i => z.getD (i % s) undef), flat1 v = true := fun v hv => by
    rw [List.mem_map] at hv
    obtain ⟨i, _, rfl⟩ := hv
    have : i % s < z.length := by rw [hzl]; exact Nat.mod_lt _ hs0
    rw [List.getD_eq_getElem?_getD, List.getElem?_eq_getElem this]
    exact hzf _ (List.getElem_mem this)
  obtain ⟨D, e1, e2, e3⟩ := fillL_ok (ρ := ρ) _ _ _ _ _ ⟨(List.range (len * s)).map fun i => z.getD (i % s) undef⟩ hout q1 q2 (by simp) (flat_self hflat)
  have hfit : Fits P ρ (.row true e out) (.cells D e (0, 0)) ⟨w.heap.size, 0, D.size, P.cellsOf e⟩ := .row e e out D _ (by rw [e2]; exact Nat.le_refl _) e3
  have hdim : ∀ (l : List (Nat × Value)) (C : Array Value) (D : Array Value), Instr.fill (fun i => some (i * s, s)) C l = some D → D.size = C.size := by
    intro l
    induction l with
    | nil => intro C D h; simp [Instr.fill] at h; rw [h]
    | cons p r ih =>
      intro C D h
      simp only [Instr.fill] at h
      split at h
      · cases h
      · rw [ih _ _ h, ← Array.foldl_toList]
        have : ∀ (l : List (Value × Nat)) (C : Array Value) (k : Nat), (l.foldl (fun cs (p : Value × Nat) => cs.setIfInBounds (k + p.2) p.1) C).size = C.size := by
          intro l
          induction l with
          | nil => intro C k; rfl
          | cons q t ih2 => intro C k; rw [List.foldl_cons, ih2]; simp
        exact this _ _ _
  have hD : D.size = len * s := by rw [hdim _ _ _ e1]; simp
  refine ⟨.value (.slice (some ⟨w.heap.size, 0, none⟩) len len), _, w.alloc (.cells D e), _, ?_, rfl, I.newH hfit rfl, F.mono (fun b pl q => ?_) (fun s => Rho.upd_ne _ _ (by simp)), ?_, fun s' _ => ⟨Rho.upd_ne _ _ (by simp), fun _ => rfl⟩⟩
  · have hbig : ¬ (16777216 < len * s) := by omega
    have hmap : (parts.map fun (i, x) => (i, a.eval x)).toList = parts.toList.map fun (p : Nat × Operand) => (p.1, a.eval p.2) := by simp
    have hrange : (Array.range (len * s)).map (fun i => (⟨z⟩ : Array Value)[i % (⟨z⟩ : Array Value).size]!) = ⟨(List.range (len * s)).map fun i => z.getD (i % s) undef⟩ := by
      apply Array.ext'
      simp only [Array.toList_map, Array.toList_range]
      apply List.map_congr_left
      intro i _
      rw [hzz i]; rfl
    simp only [execOp, ho, Instr.buildSlice, Sem.run_bind, run_underlying ht, Result.andThen_ok, run_sizeOf hs]
    rw [if_neg (by simpa using hbig)]
    by_cases hne : len * s = 0
    · have hrange0 : (Array.range (len * s)).map (fun i => (#[] : Array Value)[i % (#[] : Array Value).size]!) = ⟨(List.range (len * s)).map fun i => z.getD (i % s) undef⟩ := by rw [hne]; simp
      simp only [hne, if_true, Sem.run_bind, Sem.run_pure, Result.andThen_ok]
      rw [hne] at hrange0 e1
      simp only [hrange0, hmap, e1]
      rfl
    · simp only [hne, if_false, Sem.run_bind, Sem.run_pure, hzr, Result.andThen_ok, hzc, hrange, hmap, e1]
      rfl
  · rw [Rho.upd_ne]; exact q
    intro z; simp only [Prod.mk.injEq, true_and] at z; subst z; exact Nat.lt_irrefl _ (I.rel.dom _ _ q)
  · have hcell : P.cellsOf e = s := by
      unfold szT at hs
      cases hi : P.info? e with
      | none => simp [hi] at hs
      | some i => simp [hi] at hs; simp [Program.cellsOf, hi, hs]
    have := VR.sl (ρ := ρ.upd (false, σ.m.h.n) ⟨w.heap.size, 0, D.size, P.cellsOf e⟩) σ.m.h.n 0 len len ⟨w.heap.size, 0, D.size, P.cellsOf e⟩ len (Rho.upd_same _ _ _) (Nat.le_refl _) (by
      simp only [hcell, hD]; omega)
    exact VT.val _ _ this

theorem wrap_i64_in {n : Int} (h0 : 0 ≤ n) (h1 : n < 9223372036854775808) : IntKind.i64.wrap n = n := by
  rw [IntKind.wrap_i64]; omega

def zeroRow (z : List Value) (s n : Nat) : List Value := (List.range (n * s)).map fun i => z.getD (i % s) undef
theorem zeroRow_one (v : Value) (n : Nat) : zeroRow [v] 1 n = List.replicate n v := by
  simp only [zeroRow, Nat.mul_one]
  apply List.ext_getElem
  · simp
  · intro i h1 h2
    simp [Nat.mod_one]
def opMakeSlice (P : Program) (σ : St) (t : TypeId) (x y : Operand) : Option (Value × St) :=
  match opnd σ x, opnd σ y with
  | some (.int _ l), some (.int _ c) =>
    match elemT P t with
    | some (e, s) => match zeroT P e, bytesT P e with
      | some z, some by_ =>
        if z.length = s ∧ 0 < s ∧ 0 < by_ ∧ 0 ≤ l ∧ l ≤ c ∧ c.toNat * by_ ≤ maxA then
          some (.slice (some ⟨σ.m.h.n, 0, none⟩) l.toNat l.toNat, ⟨σ.t, ⟨σ.m.x, σ.m.h.new (.row true e (zeroRow z s c.toNat))⟩⟩)
        else none
      | _, _ => none
    | none => none
  | _, _ => none
theorem opMakeSlice_ok {σ σ' : St} {o : Oper} {t : TypeId} {x y : Operand} (ho : o.op = .makeSlice t x y) {v : Value} (h : opMakeSlice P σ t x y = some (v, σ')) : StepOK P o σ v σ' := by
  intro ρ0 h0 w0 ρ a w I F
  unfold opMakeSlice at h
  split at h
  rotate_left
  · simp at h
  rename_i k1 l k2 c hx hy
  split at h
  rotate_left
  · simp at h
  rename_i e s he
  split at h
  rotate_left
  · simp at h
  rename_i z by_ hz hby
  split at h
  rotate_left
  · simp at h
  rename_i hcond
  obtain ⟨hzl, hs0, hb0, hl0, hlc, hmax⟩ := hcond
  unfold maxA at hmax
  simp only [Option.some.injEq, Prod.mk.injEq] at h
  obtain ⟨rfl, rfl⟩ := h
  obtain ⟨ht, hs⟩ := elemT_some he
  obtain ⟨zv, hzc, hzf, hzr⟩ := run_zeroValue hz
  have hxv := (opnd_sound I F hx).flat2 rfl
  have hyv := (opnd_sound I F hy).flat2 rfl
  have hcb : c.toNat ≤ c.toNat * by_ := Nat.le_mul_of_pos_right _ hb0
  have hwc : IntKind.i64.wrap c = c := wrap_i64_in (by omega) (by omega)
  have hwl : IntKind.i64.wrap l = l := wrap_i64_in (by omega) (by omega)
  have hinfo : ∃ i, P.info? e = some i ∧ i.bytes = by_ := by
    unfold bytesT at hby
    cases hi : P.info? e with
    | none => simp [hi] at hby
    | some i => exact ⟨i, rfl, by simpa [hi] using hby⟩
  obtain ⟨i, hi, rfl⟩ := hinfo
  have hflat : ∀ v ∈ zeroRow z s c.toNat, flat1 v = true := fun v hv => by
    rw [zeroRow, List.mem_map] at hv
    obtain ⟨i, _, rfl⟩ := hv
    have : i % s < z.length := by rw [hzl]; exact Nat.mod_lt _ hs0
    rw [List.getD_eq_getElem?_getD, List.getElem?_eq_getElem this]
    exact hzf _ (List.getElem_mem this)
  have hfit : Fits P ρ (.row true e (zeroRow z s c.toNat)) (.cells ⟨zeroRow z s c.toNat⟩ e (0, 0)) ⟨w.heap.size, 0, (⟨zeroRow z s c.toNat⟩ : Array Value).size, P.cellsOf e⟩ :=
    .row e e _ ⟨zeroRow z s c.toNat⟩ _ (by simp) (flat_self hflat)
  refine ⟨.value (.slice (some ⟨w.heap.size, 0, none⟩) l.toNat c.toNat), _, w.alloc (.cells ⟨zeroRow z s c.toNat⟩ e), _, ?_, rfl, I.newH hfit rfl, F.mono (fun b pl q => ?_) (fun s => Rho.upd_ne _ _ (by simp)), ?_, fun s' _ => ⟨Rho.upd_ne _ _ (by simp), fun _ => rfl⟩⟩
  · have hbi : (i.bytes : Int) * c = ((c.toNat * i.bytes : Nat) : Int) := by
      rw [Int.natCast_mul, Int.toNat_of_nonneg (by omega), Int.mul_comm]
    have hbl : (i.bytes : Int) * c ≤ 140737488355328 := by rw [hbi]; exact Int.ofNat_le.2 hmax
    have hrow : ∀ C : Array Value, (C = if c.toNat * s = 0 then #[] else ⟨z⟩) → (Array.range (c.toNat * s)).map (fun i => C[i % C.size]!) = ⟨zeroRow z s c.toNat⟩ := by
      intro C hC
      apply Array.ext'
      simp only [Array.toList_map, Array.toList_range, zeroRow]
      apply List.map_congr_left
      intro j hj
      rw [List.mem_range] at hj
      rw [hC, if_neg (by omega)]
      have : j % s < z.length := by rw [hzl]; exact Nat.mod_lt _ hs0
      simp [hzl, List.getD_eq_getElem?_getD, List.getElem?_eq_getElem this]
    have hb1 : ¬ (c < 0) := by omega
    have hb2 : ¬ ((i.bytes : Int) * c > 281474976710656) := by omega
    have hb3 : ¬ (l < 0) := by omega
    have hb4 : ¬ (l > c) := by omega
    by_cases hn : c.toNat * s = 0
    · have := hrow #[] (by rw [if_pos hn])
      rw [hn] at this
      simp only [List.size_toArray, List.length_nil] at this
      simp [execOp, ho, Instr.makeSlice, run_underlying ht, hxv, hyv, asInt, asIntOf, typeInfo, hi, hwc, hwl, hb1, hb2, hb3, hb4, run_sizeOf hs, hn, newRow]
      first
        | (congr 2; simpa using this)
        | (congr 2; done)
    · have := hrow ⟨z⟩ (by rw [if_neg hn])
      simp [execOp, ho, Instr.makeSlice, run_underlying ht, hxv, hyv, asInt, asIntOf, typeInfo, hi, hwc, hwl, hb1, hb2, hb3, hb4, run_sizeOf hs, hn, newRow, hzr, hzc]
      first
        | (congr 2; simpa using this)
        | (congr 2; done)
  · rw [Rho.upd_ne]; exact q
    intro z; simp only [Prod.mk.injEq, true_and] at z; subst z; exact Nat.lt_irrefl _ (I.rel.dom _ _ q)
  · have hcell : P.cellsOf e = s := by
      unfold szT at hs
      simp only [hi, Option.map_some, Option.some.injEq] at hs
      simp [Program.cellsOf, hi, hs]
    have := VR.sl (ρ := ρ.upd (false, σ.m.h.n) ⟨w.heap.size, 0, (⟨zeroRow z s c.toNat⟩ : Array Value).size, P.cellsOf e⟩) σ.m.h.n 0 l.toNat l.toNat
      ⟨w.heap.size, 0, (⟨zeroRow z s c.toNat⟩ : Array Value).size, P.cellsOf e⟩ c.toNat (Rho.upd_same _ _ _) (by omega) (by
      simp only [hcell, List.size_toArray, zeroRow, List.length_map, List.length_range]; omega)
    exact VT.val _ _ this

/-! #### iterators over strings -/
def opRange (P : Program) (σ : St) (t : TypeId) (x : Operand) : Option (Value × St) :=
  match P.underlying t, opnd σ x with
  | some .string, some (.string s) => some (.pointer (some ⟨σ.m.h.n, 0, none⟩), ⟨σ.t, ⟨σ.m.x, σ.m.h.new (.obj (.stringIter s 0))⟩⟩)
  | _, _ => none
theorem opRange_ok {σ σ' : St} {o : Oper} {t : TypeId} {x : Operand} (ho : o.op = .range t x) {v : Value} (h : opRange P σ t x = some (v, σ')) : StepOK P o σ v σ' := by
  intro ρ0 h0 w0 ρ a w I F
  unfold opRange at h
  split at h
  rotate_left
  · simp at h
  rename_i s ht hx
  simp only [Option.some.injEq, Prod.mk.injEq] at h
  obtain ⟨rfl, rfl⟩ := h
  have hxv := (opnd_sound I F hx).flat2 rfl
  have hfit : Fits P ρ (.obj (.stringIter s 0)) (.stringIter s 0) ⟨w.heap.size, 0, 0, 0⟩ := .obj _ _ _
  refine ⟨.value (.pointer (some ⟨w.heap.size, 0, none⟩)), _, w.alloc (.stringIter s 0), _, ?_, rfl, I.newH hfit rfl, F.mono (fun b pl q => ?_) (fun s => Rho.upd_ne _ _ (by simp)), ?_, fun s' _ => ⟨Rho.upd_ne _ _ (by simp), fun _ => rfl⟩⟩
  · simp [execOp, ho, Instr.range, run_underlying ht, hxv]
  · rw [Rho.upd_ne]; exact q
    intro z; simp only [Prod.mk.injEq, true_and] at z; subst z; exact Nat.lt_irrefl _ (I.rel.dom _ _ q)
  · have := VT.ofPtr (ρ := ρ.upd (false, σ.m.h.n) ⟨w.heap.size, 0, 0, 0⟩) (ad := ⟨σ.m.h.n, 0, none⟩) (pl := ⟨w.heap.size, 0, 0, 0⟩) (by simp [key, Rho.upd])
    simpa using this

def opNextS (σ : St) (x : Operand) : Option (Value × St) :=
  match opnd σ x with
  | some (.pointer (some ⟨b, 0, none⟩)) => match σ.m.h.f b with
    | .obj (.stringIter s pos) =>
      if pos < s.size then
        some (.tuple #[.bool true, .int .i64 pos, .int .i32 (Utf8.decode s pos).1], ⟨σ.t, ⟨σ.m.x, σ.m.h.set b (.obj (.stringIter s (pos + (Utf8.decode s pos).2)))⟩⟩)
      else some (.tuple #[.bool false], σ)
    | _ => none
  | _ => none
theorem opNextS_ok {σ σ' : St} {o : Oper} {x : Operand} (ho : o.op = .next x true) {v : Value} (h : opNextS σ x = some (v, σ')) : StepOK P o σ v σ' := by
  intro ρ0 h0 w0 ρ a w I F
  unfold opNextS at h
  split at h
  rotate_left
  · simp at h
  rename_i b hx
  split at h
  rotate_left
  · simp at h
  rename_i s pos hb
  obtain ⟨pl, hk, hv⟩ := (opnd_sound I F hx).ptr
  have hk : ρ (false, b) = some pl := hk
  obtain ⟨hobj, ho0⟩ := I.rel.obj b pl _ hk hb
  have hv0 : a.eval x = .pointer (some ⟨pl.B, 0, none⟩) := by simp [hv, ho0]
  have hget : (getObj pl.B).run P w = .ok (.stringIter s pos) w := by simp [getObj, Sem.run, hobj]
  split at h
  · rename_i hlt
    simp only [Option.some.injEq, Prod.mk.injEq] at h
    obtain ⟨rfl, rfl⟩ := h
    refine ⟨.value (.tuple #[.bool true, .int .i64 pos, .int .i32 (Utf8.decode s pos).1]), _, _, ρ, ?_, rfl, I.setObj hk hb (.stringIter s (pos + (Utf8.decode s pos).2)), F, .of_flat2 rfl, fun _ _ => ⟨rfl, fun _ => rfl⟩⟩
    simp [execOp, ho, Instr.next, hv0, hget, hlt, goInt, setObj, Sem.run, hobj]
  · rename_i hge
    simp only [Option.some.injEq, Prod.mk.injEq] at h
    obtain ⟨rfl, rfl⟩ := h
    refine ⟨.value (.tuple #[.bool false]), _, w, ρ, ?_, rfl, I, F, .of_flat2 rfl, fun _ _ => ⟨rfl, fun _ => rfl⟩⟩
    simp [execOp, ho, Instr.next, hv0, hget, hge]
end
end Go.Am
/- The abstract machine, part G (maps): making, looking up, updating maps whose keys and values have no addresses. -/
namespace Go.Am
open Go
section
variable {P : Program} {ρ0 ρ ρ' : Rho} {h0 : Heap} {w0 w : World} {m : Mem}
theorem VT.mp {v' : Value} {b : Nat} (h : VT ρ (.map (some b)) v') : ∃ pl, ρ (false, b) = some pl ∧ v' = .map (some pl.B) := by
  cases h with
  | val _ _ h => cases h with | mp _ pl hk => exact ⟨pl, hk, rfl⟩
def opMakeMap (P : Program) (σ : St) (t : TypeId) (r : Option Operand) : Option (Value × St) := match r with
  | none => some (.map (some σ.m.h.n), ⟨σ.t, ⟨σ.m.x, σ.m.h.new (.obj (.map #[] 0))⟩⟩)
  | some x => match P.underlying t, opnd σ x with
    | some (.map _ _), some (.int _ _) => some (.map (some σ.m.h.n), ⟨σ.t, ⟨σ.m.x, σ.m.h.new (.obj (.map #[] 0))⟩⟩)
    | _, _ => none
theorem opMakeMap_ok {σ σ' : St} {o : Oper} {t : TypeId} {r : Option Operand} (ho : o.op = .makeMap t r) {v : Value} (h : opMakeMap P σ t r = some (v, σ')) : StepOK P o σ v σ' := by
  intro ρ0 h0 w0 ρ a w I F
  have hfit : Fits P ρ (.obj (.map #[] 0)) (.map #[] 0) ⟨w.heap.size, 0, 0, 0⟩ := .obj _ _ _
  have key : (execOp a.eval o).run P w = .ok (.value (.map (some w.heap.size))) (w.alloc (.map #[] 0)) → v = .map (some σ.m.h.n) → σ' = ⟨σ.t, ⟨σ.m.x, σ.m.h.new (.obj (.map #[] 0))⟩⟩ →
      ∃ nx v' w' ρ', (execOp a.eval o).run P w = .ok nx w' ∧ outV nx = some v' ∧ Inv P ρ0 h0 w0 ρ' σ'.m w' ∧ FRel ρ' σ'.t a.tmps ∧ VT ρ' v v' ∧ ∀ s, (∀ d, o.dst = some d → d ≠ s) → ρ' (true, s) = ρ (true, s) ∧ (ρ (true, s) = none → σ'.m.x s = σ.m.x s) := by
    rintro hrun rfl rfl
    refine ⟨.value (.map (some w.heap.size)), _, w.alloc (.map #[] 0), _, hrun, rfl, I.newH hfit rfl, F.mono (fun b pl q => ?_) (fun s => Rho.upd_ne _ _ (by simp)), ?_, fun s' _ => ⟨Rho.upd_ne _ _ (by simp), fun _ => rfl⟩⟩
    · rw [Rho.upd_ne]; exact q
      intro z; simp only [Prod.mk.injEq, true_and] at z; subst z; exact Nat.lt_irrefl _ (I.rel.dom _ _ q)
    · exact .val _ _ (VR.mp (ρ := ρ.upd (false, σ.m.h.n) ⟨w.heap.size, 0, 0, 0⟩) σ.m.h.n ⟨w.heap.size, 0, 0, 0⟩ (Rho.upd_same _ _ _))
  cases r with
  | none =>
    simp only [opMakeMap, Option.some.injEq, Prod.mk.injEq] at h
    refine key ?_ h.1.symm h.2.symm
    simp [execOp, ho, Instr.makeMap, newObj, Sem.run]
  | some x =>
    unfold opMakeMap at h
    simp only at h
    split at h
    rotate_left
    · simp at h
    rename_i kt et kk n ht hx
    simp only [Option.some.injEq, Prod.mk.injEq] at h
    refine key ?_ h.1.symm h.2.symm
    have hxv := (opnd_sound I F hx).flat2 rfl
    simp [execOp, ho, Instr.makeMap, newObj, Sem.run, run_underlying ht, hxv, asInt, asIntOf]
/-- what is found of a key in a map's entries -/
def findS (key elem : TypeId) (k : Value) (es : Array MapEntry) (ok : Bool) : Sem Value := do
  Instr.checkKey es.isEmpty 10000 key k
  let (v, b) ← match ← Instr.findKey key k es.toList with
    | some (_, v) => pure (v, true)
    | none => pure (← zeroValue elem, false)
  pure (if ok then .tuple #[v, .bool b] else v)
def opLookup (P : Program) (σ : St) (t : TypeId) (x i : Operand) (ok : Bool) : Option (Value × St) :=
  match P.underlying t, opnd σ x, opnd σ i with
  | some (.map key elem), some (.map (some b)), some k => match σ.m.h.f b with
    | .obj (.map es _) => if flat2 k then match (findS key elem k es ok).pureRun P with
      | some v => if flat2 v then some (v, σ) else none
      | none => none
      else none
    | _ => none
  | _, _, _ => none
theorem opLookup_ok {σ σ' : St} {o : Oper} {t : TypeId} {x i : Operand} {ok : Bool} (ho : o.op = .lookup t x i ok) {v : Value} (h : opLookup P σ t x i ok = some (v, σ')) : StepOK P o σ v σ' := by
  intro ρ0 h0 w0 ρ a w I F
  unfold opLookup at h
  split at h
  rotate_left
  · simp at h
  rename_i key elem b k ht hx hi
  split at h
  rotate_left
  · simp at h
  rename_i es clock hb
  split at h
  rotate_left
  · simp at h
  rename_i hfk
  split at h
  rotate_left
  · simp at h
  rename_i u hu
  split at h
  rotate_left
  · simp at h
  rename_i hfv
  simp only [Option.some.injEq, Prod.mk.injEq] at h
  obtain ⟨rfl, rfl⟩ := h
  obtain ⟨pl, hk, hv⟩ := (opnd_sound I F hx).mp
  obtain ⟨hobj, ho0⟩ := I.rel.obj b pl _ hk hb
  have hkv := (opnd_sound I F hi).flat2 hfk
  have hget : (getObj pl.B).run P w = .ok (.map es clock) w := by simp [getObj, Sem.run, hobj]
  have hrun := pureRun_run P _ _ hu w
  refine ⟨.value u, u, w, ρ, ?_, rfl, I, F, .of_flat2 hfv, fun _ _ => ⟨rfl, fun _ => rfl⟩⟩
  have e : Instr.lookup t (.map (some pl.B)) k ok = (do
      let .map key elem ← underlying t | stuck "Lookup: map type expected"
      let .map es _ ← getObj pl.B | stuck "Lookup: map expected"
      findS key elem k es ok) := rfl
  simp only [execOp, ho, hv, hkv]
  rw [e]
  simp only [Sem.run_bind, run_underlying ht, Result.andThen_ok, hget, hrun]
  rfl
/-- where a key stands in a map's entries -/
def whereS (key : TypeId) (k : Value) (es : Array MapEntry) : Sem (Option (Nat × Value)) := do
  Instr.checkKey false 10000 key k
  Instr.findKey key k es.toList
theorem whereS_run {key : TypeId} {k : Value} {es : Array MapEntry} {r : Option (Nat × Value)} (h : (whereS key k es).pureRun P = some r) (w : World) :
    (Instr.checkKey false 10000 key k).run P w = .ok () w ∧ (Instr.findKey key k es.toList).run P w = .ok r w := by
  unfold whereS at h
  rw [pureRun_bind] at h
  cases hc : (Instr.checkKey false 10000 key k).pureRun P with
  | none => rw [hc] at h; cases h
  | some u =>
    rw [hc] at h
    exact ⟨pureRun_run P _ _ hc w, pureRun_run P _ _ h w⟩
def opMapUpdate (P : Program) (σ : St) (t : TypeId) (x i y : Operand) : Option (Value × St) :=
  match P.underlying t, opnd σ x, opnd σ i, opnd σ y with
  | some (.map key _), some (.map (some b)), some k, some u => match σ.m.h.f b with
    | .obj (.map es clock) => if flat2 k && flat2 u then match (whereS key k es).pureRun P with
      | some none => some (undef, ⟨σ.t, ⟨σ.m.x, σ.m.h.set b (.obj (.map (es.push { key := k, val := u, born := clock }) (clock + 1)))⟩⟩)
      | some (some (j, _)) => if Instr.sameBits 10000 (((es[j]?).map (·.key)).getD k) k then
          some (undef, ⟨σ.t, ⟨σ.m.x, σ.m.h.set b (.obj (.map (es.modify j fun e => { e with key := k, val := u }) clock))⟩⟩)
        else none
      | none => none
      else none
    | _ => none
  | _, _, _, _ => none
theorem opMapUpdate_ok {σ σ' : St} {o : Oper} {t : TypeId} {x i y : Operand} (ho : o.op = .mapUpdate t x i y ∨ o.op = .insert t x i y) {v : Value} (h : opMapUpdate P σ t x i y = some (v, σ')) : StepOK P o σ v σ' := by
  intro ρ0 h0 w0 ρ a w I F
  unfold opMapUpdate at h
  split at h
  rotate_left
  · simp at h
  rename_i key elem b k u ht hx hi hy
  split at h
  rotate_left
  · simp at h
  rename_i es clock hb
  split at h
  rotate_left
  · simp at h
  rename_i hfk
  rw [Bool.and_eq_true] at hfk
  obtain ⟨pl, hk, hv⟩ := (opnd_sound I F hx).mp
  obtain ⟨hobj, ho0⟩ := I.rel.obj b pl _ hk hb
  have hkv := (opnd_sound I F hi).flat2 hfk.1
  have hyv := (opnd_sound I F hy).flat2 hfk.2
  have hget : (getObj pl.B).run P w = .ok (.map es clock) w := by simp [getObj, Sem.run, hobj]
  have hset : ∀ o', (setObj pl.B o').run P w = .ok () { w with heap := w.heap.setIfInBounds pl.B o' } := fun o' => by simp [setObj, Sem.run, hobj]
  have hex : execOp a.eval o = (do Instr.mapUpdate t (a.eval x) (a.eval i) (a.eval y); pure Next.skip) := by
    rcases ho with ho | ho <;> simp only [execOp, ho]
  have e : Instr.mapUpdate t (.map (some pl.B)) k u = (do
      let .map keyType _ ← underlying t | stuck "MapUpdate: map type expected"
      let .map es clock ← getObj pl.B | stuck "MapUpdate: map expected"
      Instr.checkKey false 10000 keyType k
      match ← Instr.findKey keyType k es.toList with
      | some (i, _) => do
        let key ← Instr.keyThatStays (((es[i]?).map (·.key)).getD k) k
        setObj pl.B (.map (es.modify i fun e => { e with key, val := u }) clock)
      | none => setObj pl.B (.map (es.push { key := k, val := u, born := clock }) (clock + 1))) := rfl
  split at h
  · rename_i hw
    simp only [Option.some.injEq, Prod.mk.injEq] at h
    obtain ⟨rfl, rfl⟩ := h
    refine ⟨.skip, undef, _, ρ, ?_, rfl, I.setObj hk hb _, F, .of_flat2 rfl, fun _ _ => ⟨rfl, fun _ => rfl⟩⟩
    rw [hex, hv, hkv, hyv, e]
    obtain ⟨h1, h2⟩ := whereS_run hw w
    simp only [Sem.run_bind, run_underlying ht, Result.andThen_ok, hget, h1, h2, hset]
    rfl
  · rename_i j v' hw
    split at h
    rotate_left
    · simp at h
    rename_i hs
    simp only [Option.some.injEq, Prod.mk.injEq] at h
    obtain ⟨rfl, rfl⟩ := h
    refine ⟨.skip, undef, _, ρ, ?_, rfl, I.setObj hk hb _, F, .of_flat2 rfl, fun _ _ => ⟨rfl, fun _ => rfl⟩⟩
    rw [hex, hv, hkv, hyv, e]
    obtain ⟨h1, h2⟩ := whereS_run hw w
    simp only [Sem.run_bind, run_underlying ht, Result.andThen_ok, hget, h1, h2, Instr.keyThatStays, hs, if_true, Sem.run_pure, hset]
  · simp at h
end
end Go.Am
