/- The abstract machine, part A: abstract frames, memory, and what they stand for in the model's world. -/
import Derived.Calls
import Derived.Below
import Derived.WalkKit
set_option linter.unusedVariables false
set_option linter.unusedSimpArgs false
set_option linter.unusedSectionVars false
namespace Go.Am
open Go

/-! ### frames -/
def Fr := Nat → Option Value
def Fr.get (T : Fr) (i : Nat) : Option Value := T i
def Fr.put (T : Fr) (i : Nat) (v : Value) : Fr := fun j => if i = j then some v else T j
def lookL {α : Type} : List (Nat × Option α) → Nat → Option α
  | [], _ => none
  | (j, v) :: r, i => if j = i then v else lookL r i
def Fr.ofList (l : List (Nat × Option Value)) : Fr := lookL l
def Fr.prune (T : Fr) (l : List Nat) : Fr := Fr.ofList (l.map fun i => (i, T.get i))
def locOf : Value → Option Nat
  | .pointer (some ⟨s, _, some _⟩) => some s
  | _ => none
/-- without the local pointers to slot s -/
def scrub1 (s : Nat) : Option Value → Option Value
  | some v => match locOf v with
    | some s' => if s' = s then none else some v
    | none => some v
  | none => none
def Fr.scrub (s : Nat) (T : Fr) : Fr := fun i => scrub1 s (T i)
theorem Fr.get_scrub (s : Nat) (T : Fr) (i : Nat) : (T.scrub s).get i = scrub1 s (T.get i) := rfl
theorem lookL_map {α : Type} (T : Nat → Option α) (i : Nat) (v : α) : ∀ l : List Nat, lookL (l.map fun i => (i, T i)) i = some v → T i = some v := by
  intro l
  induction l with
  | nil => simp [lookL]
  | cons j r ih =>
    simp only [List.map_cons, lookL]
    split
    · rename_i h; subst h; exact id
    · exact ih
theorem Fr.get_prune (T : Fr) (i : Nat) (v : Value) (l : List Nat) (h : (T.prune l).get i = some v) : T.get i = some v := lookL_map T.get i v l h

/-! ### memory -/
inductive Blk
  | dead
  | row (w : Bool) (e : TypeId) (cs : List Value)
  | obj (o : Obj)
structure Heap where
  n : Nat
  g : Nat
  f : Nat → Blk
def Heap.set (h : Heap) (b : Nat) (x : Blk) : Heap := { h with f := fun i => if i = b then x else h.f i }
def Heap.new (h : Heap) (x : Blk) : Heap := { n := h.n + 1, g := h.g, f := fun i => if i = h.n then x else h.f i }
def Boxes := Nat → Option (TypeId × List Value)
def Boxes.look (x : Boxes) (i : Nat) : Option (TypeId × List Value) := x i
def Boxes.nil : Boxes := fun _ => none
def Boxes.set (x : Boxes) (i : Nat) (v : TypeId × List Value) : Boxes := fun j => if i = j then some v else x j
def Boxes.ofList (l : List (Nat × Option (TypeId × List Value))) : Boxes := lookL l
def Boxes.prune (x : Boxes) (l : List Nat) : Boxes := Boxes.ofList (l.map fun i => (i, x.look i))
theorem Boxes.look_set (l : Boxes) (i j : Nat) (v : TypeId × List Value) : (l.set i v).look j = if i = j then some v else l.look j := rfl
structure Mem where
  x : Boxes
  h : Heap
abbrev Key := Bool × Nat
def Mem.row? (m : Mem) : Key → Option (Bool × TypeId × List Value)
  | (true, s) => match m.x.look s with
    | some (e, cs) => some (true, e, cs)
    | none => none
  | (false, b) => match m.h.f b with
    | .row w e cs => some (w, e, cs)
    | _ => none
def Mem.live (m : Mem) : Key → Prop
  | (true, s) => (m.x.look s).isSome = true
  | (false, b) => m.h.f b ≠ .dead
def Heap.wr (h : Heap) (b : Nat) : Prop := match h.f b with
  | .row w _ _ => w = true
  | .obj _ => True
  | .dead => False
def Mem.wr (m : Mem) : Key → Prop
  | (true, s) => (m.x.look s).isSome = true
  | (false, b) => m.h.wr b
theorem Mem.live_of_wr {m : Mem} {k : Key} (h : m.wr k) : m.live k := by
  obtain ⟨t, b⟩ := k
  cases t
  · simp only [Mem.wr, Heap.wr] at h; simp only [Mem.live]; intro e; rw [e] at h; exact h
  · exact h
theorem Mem.live_of_row {m : Mem} {k : Key} {r} (h : m.row? k = some r) : m.live k := by
  obtain ⟨t, b⟩ := k
  cases t
  · simp only [Mem.row?] at h; simp only [Mem.live]; intro e; rw [e] at h; simp at h
  · simp only [Mem.row?] at h; simp only [Mem.live]; cases hl : m.x.look b <;> simp_all
theorem Mem.wr_of_row {m : Mem} {k : Key} {e cs} (h : m.row? k = some (true, e, cs)) : m.wr k := by
  obtain ⟨t, b⟩ := k
  cases t
  · simp only [Mem.row?] at h; simp only [Mem.wr, Heap.wr]; split at h <;> simp_all
  · simp only [Mem.row?] at h; simp only [Mem.wr]; cases hl : m.x.look b <;> simp_all

/-! ### places -/
structure Pl where
  B : Nat
  o : Nat
  n : Nat
  sz : Nat
abbrev Rho := Key → Option Pl

inductive VR (ρ : Rho) : Value → Value → Prop
  | bool (b : Bool) : VR ρ (.bool b) (.bool b)
  | int (k : IntKind) (n : Int) : VR ρ (.int k n) (.int k n)
  | string (s : ByteArray) : VR ρ (.string s) (.string s)
  | nilp : VR ρ (.pointer none) (.pointer none)
  | nilm : VR ρ (.map none) (.map none)
  | nilf : VR ρ .nilFunc .nilFunc
  | nili : VR ρ .nilIface .nilIface
  | ptr (b off : Nat) (pl : Pl) (h : ρ (false, b) = some pl) : VR ρ (.pointer (some ⟨b, off, none⟩)) (.pointer (some ⟨pl.B, pl.o + off, none⟩))
  | mp (b : Nat) (pl : Pl) (h : ρ (false, b) = some pl) : VR ρ (.map (some b)) (.map (some pl.B))
  | sln : VR ρ (.slice none 0 0) (.slice none 0 0)
  | sl0 (a a' : Addr) (c : Nat) : VR ρ (.slice (some a) 0 c) (.slice (some a') 0 0)
  | sl (b off len c : Nat) (pl : Pl) (cap : Nat) (h : ρ (false, b) = some pl) (hc : len ≤ cap) (hn : off + cap * pl.sz ≤ pl.n) :
      VR ρ (.slice (some ⟨b, off, none⟩) len c) (.slice (some ⟨pl.B, pl.o + off, none⟩) len cap)
  | iface (t : TypeId) (v v' : Value) (h : VR ρ v v') : VR ρ (.iface t v) (.iface t v')
  | agg (cs ds : List Value) (hl : cs.length = ds.length) (h : ∀ p ∈ cs.zip ds, VR ρ p.1 p.2) : VR ρ (.agg ⟨cs⟩) (.agg ⟨ds⟩)
  | tuple (cs ds : List Value) (hl : cs.length = ds.length) (h : ∀ p ∈ cs.zip ds, VR ρ p.1 p.2) : VR ρ (.tuple ⟨cs⟩) (.tuple ⟨ds⟩)
  | func (fn : Fn) (as as' cs ds : List Value) (ha : as.length = as'.length) (hl : cs.length = ds.length) (h1 : ∀ p ∈ as.zip as', VR ρ p.1 p.2)
      (h : ∀ p ∈ cs.zip ds, VR ρ p.1 p.2) : VR ρ (.func fn ⟨as⟩ ⟨cs⟩) (.func fn ⟨as'⟩ ⟨ds⟩)

/-- frames' values: a pointer to a box of this frame, or a value -/
inductive VT (ρ : Rho) : Value → Value → Prop
  | val (v v' : Value) (h : VR ρ v v') : VT ρ v v'
  | loc (s off x : Nat) (pl : Pl) (h : ρ (true, s) = some pl) : VT ρ (.pointer (some ⟨s, off, some x⟩)) (.pointer (some ⟨pl.B, pl.o + off, none⟩))

def VRs (ρ : Rho) (cs ds : List Value) : Prop := cs.length = ds.length ∧ ∀ (i : Nat) (v : Value), cs[i]? = some v → ∃ v', ds[i]? = some v' ∧ VR ρ v v'
theorem vrs_zip {ρ : Rho} {cs ds : List Value} (hl : cs.length = ds.length) : (∀ p ∈ cs.zip ds, VR ρ p.1 p.2) ↔ ∀ (i : Nat) (v : Value), cs[i]? = some v → ∃ v', ds[i]? = some v' ∧ VR ρ v v' := by
  constructor
  · intro h i v hi
    have h1 : i < cs.length := by rcases Nat.lt_or_ge i cs.length with q | q; exact q; simp [List.getElem?_eq_none q] at hi
    have h2 : i < ds.length := hl ▸ h1
    have e1 : cs[i] = v := by simpa [List.getElem?_eq_getElem h1] using hi
    refine ⟨ds[i], List.getElem?_eq_getElem h2, ?_⟩
    have := h (cs[i], ds[i]) (by rw [List.mem_iff_getElem]; exact ⟨i, by simp; omega, by simp⟩)
    simpa [e1] using this
  · rintro h ⟨a, b⟩ hp
    rw [List.mem_iff_getElem] at hp
    obtain ⟨i, hi, he⟩ := hp
    simp at hi he
    have q1 : i < cs.length := by omega
    have q2 : i < ds.length := by omega
    obtain ⟨v', h1, h2⟩ := h i a (by rw [List.getElem?_eq_getElem q1, he.1])
    rw [List.getElem?_eq_getElem q2] at h1
    simp only [Option.some.injEq] at h1
    rw [← he.2, h1]; exact h2
theorem VR.mono {ρ ρ' : Rho} (hρ : ∀ b pl, ρ (false, b) = some pl → ρ' (false, b) = some pl) {v v' : Value} (h : VR ρ v v') : VR ρ' v v' := by
  induction h with
  | ptr b off pl h => exact .ptr b off pl (hρ _ _ h)
  | mp b pl h => exact .mp b pl (hρ _ _ h)
  | sl b off len c pl cap h hc hn => exact .sl b off len c pl cap (hρ _ _ h) hc hn
  | sl0 a a' c => exact .sl0 a a' c
  | iface t v v' _ ih => exact .iface t v v' ih
  | agg cs ds hl _ ih => exact .agg cs ds hl ih
  | tuple cs ds hl _ ih => exact .tuple cs ds hl ih
  | func fn as as' cs ds ha hl _ _ ih1 ih => exact .func fn as as' cs ds ha hl ih1 ih
  | bool b => exact .bool b
  | int k n => exact .int k n
  | string s => exact .string s
  | nilp => exact .nilp
  | nilm => exact .nilm
  | nilf => exact .nilf
  | nili => exact .nili
  | sln => exact .sln

/-- values without addresses -/
def flat1 : Value → Bool
  | .bool _ | .int _ _ | .string _ | .pointer none | .map none | .nilFunc | .nilIface => true
  | .slice none 0 0 => true
  | _ => false
def flat2 : Value → Bool
  | .agg cs => cs.toList.all flat1
  | .tuple cs => cs.toList.all flat1
  | v => flat1 v
theorem VR.flat1 {ρ : Rho} {v v' : Value} (h : VR ρ v v') (hf : flat1 v = true) : v' = v := by
  cases h <;> simp_all [Am.flat1]
theorem VR.of_flat1 {ρ : Rho} {v : Value} (hf : Am.flat1 v = true) : VR ρ v v := by
  unfold Am.flat1 at hf
  split at hf
  · exact .bool _
  · exact .int _ _
  · exact .string _
  · exact .nilp
  · exact .nilm
  · exact .nilf
  · exact .nili
  · exact .sln
  · simp at hf
theorem zip_flat {ρ : Rho} {cs ds : List Value} (hl : cs.length = ds.length) (h : ∀ p ∈ cs.zip ds, VR ρ p.1 p.2) (hf : cs.all Am.flat1 = true) : ds = cs := by
  apply List.ext_getElem hl.symm
  intro i h1 h2
  have := h (cs[i], ds[i]) (by rw [List.mem_iff_getElem]; exact ⟨i, by simp; omega, by simp⟩)
  exact this.flat1 (List.all_eq_true.mp hf _ (List.getElem_mem h2))
theorem VR.flat2 {ρ : Rho} {v v' : Value} (h : VR ρ v v') (hf : Am.flat2 v = true) : v' = v := by
  cases h with
  | agg cs ds hl h => rw [zip_flat hl h (by simpa [Am.flat2] using hf)]
  | tuple cs ds hl h => rw [zip_flat hl h (by simpa [Am.flat2] using hf)]
  | _ => first | rfl | (simp [Am.flat2, Am.flat1] at hf)
theorem zip_self {ρ : Rho} {cs : List Value} (h : ∀ v ∈ cs, VR ρ v v) : ∀ p ∈ cs.zip cs, VR ρ p.1 p.2 := by
  rintro ⟨a, b⟩ hp
  rw [List.mem_iff_getElem] at hp
  obtain ⟨i, hi, he⟩ := hp
  simp at hi he
  rw [← he.1, ← he.2]
  exact h _ (List.getElem_mem hi)
theorem VR.of_flat2 {ρ : Rho} {v : Value} (hf : Am.flat2 v = true) : VR ρ v v := by
  unfold Am.flat2 at hf
  split at hf
  · rename_i cs
    obtain ⟨l⟩ := cs
    exact .agg l l rfl (zip_self fun v hv => .of_flat1 (List.all_eq_true.mp hf v hv))
  · rename_i cs
    obtain ⟨l⟩ := cs
    exact .tuple l l rfl (zip_self fun v hv => .of_flat1 (List.all_eq_true.mp hf v hv))
  · exact .of_flat1 hf
theorem VT.of_flat2 {ρ : Rho} {v : Value} (hf : Am.flat2 v = true) : VT ρ v v := .val _ _ (.of_flat2 hf)
theorem VT.flat2 {ρ : Rho} {v v' : Value} (h : VT ρ v v') (hf : Am.flat2 v = true) : v' = v := by
  cases h with
  | val _ _ h => exact h.flat2 hf
  | loc s off x pl h => simp [Am.flat2, Am.flat1] at hf
/-- a value that is no pointer to a box -/
def noLoc (v : Value) : Bool := (locOf v).isNone
theorem VT.noLoc {ρ : Rho} {v v' : Value} (h : VT ρ v v') (hf : Am.noLoc v = true) : VR ρ v v' := by
  cases h with
  | val _ _ h => exact h
  | loc s off x pl h => simp [Am.noLoc, locOf] at hf

/-! ### what the abstract memory stands for -/
structure MRel (P : Program) (ρ : Rho) (m : Mem) (w : World) : Prop where
  bound : ∀ k pl, ρ k = some pl → pl.B < w.heap.size
  dom : ∀ b pl, ρ (false, b) = some pl → b < m.h.n
  row : ∀ k pl wr e cs, ρ k = some pl → m.row? k = some (wr, e, cs) → ∃ C e' fz, w.heap[pl.B]? = some (.cells C e' fz) ∧ (wr = true → fz = (0, 0)) ∧
    cs.length ≤ pl.n ∧ pl.o + pl.n ≤ C.size ∧ pl.sz = P.cellsOf e ∧ ∀ (i : Nat) (v : Value), cs[i]? = some v → ∃ v', C[pl.o + i]? = some v' ∧ VR ρ v v'
  obj : ∀ b pl o, ρ (false, b) = some pl → m.h.f b = .obj o → w.heap[pl.B]? = some o ∧ pl.o = 0
  sep : ∀ k k' pl pl', k ≠ k' → ρ k = some pl → ρ k' = some pl' → m.wr k → m.live k' → pl.B ≠ pl'.B
  glob : ∀ i, i < m.h.g → ∃ pl, ρ (false, i) = some pl ∧ pl.B = i ∧ pl.o = 0

def Own (ρ : Rho) (h : Heap) (B : Nat) : Prop := ∃ b pl, ρ (false, b) = some pl ∧ pl.B = B ∧ h.wr b
structure Tr (ρ : Rho) (h : Heap) (w : World) (ρ' : Rho) (h' : Heap) (w' : World) : Prop where
  os : w'.os = w.os
  tape : w'.tape = w.tape
  output : w'.output = w.output
  drawn : h.g = 0 → w.drawn ≤ w'.drawn
  size : w.heap.size ≤ w'.heap.size
  ext : ∀ b pl, ρ (false, b) = some pl → ρ' (false, b) = some pl
  hn : h.n ≤ h'.n
  hg : h'.g = h.g
  new : ∀ b pl, ρ' (false, b) = some pl → ρ (false, b) = none → h.n ≤ b ∧ (h'.f b ≠ .dead → w.heap.size ≤ pl.B ∨ Own ρ h pl.B)
  dead : ∀ b, b < h.n → h'.f b ≠ .dead → h.f b ≠ .dead
  wrd : ∀ b, b < h.n → h'.wr b → h.wr b
  frame : ∀ B, B < w.heap.size → ¬ Own ρ h B → w'.heap[B]? = w.heap[B]?
/-- the state of a body that began at (ρ0, h0, w0) -/
structure Inv (P : Program) (ρ0 : Rho) (h0 : Heap) (w0 : World) (ρ : Rho) (m : Mem) (w : World) : Prop where
  rel : MRel P ρ m w
  tr : Tr ρ0 h0 w0 ρ m.h w
  box : ∀ s pl, ρ (true, s) = some pl → w0.heap.size ≤ pl.B
  dom0 : ∀ b pl, ρ0 (false, b) = some pl → b < h0.n ∧ pl.B < w0.heap.size

theorem Inv.own {P : Program} {ρ0 ρ : Rho} {h0 : Heap} {w0 w : World} {m : Mem} (I : Inv P ρ0 h0 w0 ρ m w) {B : Nat} (h : Own ρ m.h B) : w0.heap.size ≤ B ∨ Own ρ0 h0 B := by
  obtain ⟨b, pl, hb, rfl, hw⟩ := h
  cases h0b : ρ0 (false, b) with
  | none =>
    have hl : m.h.f b ≠ .dead := Mem.live_of_wr (m := m) (k := (false, b)) hw
    exact (I.tr.new b pl hb h0b).2 hl
  | some pl0 =>
    have := I.tr.ext b pl0 h0b
    rw [this] at hb
    obtain rfl := Option.some.inj hb
    exact .inr ⟨b, _, h0b, rfl, I.tr.wrd b (I.dom0 b _ h0b).1 hw⟩
end Go.Am
