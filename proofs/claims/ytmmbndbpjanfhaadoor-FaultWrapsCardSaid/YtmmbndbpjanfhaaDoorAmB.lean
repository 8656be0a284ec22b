/- The abstract machine, part B: how the relation is carried over each change of memory. -/
import Derived.Test.YtmmbndbpjanfhaaDoorAmA
set_option linter.unusedVariables false
set_option linter.unusedSimpArgs false
set_option linter.unusedSectionVars false
namespace Go.Am
open Go

def Rho.upd (ρ : Rho) (k : Key) (pl : Pl) : Rho := fun k' => if k' = k then some pl else ρ k'
theorem Rho.upd_same (ρ : Rho) (k : Key) (pl : Pl) : ρ.upd k pl k = some pl := by simp [Rho.upd]
theorem Rho.upd_ne (ρ : Rho) {k k' : Key} (pl : Pl) (h : k' ≠ k) : ρ.upd k pl k' = ρ k' := by simp [Rho.upd, h]

theorem Tr.refl (ρ : Rho) (h : Heap) (w : World) : Tr ρ h w ρ h w :=
  ⟨rfl, rfl, rfl, fun _ => Nat.le_refl _, Nat.le_refl _, fun _ _ h => h, Nat.le_refl _, rfl, fun b pl h h' => by rw [h] at h'; simp at h', fun _ _ h => h, fun _ _ h => h, fun _ _ _ => rfl⟩

variable {cs0 : List Value} {P : Program} {ρ0 ρ : Rho} {h0 : Heap} {w0 w : World} {m : Mem}

theorem heap_alloc_lt (w : World) (o : Obj) {B : Nat} (h : B < w.heap.size) : (w.alloc o).heap[B]? = w.heap[B]? := by
  simp only [World.alloc]
  rw [Array.getElem?_push, if_neg (by omega)]
theorem heap_alloc_eq (w : World) (o : Obj) : (w.alloc o).heap[w.heap.size]? = some o := by
  simp only [World.alloc]
  rw [Array.getElem?_push, if_pos rfl]

theorem Inv.drew (I : Inv P ρ0 h0 w0 ρ m w) : Inv P ρ0 h0 w0 ρ m w.drew :=
  ⟨⟨I.rel.bound, I.rel.dom, I.rel.row, I.rel.obj, I.rel.sep, I.rel.glob⟩, ⟨I.tr.os, I.tr.tape, I.tr.output, fun hg => Nat.le_succ_of_le (I.tr.drawn hg), I.tr.size, I.tr.ext, I.tr.hn, I.tr.hg, I.tr.new, I.tr.dead, I.tr.wrd, I.tr.frame⟩, I.box, I.dom0⟩

/-- what a fresh block may hold for an abstract block -/
inductive Fits (P : Program) (ρ : Rho) : Blk → Obj → Pl → Prop
  | row (e e' : TypeId) (cs : List Value) (C : Array Value) (B : Nat) (hn : cs.length ≤ C.size)
      (h : ∀ (i : Nat) (v : Value), cs[i]? = some v → ∃ v', C[i]? = some v' ∧ VR ρ v v') : Fits P ρ (.row true e cs) (.cells C e' (0, 0)) ⟨B, 0, C.size, P.cellsOf e⟩
  | obj (o : Obj) (B sz : Nat) : Fits P ρ (.obj o) o ⟨B, 0, 0, sz⟩

theorem Fits.B {x : Blk} {o : Obj} {pl : Pl} (h : Fits P ρ x o pl) (B : Nat) : Fits P ρ x o { pl with B := B } := by
  cases h with
  | row e e' cs C B' hn h => exact .row e e' cs C B hn h
  | obj o B' sz => exact .obj o B sz

theorem Inv.newH (I : Inv P ρ0 h0 w0 ρ m w) {x : Blk} {o : Obj} {pl : Pl} (hf : Fits P ρ x o pl) (hB : pl.B = w.heap.size) :
    Inv P ρ0 h0 w0 (ρ.upd (false, m.h.n) pl) ⟨m.x, m.h.new x⟩ (w.alloc o) := by
  have hnone : ∀ pl', ρ (false, m.h.n) ≠ some pl' := fun pl' h => Nat.lt_irrefl _ (I.rel.dom _ _ h)
  have hold : ∀ {k pl'}, ρ k = some pl' → k ≠ (false, m.h.n) := fun h e => hnone _ (e ▸ h)
  have hmono : ∀ b pl', ρ (false, b) = some pl' → ρ.upd (false, m.h.n) pl (false, b) = some pl' := fun b pl' h => by rw [Rho.upd_ne _ _ (hold h)]; exact h
  have hfo : ∀ {b pl'}, ρ (false, b) = some pl' → (m.h.new x).f b = m.h.f b := fun {b pl'} h => by
    have := I.rel.dom _ _ h; simp only [Heap.new]; rw [if_neg (by omega)]
  have hfn : (m.h.new x).f m.h.n = x := by simp [Heap.new]
  have hrow : ∀ {k pl'}, ρ k = some pl' → (Mem.mk m.x (m.h.new x)).row? k = m.row? k := fun {k pl'} h => by
    obtain ⟨t, b⟩ := k
    cases t
    · simp only [Mem.row?, hfo h]
    · rfl
  have hwr : ∀ {k pl'}, ρ k = some pl' → (Mem.mk m.x (m.h.new x)).wr k = m.wr k := fun {k pl'} h => by
    obtain ⟨t, b⟩ := k
    cases t
    · simp only [Mem.wr, Heap.wr, hfo h]
    · rfl
  have hlive : ∀ {k pl'}, ρ k = some pl' → (Mem.mk m.x (m.h.new x)).live k = m.live k := fun {k pl'} h => by
    obtain ⟨t, b⟩ := k
    cases t
    · simp only [Mem.live, hfo h]
    · rfl
  have hsz : (w.alloc o).heap.size = w.heap.size + 1 := by simp
  refine ⟨⟨?_, ?_, ?_, ?_, ?_, fun i hi => let ⟨pl', q1, q2⟩ := I.rel.glob i hi; ⟨pl', hmono _ _ q1, q2⟩⟩, ⟨I.tr.os, I.tr.tape, I.tr.output, I.tr.drawn, by rw [hsz]; exact Nat.le_succ_of_le I.tr.size, ?_, by simp only [Heap.new]; exact Nat.le_succ_of_le I.tr.hn, I.tr.hg, ?_, ?_, ?_, ?_⟩, ?_, I.dom0⟩
  · intro k pl' h
    by_cases e : k = (false, m.h.n)
    · subst e; rw [Rho.upd_same] at h; obtain rfl := Option.some.inj h; rw [hsz, hB]; omega
    · rw [Rho.upd_ne _ _ e] at h; have := I.rel.bound _ _ h; omega
  · intro b pl' h
    by_cases e : (false, b) = (false, m.h.n)
    · simp only [Prod.mk.injEq, true_and] at e; subst e; simp [Heap.new]
    · rw [Rho.upd_ne _ _ e] at h; have := I.rel.dom _ _ h; simp only [Heap.new]; omega
  · intro k pl' wr e cs h hr
    by_cases ek : k = (false, m.h.n)
    · subst ek
      rw [Rho.upd_same] at h; obtain rfl := Option.some.inj h
      simp only [Mem.row?, hfn] at hr
      cases hf with
      | row e1 e' cs1 C B hn hc =>
        simp only [Option.some.injEq, Prod.mk.injEq] at hr
        obtain ⟨rfl, rfl, rfl⟩ := hr
        simp only at hB
        subst hB
        refine ⟨C, e', (0, 0), heap_alloc_eq w _, fun _ => rfl, hn, by simp, rfl, fun i v hi => ?_⟩
        obtain ⟨v', h1, h2⟩ := hc i v hi
        exact ⟨v', by simpa using h1, h2.mono hmono⟩
      | obj o B sz => simp at hr
    · rw [Rho.upd_ne _ _ ek] at h
      rw [hrow h] at hr
      obtain ⟨C, e', fz, h1, h2, h3, h4, h5, h6⟩ := I.rel.row _ _ _ _ _ h hr
      refine ⟨C, e', fz, by rw [heap_alloc_lt _ _ (I.rel.bound _ _ h)]; exact h1, h2, h3, h4, h5, fun i v hi => ?_⟩
      obtain ⟨v', q1, q2⟩ := h6 i v hi
      exact ⟨v', q1, q2.mono hmono⟩
  · intro b pl' o' h ho
    by_cases ek : b = m.h.n
    · subst ek
      rw [Rho.upd_same] at h; obtain rfl := Option.some.inj h
      rw [hfn] at ho
      cases hf with
      | row => simp at ho
      | obj o B sz =>
        simp only [Blk.obj.injEq] at ho; subst ho
        simp only at hB; subst hB
        exact ⟨heap_alloc_eq w _, rfl⟩
    · rw [Rho.upd_ne _ _ (by simpa using ek)] at h
      rw [hfo h] at ho
      rw [heap_alloc_lt _ _ (I.rel.bound _ _ h)]
      exact I.rel.obj _ _ _ h ho
  · intro k k' pl1 pl2 hne h1 h2 hw hl
    by_cases e1 : k = (false, m.h.n)
    · have e2 : k' ≠ (false, m.h.n) := fun e => hne (e1.trans e.symm)
      subst e1
      rw [Rho.upd_same] at h1; obtain rfl := Option.some.inj h1
      rw [Rho.upd_ne _ _ e2] at h2
      have := I.rel.bound _ _ h2; omega
    · rw [Rho.upd_ne _ _ e1] at h1
      by_cases e2 : k' = (false, m.h.n)
      · subst e2
        rw [Rho.upd_same] at h2; obtain rfl := Option.some.inj h2
        have := I.rel.bound _ _ h1; omega
      · rw [Rho.upd_ne _ _ e2] at h2
        rw [hwr h1] at hw; rw [hlive h2] at hl
        exact I.rel.sep _ _ _ _ hne h1 h2 hw hl
  · intro b pl' h; exact hmono _ _ (I.tr.ext _ _ h)
  · intro b pl' h h'
    by_cases e : b = m.h.n
    · subst e
      rw [Rho.upd_same] at h; obtain rfl := Option.some.inj h
      exact ⟨I.tr.hn, fun _ => .inl (by rw [hB]; exact I.tr.size)⟩
    · rw [Rho.upd_ne _ _ (by simpa using e)] at h
      obtain ⟨q1, q2⟩ := I.tr.new _ _ h h'
      exact ⟨q1, fun hl => q2 (by rwa [hfo h] at hl)⟩
  · intro b hb hl
    have : (m.h.new x).f b = m.h.f b := by simp only [Heap.new]; rw [if_neg (by have := I.tr.hn; omega)]
    rw [this] at hl
    exact I.tr.dead b hb hl
  · intro b hb hl
    have : (m.h.new x).wr b = m.h.wr b := by simp only [Heap.wr, Heap.new]; rw [if_neg (by have := I.tr.hn; omega)]
    rw [this] at hl
    exact I.tr.wrd b hb hl
  · intro B hBs ho
    rw [heap_alloc_lt _ _ (by have := I.tr.size; omega)]
    exact I.tr.frame B hBs ho
  · intro s pl' h
    rw [Rho.upd_ne _ _ (by simp)] at h
    exact I.box s pl' h

theorem Inv.newB (I : Inv P ρ0 h0 w0 ρ m w) (s : Nat) {e : TypeId} {cs : List Value} {o : Obj} {pl : Pl} (hf : Fits P ρ (.row true e cs) o pl) (hB : pl.B = w.heap.size) :
    Inv P ρ0 h0 w0 (ρ.upd (true, s) pl) ⟨m.x.set s (e, cs), m.h⟩ (w.alloc o) := by
  have hmono : ∀ b pl', ρ (false, b) = some pl' → ρ.upd (true, s) pl (false, b) = some pl' := fun b pl' h => by rw [Rho.upd_ne _ _ (by simp)]; exact h
  have hback : ∀ b pl', ρ.upd (true, s) pl (false, b) = some pl' → ρ (false, b) = some pl' := fun b pl' h => by rwa [Rho.upd_ne _ _ (by simp)] at h
  have hsz : (w.alloc o).heap.size = w.heap.size + 1 := by simp
  have hne : ∀ {k : Key}, k ≠ (true, s) → (Mem.mk (m.x.set s (e, cs)) m.h).row? k = m.row? k ∧ (Mem.mk (m.x.set s (e, cs)) m.h).wr k = m.wr k ∧ (Mem.mk (m.x.set s (e, cs)) m.h).live k = m.live k := fun {k} hk => by
    obtain ⟨t, b⟩ := k
    cases t
    · exact ⟨rfl, rfl, rfl⟩
    · have : ¬ s = b := fun h => hk (by rw [h])
      simp [Mem.row?, Mem.wr, Mem.live, Boxes.look_set, this]
  refine ⟨⟨?_, ?_, ?_, ?_, ?_, fun i hi => let ⟨pl', q1, q2⟩ := I.rel.glob i hi; ⟨pl', hmono _ _ q1, q2⟩⟩, ⟨I.tr.os, I.tr.tape, I.tr.output, I.tr.drawn, by rw [hsz]; exact Nat.le_succ_of_le I.tr.size, fun b pl' h => hmono _ _ (I.tr.ext _ _ h), I.tr.hn, I.tr.hg, fun b pl' h h' => I.tr.new _ _ (hback _ _ h) h', I.tr.dead, I.tr.wrd, ?_⟩, ?_, I.dom0⟩
  · intro k pl' h
    by_cases e : k = (true, s)
    · subst e; rw [Rho.upd_same] at h; obtain rfl := Option.some.inj h; rw [hsz, hB]; omega
    · rw [Rho.upd_ne _ _ e] at h; have := I.rel.bound _ _ h; omega
  · intro b pl' h; exact I.rel.dom _ _ (hback _ _ h)
  · intro k pl' wr e1 cs1 h hr
    by_cases ek : k = (true, s)
    · subst ek
      rw [Rho.upd_same] at h; obtain rfl := Option.some.inj h
      simp only [Mem.row?, Boxes.look_set, if_true] at hr
      simp only [Option.some.injEq, Prod.mk.injEq] at hr
      obtain ⟨rfl, rfl, rfl⟩ := hr
      cases hf with
      | row e1 e' cs1 C B hn hc =>
        simp only at hB
        subst hB
        refine ⟨C, e', (0, 0), heap_alloc_eq w _, fun _ => rfl, hn, by simp, rfl, fun i v hi => ?_⟩
        obtain ⟨v', h1, h2⟩ := hc i v hi
        exact ⟨v', by simpa using h1, h2.mono hmono⟩
    · rw [Rho.upd_ne _ _ ek] at h
      rw [(hne ek).1] at hr
      obtain ⟨C, e', fz, h1, h2, h3, h4, h5, h6⟩ := I.rel.row _ _ _ _ _ h hr
      refine ⟨C, e', fz, by rw [heap_alloc_lt _ _ (I.rel.bound _ _ h)]; exact h1, h2, h3, h4, h5, fun i v hi => ?_⟩
      obtain ⟨v', q1, q2⟩ := h6 i v hi
      exact ⟨v', q1, q2.mono hmono⟩
  · intro b pl' o' h ho
    have h := hback _ _ h
    rw [heap_alloc_lt _ _ (I.rel.bound _ _ h)]
    exact I.rel.obj _ _ _ h ho
  · intro k k' pl1 pl2 hn h1 h2 hw hl
    by_cases e1 : k = (true, s)
    · have e2 : k' ≠ (true, s) := fun e => hn (e1.trans e.symm)
      subst e1
      rw [Rho.upd_same] at h1; obtain rfl := Option.some.inj h1
      rw [Rho.upd_ne _ _ e2] at h2
      have := I.rel.bound _ _ h2; omega
    · rw [Rho.upd_ne _ _ e1] at h1
      by_cases e2 : k' = (true, s)
      · subst e2
        rw [Rho.upd_same] at h2; obtain rfl := Option.some.inj h2
        have := I.rel.bound _ _ h1; omega
      · rw [Rho.upd_ne _ _ e2] at h2
        rw [(hne e1).2.1] at hw; rw [(hne e2).2.2] at hl
        exact I.rel.sep _ _ _ _ hn h1 h2 hw hl
  · intro B hBs ho
    rw [heap_alloc_lt _ _ (by have := I.tr.size; omega)]
    exact I.tr.frame B hBs ho
  · intro s' pl' h
    by_cases e : s' = s
    · subst e; rw [Rho.upd_same] at h; obtain rfl := Option.some.inj h; rw [hB]; exact I.tr.size
    · rw [Rho.upd_ne _ _ (by simpa using e)] at h
      exact I.box s' pl' h

/-! ### a store into one row -/
theorem World.heap_setCell_ne (w : World) (a : Addr) (v : Value) {B : Nat} (h : B ≠ a.block) : (w.setCell a v).heap[B]? = w.heap[B]? := by
  simp only [World.setCell, Array.getElem?_modify]
  rw [if_neg (Ne.symm h)]
theorem World.heap_setCell_eq (w : World) (b off : Nat) (v : Value) {C : Array Value} {e : TypeId} {fz : Nat × Nat} (h : w.heap[b]? = some (.cells C e fz)) :
    (w.setCell ⟨b, off, none⟩ v).heap[b]? = some (.cells (C.setIfInBounds off v) e fz) := by
  simp only [World.setCell, Array.getElem?_modify, h]
  rfl

/-- memory with one row's cells changed -/
def Mem.setRow (m : Mem) : Key → TypeId → List Value → Mem
  | (true, s), e, cs => ⟨m.x.set s (e, cs), m.h⟩
  | (false, b), e, cs => ⟨m.x, m.h.set b (.row true e cs)⟩

theorem Mem.setRow_row (m : Mem) (k : Key) (e : TypeId) (cs : List Value) : (m.setRow k e cs).row? k = some (true, e, cs) := by
  obtain ⟨t, b⟩ := k
  cases t
  · simp [Mem.setRow, Mem.row?, Heap.set]
  · simp [Mem.setRow, Mem.row?, Boxes.look_set]
theorem Mem.setRow_ne (m : Mem) {k k' : Key} (e : TypeId) (cs : List Value) (h : k' ≠ k) :
    (m.setRow k e cs).row? k' = m.row? k' ∧ (m.setRow k e cs).wr k' = m.wr k' ∧ (m.setRow k e cs).live k' = m.live k' := by
  obtain ⟨t, b⟩ := k
  obtain ⟨t', b'⟩ := k'
  cases t <;> cases t'
  · have : ¬ b' = b := fun q => h (by rw [q])
    simp [Mem.setRow, Mem.row?, Mem.wr, Mem.live, Heap.wr, Heap.set, this]
  · simp [Mem.setRow, Mem.row?, Mem.wr, Mem.live]
  · simp [Mem.setRow, Mem.row?, Mem.wr, Mem.live]
  · have : ¬ b = b' := fun q => h (by rw [q])
    simp [Mem.setRow, Mem.row?, Mem.wr, Mem.live, Boxes.look_set, this]
theorem Mem.setRow_f (m : Mem) (k : Key) (e : TypeId) (cs : List Value) (hr : m.row? k = some (true, e, cs0)) (b : Nat) :
    ((m.setRow k e cs).h.f b ≠ .dead ↔ m.h.f b ≠ .dead) ∧ ((m.setRow k e cs).h.wr b ↔ m.h.wr b) ∧ (∀ o, (m.setRow k e cs).h.f b = .obj o → m.h.f b = .obj o) := by
  obtain ⟨t, b'⟩ := k
  cases t
  · simp only [Mem.row?] at hr
    by_cases hb : b = b'
    · subst hb
      simp only [Mem.setRow, Heap.set, Heap.wr, if_true]
      split at hr <;> simp_all
    · simp [Mem.setRow, Heap.set, Heap.wr, hb]
  · simp [Mem.setRow]

theorem Inv.putRow (I : Inv P ρ0 h0 w0 ρ m w) {k : Key} {pl : Pl} {e : TypeId} {cs : List Value} (hk : ρ k = some pl) (hr : m.row? k = some (true, e, cs))
    {ds : List Value} (hds : ds.length ≤ pl.n) {w' : World} {C : Array Value} {e' : TypeId}
    (hw : w' = { w with heap := w'.heap }) (hsz : w'.heap.size = w.heap.size) (hother : ∀ B, B ≠ pl.B → w'.heap[B]? = w.heap[B]?)
    (hB : w'.heap[pl.B]? = some (.cells C e' (0, 0))) (hC : pl.o + pl.n ≤ C.size)
    (hcs : ∀ (i : Nat) (v : Value), ds[i]? = some v → ∃ v', C[pl.o + i]? = some v' ∧ VR ρ v v') :
    Inv P ρ0 h0 w0 ρ (m.setRow k e ds) w' := by
  obtain ⟨C0, e0, fz, c1, c2, c3, c4, c5, c6⟩ := I.rel.row _ _ _ _ _ hk hr
  have hwk := Mem.wr_of_row hr
  have hlk := Mem.live_of_wr hwk
  have e1 : w'.os = w.os := by rw [hw]
  have e2 : w'.tape = w.tape := by rw [hw]
  have e3 : w'.output = w.output := by rw [hw]
  have hothers : ∀ {k' pl'}, ρ k' = some pl' → k' ≠ k → m.live k' → w'.heap[pl'.B]? = w.heap[pl'.B]? := fun {k' pl'} h hne hl =>
    hother _ fun q => I.rel.sep k k' pl pl' (Ne.symm hne) hk h hwk hl q.symm
  refine ⟨⟨?_, ?_, ?_, ?_, ?_, ?_⟩, ⟨e1.trans I.tr.os, e2.trans I.tr.tape, e3.trans I.tr.output, by rw [hw]; exact I.tr.drawn, by rw [hsz]; exact I.tr.size, I.tr.ext, ?_, ?_, ?_, ?_, ?_, ?_⟩, I.box, I.dom0⟩
  · intro k' pl' h; rw [hsz]; exact I.rel.bound _ _ h
  · intro b pl' h
    have := I.rel.dom _ _ h
    obtain ⟨t, b'⟩ := k
    cases t <;> simpa [Mem.setRow, Heap.set] using this
  · intro k' pl' wr1 e1 cs1 h h1
    by_cases hne : k' = k
    · subst hne
      rw [hk] at h; obtain rfl := Option.some.inj h
      rw [Mem.setRow_row] at h1
      simp only [Option.some.injEq, Prod.mk.injEq] at h1
      obtain ⟨rfl, rfl, rfl⟩ := h1
      exact ⟨C, e', (0, 0), hB, fun _ => rfl, hds, hC, c5, hcs⟩
    · rw [(Mem.setRow_ne m e _ hne).1] at h1
      obtain ⟨D, e2, f2, d1, d2⟩ := I.rel.row _ _ _ _ _ h h1
      exact ⟨D, e2, f2, by rw [hothers h hne (Mem.live_of_row h1)]; exact d1, d2⟩
  · intro b pl' o h ho
    have ho' := (Mem.setRow_f m k e _ hr b).2.2 o ho
    have hne : (false, b) ≠ k := fun q => by
      subst q; simp [Mem.row?, ho'] at hr
    rw [hothers h hne (by simp [Mem.live, ho'])]
    exact I.rel.obj _ _ _ h ho'
  · intro k1 k2 pl1 pl2 hne h1 h2 hw hl
    refine I.rel.sep k1 k2 pl1 pl2 hne h1 h2 ?_ ?_
    · by_cases q : k1 = k
      · subst q; exact hwk
      · rwa [(Mem.setRow_ne m e _ q).2.1] at hw
    · by_cases q : k2 = k
      · subst q; exact hlk
      · rwa [(Mem.setRow_ne m e _ q).2.2] at hl
  · intro i hi
    refine I.rel.glob i ?_
    obtain ⟨t, b'⟩ := k
    cases t <;> simpa [Mem.setRow, Heap.set] using hi
  · obtain ⟨t, b'⟩ := k
    cases t <;> simpa [Mem.setRow, Heap.set] using I.tr.hn
  · obtain ⟨t, b'⟩ := k
    cases t <;> simpa [Mem.setRow, Heap.set] using I.tr.hg
  · intro b pl' h h'
    obtain ⟨q1, q2⟩ := I.tr.new _ _ h h'
    exact ⟨q1, fun hl => q2 ((Mem.setRow_f m k e _ hr b).1.1 hl)⟩
  · intro b hb hl
    exact I.tr.dead b hb ((Mem.setRow_f m k e _ hr b).1.1 hl)
  · intro b hb hl
    exact I.tr.wrd b hb ((Mem.setRow_f m k e _ hr b).2.1.1 hl)
  · intro B hB' ho
    rw [hother]
    · exact I.tr.frame B hB' ho
    · intro q
      obtain ⟨t, b'⟩ := k
      cases t
      · rcases I.own ⟨b', pl, hk, q.symm, hwk⟩ with h | h
        · omega
        · exact ho h
      · have := I.box _ _ hk; omega

/-- a row that is given up -/
theorem Inv.kill (I : Inv P ρ0 h0 w0 ρ m w) (b : Nat) : Inv P ρ0 h0 w0 ρ ⟨m.x, m.h.set b .dead⟩ w := by
  have hrow : ∀ {k r}, (Mem.mk m.x (m.h.set b .dead)).row? k = some r → m.row? k = some r := fun {k r} h => by
    obtain ⟨t, b'⟩ := k
    cases t
    · simp only [Mem.row?, Heap.set] at h ⊢
      by_cases q : b' = b
      · simp [q] at h
      · simpa [q] using h
    · exact h
  have hwr : ∀ {k}, (Mem.mk m.x (m.h.set b .dead)).wr k → m.wr k := fun {k} h => by
    obtain ⟨t, b'⟩ := k
    cases t
    · simp only [Mem.wr, Heap.wr, Heap.set] at h ⊢
      by_cases q : b' = b
      · simp [q] at h
      · simpa [q] using h
    · exact h
  have hlive : ∀ {k}, (Mem.mk m.x (m.h.set b .dead)).live k → m.live k := fun {k} h => by
    obtain ⟨t, b'⟩ := k
    cases t
    · simp only [Mem.live, Heap.set] at h ⊢
      by_cases q : b' = b
      · simp [q] at h
      · simpa [q] using h
    · exact h
  refine ⟨⟨I.rel.bound, I.rel.dom, fun k pl wr e cs h hr => I.rel.row k pl wr e cs h (hrow hr), fun b' pl o h ho => I.rel.obj b' pl o h ?_,
    fun k k' pl pl' hne h h' hw hl => I.rel.sep k k' pl pl' hne h h' (hwr hw) (hlive hl), I.rel.glob⟩,
    ⟨I.tr.os, I.tr.tape, I.tr.output, I.tr.drawn, I.tr.size, I.tr.ext, I.tr.hn, I.tr.hg, fun b' pl h h' => ?_, fun b' hb hl => I.tr.dead b' hb (hlive (k := (false, b')) hl),
      fun b' hb hl => I.tr.wrd b' hb (hwr (k := (false, b')) hl), I.tr.frame⟩, I.box, I.dom0⟩
  · simp only [Heap.set] at ho
    by_cases q : b' = b
    · simp [q] at ho
    · simpa [q] using ho
  · obtain ⟨q1, q2⟩ := I.tr.new _ _ h h'
    exact ⟨q1, fun hl => q2 (hlive (k := (false, b')) hl)⟩

/-- an object that is changed -/
theorem Inv.setObj (I : Inv P ρ0 h0 w0 ρ m w) {b : Nat} {pl : Pl} {o : Obj} (hk : ρ (false, b) = some pl) (ho : m.h.f b = .obj o) (o' : Obj) :
    Inv P ρ0 h0 w0 ρ ⟨m.x, m.h.set b (.obj o')⟩ { w with heap := w.heap.setIfInBounds pl.B o' } := by
  have hwk : m.wr (false, b) := by simp [Mem.wr, Heap.wr, ho]
  have hlk := Mem.live_of_wr hwk
  have hBb := I.rel.bound _ _ hk
  have hrow : ∀ {k}, (Mem.mk m.x (m.h.set b (.obj o'))).row? k = m.row? k := fun {k} => by
    obtain ⟨t, b'⟩ := k
    cases t
    · simp only [Mem.row?, Heap.set]
      by_cases q : b' = b
      · subst q; simp [ho]
      · simp [q]
    · rfl
  have hwr : ∀ {k}, (Mem.mk m.x (m.h.set b (.obj o'))).wr k ↔ m.wr k := fun {k} => by
    obtain ⟨t, b'⟩ := k
    cases t
    · simp only [Mem.wr, Heap.wr, Heap.set]
      by_cases q : b' = b
      · subst q; simp [ho]
      · simp [q]
    · exact Iff.rfl
  have hlive : ∀ {k}, (Mem.mk m.x (m.h.set b (.obj o'))).live k ↔ m.live k := fun {k} => by
    obtain ⟨t, b'⟩ := k
    cases t
    · simp only [Mem.live, Heap.set]
      by_cases q : b' = b
      · subst q; simp [ho]
      · simp [q]
    · exact Iff.rfl
  have hh : ∀ B, B ≠ pl.B → (w.heap.setIfInBounds pl.B o')[B]? = w.heap[B]? := fun B h => by rw [Array.getElem?_setIfInBounds_ne (Ne.symm h)]
  have hothers : ∀ {k' pl'}, ρ k' = some pl' → k' ≠ (false, b) → m.live k' → (w.heap.setIfInBounds pl.B o')[pl'.B]? = w.heap[pl'.B]? := fun {k' pl'} h hne hl =>
    hh _ fun q => I.rel.sep _ _ _ _ (Ne.symm hne) hk h hwk hl q.symm
  refine ⟨⟨fun k' pl' h => by simpa using I.rel.bound _ _ h, I.rel.dom, fun k' pl' wr e cs h hr => ?_, fun b' pl' o1 h ho1 => ?_,
    fun k' k'' pl1 pl2 hne h h' hw hl => I.rel.sep _ _ pl1 pl2 hne h h' (hwr.1 hw) (hlive.1 hl), I.rel.glob⟩,
    ⟨I.tr.os, I.tr.tape, I.tr.output, I.tr.drawn, by simpa using I.tr.size, I.tr.ext, I.tr.hn, I.tr.hg, fun b' pl' h h' => ?_, fun b' hb hl => I.tr.dead b' hb ((hlive (k := (false, b'))).1 hl),
      fun b' hb hl => I.tr.wrd b' hb ((hwr (k := (false, b'))).1 hl), fun B hB hO => ?_⟩, I.box, I.dom0⟩
  · rw [hrow] at hr
    obtain ⟨D, e2, f2, d1, d2⟩ := I.rel.row _ _ _ _ _ h hr
    have hne : k' ≠ (false, b) := fun q => by subst q; simp [Mem.row?, ho] at hr
    exact ⟨D, e2, f2, by rw [hothers h hne (Mem.live_of_row hr)]; exact d1, d2⟩
  · by_cases q : b' = b
    · subst q
      rw [hk] at h; obtain rfl := Option.some.inj h
      simp only [Heap.set, if_true, Blk.obj.injEq] at ho1
      subst ho1
      exact ⟨by simp only; rw [Array.getElem?_setIfInBounds_self_of_lt hBb], (I.rel.obj _ _ _ hk ho).2⟩
    · simp only [Heap.set, q, if_false] at ho1
      simp only
      rw [hothers h (by simpa using q) (by simp [Mem.live, ho1])]
      exact I.rel.obj _ _ _ h ho1
  · obtain ⟨q1, q2⟩ := I.tr.new _ _ h h'
    exact ⟨q1, fun hl => q2 ((hlive (k := (false, b'))).1 hl)⟩
  · simp only
    rw [hh]
    · exact I.tr.frame B hB hO
    · intro q
      rcases I.own ⟨b, pl, hk, q.symm, hwk⟩ with h | h
      · omega
      · exact hO h

/-- a row that goes on in its place: the elder number is given up -/
theorem Inv.regrow (I : Inv P ρ0 h0 w0 ρ m w) {b : Nat} {pl : Pl} {e : TypeId} {cs : List Value} (hk : ρ (false, b) = some pl) (hr : m.h.f b = .row true e cs)
    {off : Nat} {ds : List Value} (hoff : off + ds.length ≤ pl.n) {w' : World} {C : Array Value} {e' : TypeId}
    (hw : w' = { w with heap := w'.heap }) (hsz : w'.heap.size = w.heap.size) (hother : ∀ B, B ≠ pl.B → w'.heap[B]? = w.heap[B]?)
    (hB : w'.heap[pl.B]? = some (.cells C e' (0, 0))) (hC : pl.o + pl.n ≤ C.size)
    (hcs : ∀ (i : Nat) (v : Value), ds[i]? = some v → ∃ v', C[pl.o + off + i]? = some v' ∧ VR ρ v v') :
    Inv P ρ0 h0 w0 (ρ.upd (false, m.h.n) ⟨pl.B, pl.o + off, pl.n - off, pl.sz⟩) ⟨m.x, (m.h.set b .dead).new (.row true e ds)⟩ w' := by
  have hwk : m.wr (false, b) := by simp [Mem.wr, Heap.wr, hr]
  have hbn := I.rel.dom _ _ hk
  have hnone : ∀ pl', ρ (false, m.h.n) ≠ some pl' := fun pl' h => Nat.lt_irrefl _ (I.rel.dom _ _ h)
  have hold : ∀ {k pl'}, ρ k = some pl' → k ≠ (false, m.h.n) := fun h e => hnone _ (e ▸ h)
  have hmono : ∀ b pl', ρ (false, b) = some pl' → ρ.upd (false, m.h.n) ⟨pl.B, pl.o + off, pl.n - off, pl.sz⟩ (false, b) = some pl' := fun b pl' h => by rw [Rho.upd_ne _ _ (hold h)]; exact h
  obtain ⟨C0, e0, fz0, c1, c2, c3, c4, c5, c6⟩ := I.rel.row (false, b) pl true e cs hk (by simp [Mem.row?, hr])
  -- what is still there of the elder ones
  have hf : ∀ i, i < m.h.n → ((m.h.set b .dead).new (.row true e ds)).f i = if i = b then .dead else m.h.f i := fun i hi => by
    have : ¬ i = m.h.n := by omega
    simp only [Heap.new, Heap.set, this, if_false]
  have hfn : ((m.h.set b .dead).new (.row true e ds)).f m.h.n = .row true e ds := by simp [Heap.new, Heap.set]
  have hrow : ∀ {k pl' r}, ρ k = some pl' → (Mem.mk m.x ((m.h.set b .dead).new (.row true e ds))).row? k = some r → k ≠ (false, b) ∧ m.row? k = some r := fun {k pl' r} h q => by
    obtain ⟨t, i⟩ := k
    cases t
    · have hi := I.rel.dom _ _ h
      simp only [Mem.row?, hf i hi] at q
      by_cases hib : i = b
      · simp [hib] at q
      · simp only [hib, if_false] at q; exact ⟨by simpa using hib, q⟩
    · exact ⟨by simp, q⟩
  have hlive : ∀ {k pl'}, ρ k = some pl' → (Mem.mk m.x ((m.h.set b .dead).new (.row true e ds))).live k → k ≠ (false, b) ∧ m.live k := fun {k pl'} h q => by
    obtain ⟨t, i⟩ := k
    cases t
    · have hi := I.rel.dom _ _ h
      simp only [Mem.live, hf i hi] at q
      by_cases hib : i = b
      · simp [hib] at q
      · simp only [hib, if_false] at q; exact ⟨by simpa using hib, q⟩
    · exact ⟨by simp, q⟩
  have hwr : ∀ {k pl'}, ρ k = some pl' → (Mem.mk m.x ((m.h.set b .dead).new (.row true e ds))).wr k → k ≠ (false, b) ∧ m.wr k := fun {k pl'} h q => by
    obtain ⟨t, i⟩ := k
    cases t
    · have hi := I.rel.dom _ _ h
      simp only [Mem.wr, Heap.wr, hf i hi] at q
      by_cases hib : i = b
      · simp [hib] at q
      · simp only [hib, if_false] at q; exact ⟨by simpa using hib, q⟩
    · exact ⟨by simp, q⟩
  have hsep : ∀ {k pl'}, ρ k = some pl' → k ≠ (false, b) → m.live k → pl'.B ≠ pl.B := fun {k pl'} h hne hl q =>
    I.rel.sep _ _ _ _ (Ne.symm hne) hk h hwk hl q.symm
  have e1 : w'.os = w.os := by rw [hw]
  have e2 : w'.tape = w.tape := by rw [hw]
  have e3 : w'.output = w.output := by rw [hw]
  have ewf : ((m.h.set b .dead).new (.row true e ds)).n = m.h.n + 1 := rfl
  refine ⟨⟨?_, ?_, ?_, ?_, ?_, fun i hi => let ⟨pl', q1, q2⟩ := I.rel.glob i hi; ⟨pl', hmono _ _ q1, q2⟩⟩,
    ⟨e1.trans I.tr.os, e2.trans I.tr.tape, e3.trans I.tr.output, by rw [hw]; exact I.tr.drawn, by rw [hsz]; exact I.tr.size, fun b pl' h => hmono _ _ (I.tr.ext _ _ h),
      by simp only [ewf]; exact Nat.le_succ_of_le I.tr.hn, I.tr.hg, ?_, ?_, ?_, ?_⟩, ?_, I.dom0⟩
  · intro k pl' h
    by_cases q : k = (false, m.h.n)
    · subst q; rw [Rho.upd_same] at h; obtain rfl := Option.some.inj h; rw [hsz]; exact I.rel.bound (false, b) pl hk
    · rw [Rho.upd_ne _ _ q] at h; rw [hsz]; exact I.rel.bound _ _ h
  · intro i pl' h
    by_cases q : (false, i) = (false, m.h.n)
    · simp only [Prod.mk.injEq, true_and] at q; subst q; simp only [ewf]; omega
    · rw [Rho.upd_ne _ _ q] at h; have := I.rel.dom _ _ h; simp only [ewf]; omega
  · intro k pl' wr1 e1 cs1 h h1
    by_cases q : k = (false, m.h.n)
    · subst q
      rw [Rho.upd_same] at h; obtain rfl := Option.some.inj h
      simp only [Mem.row?, hfn, Option.some.injEq, Prod.mk.injEq] at h1
      obtain ⟨rfl, rfl, rfl⟩ := h1
      refine ⟨C, e', (0, 0), hB, fun _ => rfl, by simp only; omega, by simp only; omega, c5, fun i v hi => ?_⟩
      obtain ⟨v', q1, q2⟩ := hcs i v hi
      exact ⟨v', q1, q2.mono hmono⟩
    · rw [Rho.upd_ne _ _ q] at h
      obtain ⟨hne, h1⟩ := hrow h h1
      obtain ⟨D, e2, f2, d1, d2, d3, d4, d5, d6⟩ := I.rel.row _ _ _ _ _ h h1
      refine ⟨D, e2, f2, by rw [hother _ (hsep h hne (Mem.live_of_row h1))]; exact d1, d2, d3, d4, d5, fun i v hi => ?_⟩
      obtain ⟨v', q1, q2⟩ := d6 i v hi
      exact ⟨v', q1, q2.mono hmono⟩
  · intro i pl' o h ho
    by_cases q : i = m.h.n
    · subst q; rw [hfn] at ho; simp at ho
    · rw [Rho.upd_ne _ _ (by simpa using q)] at h
      have hl := hlive h (by simp only [Mem.live, ne_eq]; intro z; rw [z] at ho; simp at ho)
      rw [hf i (I.rel.dom _ _ h)] at ho
      have hib : i ≠ b := by simpa using hl.1
      rw [if_neg hib] at ho
      rw [hother _ (hsep h hl.1 hl.2)]
      exact I.rel.obj _ _ _ h ho
  · intro k1 k2 pl1 pl2 hne h1 h2 hw hl
    by_cases q1 : k1 = (false, m.h.n)
    · have q2 : k2 ≠ (false, m.h.n) := fun q => hne (q1.trans q.symm)
      subst q1
      rw [Rho.upd_same] at h1; obtain rfl := Option.some.inj h1
      rw [Rho.upd_ne _ _ q2] at h2
      obtain ⟨a1, a2⟩ := hlive h2 hl
      exact fun q => hsep h2 a1 a2 q.symm
    · rw [Rho.upd_ne _ _ q1] at h1
      obtain ⟨a1, a2⟩ := hwr h1 hw
      by_cases q2 : k2 = (false, m.h.n)
      · subst q2
        rw [Rho.upd_same] at h2; obtain rfl := Option.some.inj h2
        exact hsep h1 a1 (Mem.live_of_wr a2)
      · rw [Rho.upd_ne _ _ q2] at h2
        exact I.rel.sep _ _ _ _ hne h1 h2 a2 (hlive h2 hl).2
  · intro i pl' h h'
    by_cases q : i = m.h.n
    · subst q
      rw [Rho.upd_same] at h; obtain rfl := Option.some.inj h
      exact ⟨I.tr.hn, fun _ => I.own ⟨b, pl, hk, rfl, hwk⟩⟩
    · rw [Rho.upd_ne _ _ (by simpa using q)] at h
      obtain ⟨q1, q2⟩ := I.tr.new _ _ h h'
      exact ⟨q1, fun hl => q2 (hlive (k := (false, i)) h hl).2⟩
  · intro i hi hl
    have hin : i < m.h.n := Nat.lt_of_lt_of_le hi I.tr.hn
    simp only at hl
    rw [hf i hin] at hl
    by_cases q : i = b
    · simp [q] at hl
    · rw [if_neg q] at hl; exact I.tr.dead i hi hl
  · intro i hi hl
    have hin : i < m.h.n := Nat.lt_of_lt_of_le hi I.tr.hn
    simp only [Heap.wr, hf i hin] at hl
    by_cases q : i = b
    · simp [q] at hl
    · simp only [q, if_false] at hl; exact I.tr.wrd i hi hl
  · intro B hB' hO
    rw [hother]
    · exact I.tr.frame B hB' hO
    · intro q
      rcases I.own ⟨b, pl, hk, q.symm, hwk⟩ with h | h
      · omega
      · exact hO h
  · intro s pl' h
    rw [Rho.upd_ne _ _ (by simp)] at h
    exact I.box s pl' h

/-- a number that stands for nothing -/
theorem Inv.newNone (I : Inv P ρ0 h0 w0 ρ m w) (x : Blk) : Inv P ρ0 h0 w0 ρ ⟨m.x, m.h.new x⟩ w := by
  have hfo : ∀ {b pl'}, ρ (false, b) = some pl' → (m.h.new x).f b = m.h.f b := fun {b pl'} h => by
    have := I.rel.dom _ _ h; simp only [Heap.new]; rw [if_neg (by omega)]
  have hrow : ∀ {k pl'}, ρ k = some pl' → (Mem.mk m.x (m.h.new x)).row? k = m.row? k := fun {k pl'} h => by
    obtain ⟨t, b⟩ := k
    cases t
    · simp only [Mem.row?, hfo h]
    · rfl
  have hwr : ∀ {k pl'}, ρ k = some pl' → (Mem.mk m.x (m.h.new x)).wr k = m.wr k := fun {k pl'} h => by
    obtain ⟨t, b⟩ := k
    cases t
    · simp only [Mem.wr, Heap.wr, hfo h]
    · rfl
  have hlive : ∀ {k pl'}, ρ k = some pl' → (Mem.mk m.x (m.h.new x)).live k = m.live k := fun {k pl'} h => by
    obtain ⟨t, b⟩ := k
    cases t
    · simp only [Mem.live, hfo h]
    · rfl
  refine ⟨⟨I.rel.bound, fun b pl h => by have := I.rel.dom _ _ h; simp only [Heap.new]; omega, fun k pl wr e cs h hr => I.rel.row k pl wr e cs h (by rwa [hrow h] at hr),
    fun b pl o h ho => I.rel.obj b pl o h (by rwa [hfo h] at ho), fun k k' pl pl' hne h h' hw hl => I.rel.sep k k' pl pl' hne h h' (by rwa [hwr h] at hw) (by rwa [hlive h'] at hl), I.rel.glob⟩,
    ⟨I.tr.os, I.tr.tape, I.tr.output, I.tr.drawn, I.tr.size, I.tr.ext, by simp only [Heap.new]; exact Nat.le_succ_of_le I.tr.hn, I.tr.hg, fun b pl h h' => ?_, fun b hb hl => ?_, fun b hb hl => ?_, I.tr.frame⟩, I.box, I.dom0⟩
  · obtain ⟨q1, q2⟩ := I.tr.new _ _ h h'
    exact ⟨q1, fun hl => q2 (by rwa [hfo h] at hl)⟩
  · have : (m.h.new x).f b = m.h.f b := by simp only [Heap.new]; rw [if_neg (by have := I.tr.hn; omega)]
    rw [this] at hl
    exact I.tr.dead b hb hl
  · have : (m.h.new x).wr b = m.h.wr b := by simp only [Heap.wr, Heap.new]; rw [if_neg (by have := I.tr.hn; omega)]
    rw [this] at hl
    exact I.tr.wrd b hb hl

/-! ### calls -/
def heapOnly (ρ : Rho) : Rho := fun k => if k.1 = true then none else ρ k
theorem heapOnly_f (ρ : Rho) (b : Nat) : heapOnly ρ (false, b) = ρ (false, b) := by simp [heapOnly]
theorem heapOnly_t (ρ : Rho) (s : Nat) : heapOnly ρ (true, s) = none := by simp [heapOnly]
theorem heapOnly_some {ρ : Rho} {k : Key} {pl : Pl} (h : heapOnly ρ k = some pl) : k.1 = false ∧ ρ k = some pl := by
  unfold heapOnly at h
  split at h
  · simp at h
  · rename_i q; exact ⟨by simpa using q, h⟩
theorem VR.heapOnly {v v' : Value} (h : VR ρ v v') : VR (heapOnly ρ) v v' := h.mono fun b pl q => by rw [heapOnly_f]; exact q
theorem VR.ofHeapOnly {v v' : Value} (h : VR (Am.heapOnly ρ) v v') : VR ρ v v' := h.mono fun b pl q => by rwa [heapOnly_f] at q

theorem MRel.heapOnly (R : MRel P ρ m w) : MRel P (heapOnly ρ) ⟨Boxes.nil, m.h⟩ w := by
  refine ⟨fun k pl h => R.bound k pl (heapOnly_some h).2, fun b pl h => R.dom b pl (heapOnly_some h).2, fun k pl wr e cs h hr => ?_, fun b pl o h ho => R.obj b pl o (heapOnly_some h).2 ho,
    fun k k' pl pl' hne h h' hw hl => ?_, fun i hi => ?_⟩
  · obtain ⟨t, b⟩ := k
    obtain ⟨ht, h⟩ := heapOnly_some h
    simp only at ht; subst ht
    obtain ⟨C, e', fz, c1, c2, c3, c4, c5, c6⟩ := R.row _ _ _ _ _ h (by simpa [Mem.row?] using hr)
    exact ⟨C, e', fz, c1, c2, c3, c4, c5, fun i v hi => let ⟨v', q1, q2⟩ := c6 i v hi; ⟨v', q1, q2.heapOnly⟩⟩
  · obtain ⟨t, b⟩ := k
    obtain ⟨t', b'⟩ := k'
    obtain ⟨ht, h⟩ := heapOnly_some h
    obtain ⟨ht', h'⟩ := heapOnly_some h'
    simp only at ht ht'; subst ht; subst ht'
    exact R.sep _ _ _ _ hne h h' hw hl
  · obtain ⟨pl, q1, q2⟩ := R.glob i hi
    exact ⟨pl, by rw [heapOnly_f]; exact q1, q2⟩

/-- behind a call: the boxes of this frame, what the call made of the heap -/
def Rho.join (ρ ρ' : Rho) : Rho := fun k => if k.1 = true then ρ k else ρ' k

theorem Inv.call (I : Inv P ρ0 h0 w0 ρ m w) {ρ' : Rho} {h' : Heap} {w' : World} (R : MRel P ρ' ⟨Boxes.nil, h'⟩ w') (T : Tr (Am.heapOnly ρ) m.h w ρ' h' w') :
    Inv P ρ0 h0 w0 (ρ.join ρ') ⟨m.x, h'⟩ w' ∧ (∀ b pl, ρ (false, b) = some pl → ρ.join ρ' (false, b) = some pl) ∧ (∀ s, ρ.join ρ' (true, s) = ρ (true, s)) := by
  have jt : ∀ s, ρ.join ρ' (true, s) = ρ (true, s) := fun s => by simp [Rho.join]
  have jf : ∀ b, ρ.join ρ' (false, b) = ρ' (false, b) := fun b => by simp [Rho.join]
  have hext : ∀ b pl, ρ (false, b) = some pl → ρ.join ρ' (false, b) = some pl := fun b pl h => by rw [jf]; exact T.ext b pl (by rw [heapOnly_f]; exact h)
  have hback : ∀ {B}, Own (Am.heapOnly ρ) m.h B → Own ρ m.h B := fun {B} ⟨b, pl, q1, q2⟩ => ⟨b, pl, by rwa [heapOnly_f] at q1, q2⟩
  -- a box is nobody's
  have hbox : ∀ s pl, ρ (true, s) = some pl → m.live (true, s) → ¬ Own (Am.heapOnly ρ) m.h pl.B := fun s pl h hl ho => by
    obtain ⟨b, pl', q1, q2, q3⟩ := hback ho
    exact I.rel.sep (false, b) (true, s) pl' pl (by simp) q1 h q3 hl q2
  have hboxh : ∀ s pl, ρ (true, s) = some pl → m.live (true, s) → w'.heap[pl.B]? = w.heap[pl.B]? := fun s pl h hl => T.frame _ (I.rel.bound _ _ h) (hbox s pl h hl)
  -- a box and a row of the heap behind the call
  have hapart : ∀ s pl b pl', ρ (true, s) = some pl → m.live (true, s) → ρ' (false, b) = some pl' → h'.f b ≠ .dead → pl.B ≠ pl'.B := fun s pl b pl' h hl h2 hl2 => by
    cases hb : ρ (false, b) with
    | none =>
      rcases (T.new b pl' h2 (by rw [heapOnly_f]; exact hb)).2 hl2 with q | q
      · have := I.rel.bound _ _ h; omega
      · exact fun e => hbox s pl h hl (e ▸ q)
    | some pl0 =>
      have := T.ext b pl0 (by rw [heapOnly_f]; exact hb)
      rw [this] at h2; obtain rfl := Option.some.inj h2
      exact I.rel.sep (true, s) (false, b) pl pl0 (by simp) h hb (by simpa [Mem.live, Mem.wr] using hl) (T.dead b (I.rel.dom _ _ hb) hl2)
  have hmono : ∀ {v u}, VR ρ v u → VR (ρ.join ρ') v u := fun {v u} h => h.mono hext
  have hmono' : ∀ {v u}, VR ρ' v u → VR (ρ.join ρ') v u := fun {v u} h => h.mono fun b pl q => by rw [jf]; exact q
  refine ⟨⟨⟨?_, ?_, ?_, ?_, ?_, ?_⟩, ⟨T.os.trans I.tr.os, T.tape.trans I.tr.tape, T.output.trans I.tr.output, fun hg => Nat.le_trans (I.tr.drawn hg) (T.drawn (I.tr.hg.trans hg)), Nat.le_trans I.tr.size T.size, fun b pl h => hext b pl (I.tr.ext b pl h),
    Nat.le_trans I.tr.hn T.hn, T.hg.trans I.tr.hg, ?_, ?_, ?_, ?_⟩, ?_, I.dom0⟩, hext, jt⟩
  · rintro ⟨t, b⟩ pl h
    cases t
    · rw [jf] at h; exact R.bound _ _ h
    · rw [jt] at h; exact Nat.lt_of_lt_of_le (I.rel.bound _ _ h) T.size
  · intro b pl h; rw [jf] at h; exact R.dom b pl h
  · rintro ⟨t, b⟩ pl wr e cs h hr
    cases t
    · rw [jf] at h
      obtain ⟨C, e', fz, c1, c2, c3, c4, c5, c6⟩ := R.row _ _ _ _ _ h (by simpa [Mem.row?] using hr)
      exact ⟨C, e', fz, c1, c2, c3, c4, c5, fun i v hi => let ⟨v', q1, q2⟩ := c6 i v hi; ⟨v', q1, hmono' q2⟩⟩
    · rw [jt] at h
      have hr' : m.row? (true, b) = some (wr, e, cs) := by simpa [Mem.row?] using hr
      obtain ⟨C, e', fz, c1, c2, c3, c4, c5, c6⟩ := I.rel.row _ _ _ _ _ h hr'
      exact ⟨C, e', fz, by rw [hboxh b pl h (Mem.live_of_row hr')]; exact c1, c2, c3, c4, c5, fun i v hi => let ⟨v', q1, q2⟩ := c6 i v hi; ⟨v', q1, hmono q2⟩⟩
  · intro b pl o h ho; rw [jf] at h; exact R.obj b pl o h ho
  · rintro ⟨t, b⟩ ⟨t', b'⟩ pl pl' hne h h2 hw hl
    cases t <;> cases t'
    · rw [jf] at h h2; exact R.sep _ _ _ _ hne h h2 hw hl
    · rw [jf] at h; rw [jt] at h2
      exact fun e => hapart b' pl' b pl h2 hl h (Mem.live_of_wr (m := ⟨m.x, h'⟩) (k := (false, b)) hw) e.symm
    · rw [jt] at h; rw [jf] at h2
      exact hapart b pl b' pl' h (Mem.live_of_wr (m := m) (k := (true, b)) hw) h2 hl
    · rw [jt] at h h2; exact I.rel.sep _ _ _ _ hne h h2 hw hl
  · intro i hi
    obtain ⟨pl, q1, q2⟩ := R.glob i hi
    exact ⟨pl, by rw [jf]; exact q1, q2⟩
  · intro b pl h hb
    rw [jf] at h
    cases hb' : ρ (false, b) with
    | none =>
      obtain ⟨q1, q2⟩ := T.new b pl h (by rw [heapOnly_f]; exact hb')
      refine ⟨Nat.le_trans I.tr.hn q1, fun hl => ?_⟩
      rcases q2 hl with q | q
      · exact .inl (Nat.le_trans I.tr.size q)
      · exact I.own (hback q)
    | some pl0 =>
      have := T.ext b pl0 (by rw [heapOnly_f]; exact hb')
      rw [this] at h; obtain rfl := Option.some.inj h
      obtain ⟨q1, q2⟩ := I.tr.new b pl0 hb' hb
      exact ⟨q1, fun hl => q2 (T.dead b (I.rel.dom _ _ hb') hl)⟩
  · exact fun b hb hl => I.tr.dead b hb (T.dead b (Nat.lt_of_lt_of_le hb I.tr.hn) hl)
  · exact fun b hb hl => I.tr.wrd b hb (T.wrd b (Nat.lt_of_lt_of_le hb I.tr.hn) hl)
  · intro B hB hO
    rw [T.frame B (Nat.lt_of_lt_of_le hB I.tr.size) ?_]
    · exact I.tr.frame B hB hO
    · intro q
      rcases I.own (hback q) with q | q
      · omega
      · exact hO q
  · intro s pl h; rw [jt] at h; exact I.box s pl h

theorem Inv.start {h : Heap} (R : MRel P ρ ⟨Boxes.nil, h⟩ w) (hb : ∀ s, ρ (true, s) = none) : Inv P ρ h w ρ ⟨Boxes.nil, h⟩ w :=
  ⟨R, Tr.refl _ _ _, fun s pl h => by rw [hb] at h; simp at h, fun b pl h => ⟨R.dom b pl h, R.bound _ _ h⟩⟩
end Go.Am
