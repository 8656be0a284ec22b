/- The abstract machine, part W: to and from the kit's contracts of the library. -/
import Derived.Test.YtmmbndbpjanfhaaDoorAmU
import Derived.Sort.Grow
import Derived.Deep.Draws
set_option linter.unusedVariables false
set_option linter.unusedSimpArgs false
set_option linter.unusedSectionVars false
namespace Go.Am
open Go Go.RowKit
theorem array_prefix {α : Type} {a b : Array α} (hs : a.size ≤ b.size) (h : ∀ i, i < a.size → b[i]? = a[i]?) : b = a ++ b.extract a.size b.size := by
  apply Array.ext'
  rw [Array.toList_append, Array.toList_extract]
  apply List.ext_getElem?
  intro i
  by_cases hi : i < a.size
  · rw [List.getElem?_append_left (by simpa using hi)]
    have := h i hi
    simpa using this
  · rw [List.getElem?_append_right (by simpa using Nat.le_of_not_lt hi)]
    simp only [List.extract, Array.length_toList, List.getElem?_take, List.getElem?_drop]
    rw [show a.size + (i - a.size) = i by omega]
    split
    · rfl
    · rw [List.getElem?_eq_none]; simp; omega
/-- a call without memory of its own: what is there stays, more may be laid behind it -/
theorem ACalls.grown {P : Program} {f : FuncId} {args : List Value} {post : Value → Heap → Prop} {r : Value} (H : ACalls P f args h0 post) (hp : ∀ v h', post v h' → v = r) (hr : flat2 r = true) (ha : ∀ v ∈ args, flat2 v = true) (W : World) :
    Calls P f ⟨args⟩ W fun e w' => e = .returned r ∧ ∃ q os', w' = Sort.grow (W.drewN q) os' := by
  refine (H.2 rho0 W args (fun _ => rfl) (mrel0 P W h0 rfl) ⟨rfl, fun i v hi => ⟨v, hi, .of_flat2 (ha v (List.mem_of_getElem? hi))⟩⟩).mono ?_
  rintro e w' ⟨v, v', h', ρ', rfl, q, _, _, T, hv⟩
  obtain rfl := hp _ _ q
  have hv := hv.flat2 hr
  subst hv
  refine ⟨rfl, w'.drawn - W.drawn, w'.heap.extract W.heap.size w'.heap.size, ?_⟩
  have hh := array_prefix T.size (fun i hi => T.frame i hi (fun ⟨b, pl, q, _⟩ => by simp [rho0] at q))
  obtain ⟨heap, tape, drawn, os, output⟩ := w'
  have h1 := T.os; have h2 := T.tape; have h3 := T.output; have h4 := T.drawn rfl
  simp only at h1 h2 h3 h4 hh
  subst h1; subst h2; subst h3
  simp only [Sort.grow, World.drewN]
  congr 1
  omega
/-- a row of one's own, turned by a call of the library -/
theorem turned {P : Program} {ρ : Rho} {h : Heap} {w w' : World} {b : Nat} {pl : Pl} {e : TypeId} {cs cs' : List Value} (R : MRel P ρ ⟨Boxes.nil, h⟩ w) (hk : ρ (false, b) = some pl) (hrow : h.f b = .row true e cs) (hl : cs'.length = cs.length)
    (os : w'.os = w.os) (tape : w'.tape = w.tape) (output : w'.output = w.output) (drawn : w.drawn ≤ w'.drawn) (size : w.heap.size ≤ w'.heap.size)
    (hother : ∀ B, B < w.heap.size → B ≠ pl.B → w'.heap[B]? = w.heap[B]?)
    (hcells : ∀ C e' fz, w.heap[pl.B]? = some (.cells C e' fz) → ∃ C', w'.heap[pl.B]? = some (.cells C' e' fz) ∧ C'.size = C.size ∧ ∀ (i : Nat) (v : Value), cs'[i]? = some v → ∃ v', C'[pl.o + i]? = some v' ∧ VR ρ v v') :
    MRel P ρ ⟨Boxes.nil, h.set b (.row true e cs')⟩ w' ∧ Tr ρ h w ρ (h.set b (.row true e cs')) w' := by
  have hbn := R.dom b pl hk
  have hbound := R.bound _ _ hk
  have hf : ∀ b', b' ≠ b → (h.set b (.row true e cs')).f b' = h.f b' := fun b' hb' => by rw [f_set, if_neg hb']
  have hfb : (h.set b (.row true e cs')).f b = .row true e cs' := by rw [f_set, if_pos rfl]
  have hwr : Mem.wr ⟨Boxes.nil, h⟩ (false, b) := by simp [Mem.wr, Heap.wr, hrow]
  have hlive : ∀ k, Mem.live ⟨Boxes.nil, h.set b (.row true e cs')⟩ k → Mem.live ⟨Boxes.nil, h⟩ k := by
    rintro ⟨t, b'⟩ hl
    cases t with
    | true => exact hl
    | false =>
      by_cases hb' : b' = b
      · subst hb'; simp [Mem.live, hrow]
      · simp only [Mem.live, hf b' hb'] at hl; exact hl
  have hwr' : ∀ k, Mem.wr ⟨Boxes.nil, h.set b (.row true e cs')⟩ k → Mem.wr ⟨Boxes.nil, h⟩ k := by
    rintro ⟨t, b'⟩ hl
    cases t with
    | true => exact hl
    | false =>
      by_cases hb' : b' = b
      · subst hb'; exact hwr
      · simp only [Mem.wr, Heap.wr, hf b' hb'] at hl; exact hl
  have hsame : ∀ k pl', k ≠ (false, b) → ρ k = some pl' → Mem.live ⟨Boxes.nil, h⟩ k → w'.heap[pl'.B]? = w.heap[pl'.B]? := fun k pl' hne q hlv =>
    hother _ (R.bound _ _ q) (fun e => R.sep (false, b) k pl pl' (Ne.symm hne) hk q hwr hlv e.symm)
  refine ⟨⟨fun k pl' q => Nat.lt_of_lt_of_le (R.bound k pl' q) size, fun b' pl' q => by rw [n_set]; exact R.dom b' pl' q, ?_, ?_, fun k k' p p' hne q q' hw hlv => R.sep k k' p p' hne q q' (hwr' k hw) (hlive k' hlv), fun i hi => R.glob i hi⟩, ?_⟩
  · intro k pl' wr e1 cs1 q hr
    by_cases hkb : k = (false, b)
    · subst hkb
      rw [hk] at q
      obtain rfl := Option.some.inj q
      simp only [Mem.row?, hfb, Option.some.injEq, Prod.mk.injEq] at hr
      obtain ⟨rfl, rfl, rfl⟩ := hr
      obtain ⟨C, e', fz, c1, c2, c3, c4, c5, c6⟩ := R.row (false, b) pl true e cs hk (by simp [Mem.row?, hrow])
      obtain ⟨C', d1, d2, d3⟩ := hcells C e' fz c1
      exact ⟨C', e', fz, d1, c2, by omega, by omega, c5, d3⟩
    · have hr' : Mem.row? ⟨Boxes.nil, h⟩ k = some (wr, e1, cs1) := by
        obtain ⟨t, b'⟩ := k
        cases t with
        | true => exact hr
        | false =>
          have : b' ≠ b := fun e => hkb (by rw [e])
          simp only [Mem.row?, hf b' this] at hr; exact hr
      obtain ⟨C, e', fz, c1, c2⟩ := R.row k pl' wr e1 cs1 q hr'
      have hlv : Mem.live ⟨Boxes.nil, h⟩ k := by
        obtain ⟨t, b'⟩ := k
        cases t with
        | true => simp [Mem.row?, Boxes.nil, Boxes.look] at hr'
        | false =>
          simp only [Mem.row?] at hr'
          simp only [Mem.live]
          split at hr'
          · rename_i hx; simp [hx]
          · simp at hr'
      exact ⟨C, e', fz, by rw [hsame k pl' hkb q hlv]; exact c1, c2⟩
  · intro b' pl' o q ho
    by_cases hb' : b' = b
    · subst hb'; rw [hfb] at ho; cases ho
    · rw [hf b' hb'] at ho
      obtain ⟨c1, c2⟩ := R.obj b' pl' o q ho
      exact ⟨by rw [hsame (false, b') pl' (by simpa using hb') q (by simp [Mem.live, ho])]; exact c1, c2⟩
  · refine ⟨os, tape, output, fun _ => drawn, size, fun _ _ q => q, Nat.le_refl _, rfl, fun b' pl' q q' => (by rw [q] at q'; cases q'), fun b' hb' hd => ?_, fun b' hb' hw => ?_, fun B hB hO => hother B hB (fun e => hO ⟨b, pl, hk, e.symm, by simp [Heap.wr, hrow]⟩)⟩
    · by_cases e : b' = b
      · subst e; rw [hrow]; simp
      · rwa [hf b' e] at hd
    · by_cases e : b' = b
      · subst e; simp [Heap.wr, hrow]
      · simp only [Heap.wr, hf b' e] at hw; exact hw
end Go.Am
