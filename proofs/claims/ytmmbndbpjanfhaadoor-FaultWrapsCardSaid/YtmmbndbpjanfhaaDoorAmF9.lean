/- A row whose world holds laid variables: from the world to the abstract machine, and back. -/
import Derived.Test.YtmmbndbpjanfhaaDoorAmF4
import Derived.Test.YtmmbndbpjanfhaaDoorAmR
set_option linter.unusedVariables false
set_option linter.unusedSimpArgs false
set_option linter.unusedSectionVars false
namespace Go.Proofs.Flt
open Go Go.Am Go.RowKit
def isLaid (w : World) : Prop := (∃ t f, w.heap[0]? = some (.cells #[.iface 76 (.agg #[.pointer (some ⟨5, 23, none⟩)])] t f)) ∧
  (∃ t f, w.heap[1]? = some (.cells (Lib.pow10Tab.map fun z => Value.int .u64 z).toArray t f))
def rhoG (o : Option Pl) : Rho := fun k => if k = (false, 0) then some ⟨0, 0, 0, 0⟩ else if k = (false, 1) then some ⟨1, 0, 0, 0⟩ else if k = (false, 2) then o else none
def hG (o0 o1 : Obj) (zs : List Int) : Heap := ⟨3, 2, fun b => if b = 0 then .obj o0 else if b = 1 then .obj o1 else if b = 2 then .row false 3 (zs.map (Value.int .i64)) else .dead⟩
theorem rhoG_cases {o : Option Pl} {k : Key} {pl : Pl} (h : rhoG o k = some pl) : (k = (false, 0) ∧ pl = ⟨0, 0, 0, 0⟩) ∨ (k = (false, 1) ∧ pl = ⟨1, 0, 0, 0⟩) ∨ (k = (false, 2) ∧ o = some pl) := by
  unfold rhoG at h
  split at h
  · simp only [Option.some.injEq] at h; exact .inl ⟨by assumption, h.symm⟩
  · split at h
    · simp only [Option.some.injEq] at h; exact .inr (.inl ⟨by assumption, h.symm⟩)
    · split at h
      · exact .inr (.inr ⟨by assumption, h⟩)
      · cases h
theorem ownG {o : Option Pl} {o0 o1 : Obj} {zs : List Int} {B : Nat} (h : Own (rhoG o) (hG o0 o1 zs) B) : B = 0 ∨ B = 1 := by
  obtain ⟨b, pl, q, rfl, hw⟩ := h
  rcases rhoG_cases q with ⟨e, rfl⟩ | ⟨e, rfl⟩ | ⟨e, _⟩
  · exact .inl rfl
  · exact .inr rfl
  · simp only [Prod.mk.injEq, true_and] at e
    subst e
    simp [Heap.wr, hG] at hw
structure Started (w : World) (h : Heap) (ρ : Rho) : Prop where
  glob : GlobOK h
  box : ∀ s, ρ (true, s) = none
  rel : MRel PP ρ ⟨Boxes.nil, h⟩ w
  own : ∀ B, Own ρ h B → B = 0 ∨ B = 1
  r0 : ρ (false, 0) = some ⟨0, 0, 0, 0⟩
  r1 : ρ (false, 1) = some ⟨1, 0, 0, 0⟩
  o0 : ∃ o, h.f 0 = .obj o ∧ w.heap[0]? = some o
  o1 : ∃ o, h.f 1 = .obj o ∧ w.heap[1]? = some o
theorem start_of {w : World} (L : isLaid w) (o : Option Pl) (zs : List Int) (C : Array Value) (e : TypeId) (fz : Nat × Nat)
    (H : ∀ pl, o = some pl → pl.B ≠ 0 ∧ pl.B ≠ 1 ∧ w.heap[pl.B]? = some (.cells C e fz) ∧ pl.n = zs.length ∧ pl.sz = 1 ∧ pl.o + pl.n ≤ C.size ∧ ∀ i, i < zs.length → C[pl.o + i]? = some (.int .i64 (zs.getD i 0))) (hc : PP.cellsOf 3 = 1) :
    ∃ o0 o1, Started w (hG o0 o1 zs) (rhoG o) := by
  obtain ⟨⟨t0, f0, L0⟩, ⟨t1, f1, L1⟩⟩ := L
  have hlt : ∀ {B : Nat} {x : Obj}, w.heap[B]? = some x → B < w.heap.size := fun {B x} q => by
    rcases Nat.lt_or_ge B w.heap.size with z | z
    · exact z
    · rw [Array.getElem?_eq_none z] at q; cases q
  refine ⟨_, _, ⟨rfl, by show 2 ≤ 3; decide, ⟨t0, f0, rfl⟩, ⟨t1, f1, rfl⟩⟩, fun s => by simp [rhoG], ⟨?_, ?_, ?_, ?_, ?_, ?_⟩, fun B => ownG, rfl, rfl, ⟨_, rfl, L0⟩, ⟨_, rfl, L1⟩⟩
  · intro k pl q
    rcases rhoG_cases q with ⟨rfl, rfl⟩ | ⟨rfl, rfl⟩ | ⟨rfl, q⟩
    · exact hlt L0
    · exact hlt L1
    · exact hlt (H pl q).2.2.1
  · intro b pl q
    rcases rhoG_cases q with ⟨e, _⟩ | ⟨e, _⟩ | ⟨e, _⟩
    all_goals
      simp only [Prod.mk.injEq, true_and] at e
      subst e
      simp [hG]
  · intro k pl wr e' cs q r
    rcases rhoG_cases q with ⟨rfl, rfl⟩ | ⟨rfl, rfl⟩ | ⟨rfl, q⟩
    · simp [Mem.row?, hG] at r
    · simp [Mem.row?, hG] at r
    · obtain ⟨_, _, a1, a2, a3, a4, a5⟩ := H pl q
      simp only [Mem.row?, hG] at r
      simp at r
      obtain ⟨rfl, rfl, rfl⟩ := r
      refine ⟨C, e, fz, a1, by simp, by simp; omega, a4, by rw [a3]; exact hc.symm, fun i v hi => ?_⟩
      rw [List.getElem?_map] at hi
      cases hzi : zs[i]? with
      | none => rw [hzi] at hi; simp at hi
      | some z =>
        rw [hzi] at hi; simp at hi; subst hi
        have hl : i < zs.length := by rw [List.getElem?_eq_some_iff] at hzi; exact hzi.1
        refine ⟨_, a5 i hl, ?_⟩
        rw [List.getD_eq_getElem?_getD, hzi]
        exact .int _ _
  · intro b pl ob q r
    rcases rhoG_cases q with ⟨e, rfl⟩ | ⟨e, rfl⟩ | ⟨e, q⟩
    all_goals
      simp only [Prod.mk.injEq, true_and] at e
      subst e
    · simp [hG] at r; subst r; exact ⟨L0, rfl⟩
    · simp [hG] at r; subst r; exact ⟨L1, rfl⟩
    · simp [hG] at r
  · intro k k' pl pl' hne q q' hw hl
    rcases rhoG_cases q with ⟨rfl, rfl⟩ | ⟨rfl, rfl⟩ | ⟨rfl, q⟩
    · rcases rhoG_cases q' with ⟨rfl, rfl⟩ | ⟨rfl, rfl⟩ | ⟨rfl, q'⟩
      · exact absurd rfl hne
      · decide
      · exact Ne.symm (H pl' q').1
    · rcases rhoG_cases q' with ⟨rfl, rfl⟩ | ⟨rfl, rfl⟩ | ⟨rfl, q'⟩
      · decide
      · exact absurd rfl hne
      · exact Ne.symm (H pl' q').2.1
    · simp [Mem.wr, Heap.wr, hG] at hw
  · intro i hi
    have hi' : i < 2 := hi
    match i, hi' with
    | 0, _ => exact ⟨_, rfl, rfl, rfl⟩
    | 1, _ => exact ⟨_, rfl, rfl, rfl⟩
theorem start_plain {w : World} (L : isLaid w) : ∃ h ρ, Started w h ρ := by
  obtain ⟨o0, o1, S⟩ := start_of L none [] #[] 0 (0, 0) (fun pl q => by cases q) (by kernel_rfl)
  exact ⟨_, _, S⟩
theorem start_ints {w : World} (L : isLaid w) {a : Option Addr} {len cap : Nat} {zs : List Int} (H : IntsW w a len cap zs) :
    ∃ h ρ v, Started w h ρ ∧ VR ρ v (.slice a len cap) ∧ IntsA h v (zs.take len) ∧ (zs.take len).length = len := by
  rcases H with ⟨rfl, rfl, rfl, rfl⟩ | ⟨x, rfl, hl, hz, hcell⟩
  · obtain ⟨h, ρ, S⟩ := start_plain L
    exact ⟨h, ρ, _, S, .sln, ⟨none, 0, rfl, .inl rfl⟩, rfl⟩
  · by_cases hcap : cap = 0
    · subst hcap
      have : len = 0 := by omega
      subst this
      obtain ⟨h, ρ, S⟩ := start_plain L
      exact ⟨h, ρ, _, S, .sl0 default x 0, ⟨_, _, rfl, .inl rfl⟩, rfl⟩
    · have hc0 := hcell 0 (by omega)
      obtain ⟨blk, off, spot⟩ := x
      have key : ∀ i, i < zs.length → ∃ C e fz, w.heap[blk]? = some (.cells C e fz) ∧ C[off + i]? = some (.int .i64 (zs.getD i 0)) ∧ (i = 0 → spot = none) := by
        intro i hi
        have := hcell i hi
        unfold World.cell? at this
        rw [add_add] at this
        split at this
        · rename_i C e fz hh
          split at this
          · simp at this
          · rename_i hs
            refine ⟨C, e, fz, hh, ?_, fun e0 => ?_⟩
            · by_cases hi0 : i = 0
              · subst hi0; simpa [Addr.add] using this
              · simpa [Addr.add, hi0] using this
            · subst e0; simpa [Addr.add] using hs
        · simp at this
      obtain ⟨C, e, fz, hh, hC0, hsp⟩ := key 0 (by omega)
      obtain rfl := hsp rfl
      have hC : ∀ i, i < zs.length → C[off + i]? = some (.int .i64 (zs.getD i 0)) := fun i hi => by
        obtain ⟨C', e', fz', q1, q2, _⟩ := key i hi
        rw [hh] at q1; simp only [Option.some.injEq, Obj.cells.injEq] at q1
        rw [q1.1]; exact q2
      have hsz : off + zs.length ≤ C.size := by
        have := hC (zs.length - 1) (by omega)
        have h2 : off + (zs.length - 1) < C.size := by rcases Nat.lt_or_ge (off + (zs.length - 1)) C.size with z | z; exact z; rw [Array.getElem?_eq_none z] at this; cases this
        omega
      have hb0 : blk ≠ 0 := by
        rintro rfl
        obtain ⟨t0, f0, L0⟩ := L.1
        rw [hh] at L0
        simp only [Option.some.injEq, Obj.cells.injEq] at L0
        rw [L0.1] at hC0
        rcases off with _ | off
        · simp at hC0
        · simp at hC0
      have hb1 : blk ≠ 1 := by
        rintro rfl
        obtain ⟨t0, f0, L0⟩ := L.2
        rw [hh] at L0
        simp only [Option.some.injEq, Obj.cells.injEq] at L0
        rw [L0.1] at hC0
        simp only [List.getElem?_toArray, List.getElem?_map, Option.map_eq_some_iff] at hC0
        obtain ⟨z, _, q⟩ := hC0
        simp at q
      obtain ⟨o0, o1, S⟩ := start_of L (some ⟨blk, off, zs.length, 1⟩) zs C e fz (fun pl q => by
        cases q
        exact ⟨hb0, hb1, hh, rfl, rfl, hsz, hC⟩) (by kernel_rfl)
      refine ⟨_, _, .slice (some ⟨2, 0, none⟩) len len, S, ?_, ?_, by simp; omega⟩
      · have := VR.sl (ρ := rhoG (some ⟨blk, off, zs.length, 1⟩)) 2 0 len len ⟨blk, off, zs.length, 1⟩ cap rfl hl (by simp; omega)
        simpa using this
      · refine ⟨_, _, by rw [List.length_take]; congr 1; omega, ?_⟩
        by_cases hlen : zs.take len = []
        · exact .inl hlen
        · refine .inr ⟨2, false, (zs.drop len).map (Value.int .i64), rfl, ?_, by show 2 < 3; decide⟩
          show (hG o0 o1 zs).f 2 = _
          simp only [hG]
          rw [← List.map_append, List.take_append_drop]
          rfl
/-- a law that answers true, and makes things of its own alone -/
theorem law_walk2 {f : FuncId} {args args' : List Value} {h : Heap} {ρ : Rho} {w : World} (S : Started w h ρ) (H : ACalls PP f args h (fun v h' => Ext h h' ∧ v = .bool true)) (V : VRl ρ args args') :
    Calls PP f ⟨args'⟩ w fun e w' => e = .returned (.bool true) ∧ Below w.heap.size w w' := by
  refine (H.2 ρ w args' S.box S.rel V).mono ?_
  rintro e w' ⟨v, v', h', ρ', rfl, ⟨E, rfl⟩, _, R, T, hv⟩
  cases hv
  refine ⟨rfl, T.os, T.tape, T.output, T.size, fun k hk => ?_⟩
  have hn := S.glob.2.1
  rcases Nat.lt_or_ge k 2 with z | z
  · match k, z with
    | 0, _ =>
      obtain ⟨o, q1, q2⟩ := S.o0
      rw [q2]
      exact (R.obj 0 _ o (T.ext 0 _ S.r0) (by show h'.f 0 = _; rw [E.f 0 (by omega)]; exact q1)).1
    | 1, _ =>
      obtain ⟨o, q1, q2⟩ := S.o1
      rw [q2]
      exact (R.obj 1 _ o (T.ext 1 _ S.r1) (by show h'.f 1 = _; rw [E.f 1 (by omega)]; exact q1)).1
  · exact T.frame k hk (fun o => by rcases S.own k o with r | r <;> omega)
end Go.Proofs.Flt
