/- The abstract machine, part R: from a call's contract to a row's walk. -/
import Derived.Test.YtmmbndbpjanfhaaDoorAmQ
import Derived.Below
set_option linter.unusedVariables false
set_option linter.unusedSimpArgs false
set_option linter.unusedSectionVars false
namespace Go.Am
open Go Go.RowKit

/-- a slice of whole numbers, as a function sees it -/
def IntsA (h : Heap) (v : Value) (l : List Int) : Prop := ∃ ad c, v = .slice ad l.length c ∧ (l = [] ∨ ∃ b w cs, ad = some ⟨b, 0, none⟩ ∧ h.f b = .row w 3 (l.map (Value.int .i64) ++ cs) ∧ b < h.n)
def IntsW (w : World) (a : Option Addr) (len cap : Nat) (zs : List Int) : Prop :=
  (a = none ∧ len = 0 ∧ cap = 0 ∧ zs = []) ∨
  ∃ x, a = some x ∧ len ≤ cap ∧ zs.length = cap ∧ (∀ i, i < zs.length → w.cell? (x.add i) = some (.int .i64 (zs.getD i 0)))
def rho0 : Rho := fun _ => none
def rho1 (pl : Pl) : Rho := fun k => if k = (false, 0) then some pl else none
def h0 : Heap := ⟨1, 0, fun _ => .dead⟩
def h1 (zs : List Int) : Heap := ⟨1, 0, fun b => if b = 0 then .row false 3 (zs.map (Value.int .i64)) else .dead⟩
theorem mrel0 (P : Program) (w : World) (h : Heap) (hg : h.g = 0) : MRel P rho0 ⟨Boxes.nil, h⟩ w :=
  ⟨fun k pl e => by simp [rho0] at e, fun b pl e => by simp [rho0] at e, fun k pl wr e cs q => by simp [rho0] at q, fun b pl o q => by simp [rho0] at q,
   fun k k' pl pl' _ q => by simp [rho0] at q, fun i hi => by rw [show (⟨Boxes.nil, h⟩ : Mem).h.g = 0 from hg] at hi; exact absurd hi (by omega)⟩
theorem add_add (x : Addr) (i : Nat) : (x.add i).block = x.block := by unfold Addr.add; split <;> rfl
theorem glue_ints (P : Program) (hc : P.cellsOf 3 = 1) {w : World} {a : Option Addr} {len cap : Nat} {zs : List Int} (H : IntsW w a len cap zs) :
    ∃ (h : Heap) (v : Value) (ρ : Rho), (∀ s, ρ (true, s) = none) ∧ MRel P ρ ⟨Boxes.nil, h⟩ w ∧ VR ρ v (.slice a len cap) ∧ IntsA h v (zs.take len) ∧ (∀ B, ¬ Own ρ h B) ∧ (zs.take len).length = len := by
  rcases H with ⟨rfl, rfl, rfl, rfl⟩ | ⟨x, rfl, hl, hz, hcell⟩
  · exact ⟨h0, _, rho0, fun _ => rfl, mrel0 P w h0 rfl, .sln, ⟨none, 0, rfl, .inl rfl⟩, fun B ⟨b, pl, q, _⟩ => by simp [rho0] at q, rfl⟩
  · by_cases hcap : cap = 0
    · subst hcap
      have : len = 0 := by omega
      subst this
      exact ⟨h0, _, rho0, fun _ => rfl, mrel0 P w h0 rfl, .sl0 default x 0, ⟨_, _, rfl, .inl rfl⟩, fun B ⟨b, pl, q, _⟩ => by simp [rho0] at q, rfl⟩
    · have hc0 := hcell 0 (by omega)
      obtain ⟨blk, off, spot⟩ := x
      have key : ∀ i, i < zs.length → ∃ C e fz, w.heap[blk]? = some (.cells C e fz) ∧ C[off + i]? = some (.int .i64 (zs.getD i 0)) ∧ (i = 0 → spot = none) := by
        intro i hi
        have := hcell i hi
        unfold World.cell? at this
        rw [add_add] at this
        split at this
        · rename_i C e fz hh
          split at this
          · simp at this
          · rename_i hs
            refine ⟨C, e, fz, hh, ?_, fun e0 => ?_⟩
            · by_cases hi0 : i = 0
              · subst hi0; simpa [Addr.add] using this
              · simpa [Addr.add, hi0] using this
            · subst e0; simpa [Addr.add] using hs
        · simp at this
      obtain ⟨C, e, fz, hh, _, hsp⟩ := key 0 (by omega)
      obtain rfl := hsp rfl
      have hC : ∀ i, i < zs.length → C[off + i]? = some (.int .i64 (zs.getD i 0)) := fun i hi => by
        obtain ⟨C', e', fz', q1, q2, _⟩ := key i hi
        rw [hh] at q1; simp only [Option.some.injEq, Obj.cells.injEq] at q1
        rw [q1.1]; exact q2
      have hsz : off + zs.length ≤ C.size := by
        have := hC (zs.length - 1) (by omega)
        have h2 : off + (zs.length - 1) < C.size := by rcases Nat.lt_or_ge (off + (zs.length - 1)) C.size with z | z; exact z; rw [Array.getElem?_eq_none z] at this; cases this
        omega
      refine ⟨h1 zs, .slice (some ⟨0, 0, none⟩) len len, rho1 ⟨blk, off, zs.length, 1⟩, fun s => by simp [rho1], ?_, ?_, ?_, ?_, by simp; omega⟩
      · refine ⟨fun k pl q => ?_, fun b pl q => ?_, fun k pl wr e' cs q r => ?_, fun b pl o q r => ?_, fun k k' pl pl' hne q q' => ?_, fun i hi => by exact absurd hi (by simp [h1])⟩
        · simp only [rho1] at q; split at q
          · simp only [Option.some.injEq] at q; subst q
            rcases Nat.lt_or_ge blk w.heap.size with z | z
            · exact z
            · rw [Array.getElem?_eq_none z] at hh; cases hh
          · simp at q
        · simp only [rho1] at q; split at q
          · rename_i e1; simp at e1; subst e1; exact Nat.one_pos
          · simp at q
        · simp only [rho1] at q; split at q
          · rename_i e1; subst e1
            simp only [Option.some.injEq] at q; subst q
            simp [Mem.row?, h1] at r
            obtain ⟨rfl, rfl, rfl⟩ := r
            refine ⟨C, e, fz, hh, by simp, by simp, hsz, hc.symm, fun i v hi => ?_⟩
            rw [List.getElem?_map] at hi
            cases hzi : zs[i]? with
            | none => rw [hzi] at hi; simp at hi
            | some z =>
              rw [hzi] at hi; simp at hi; subst hi
              have hlt : i < zs.length := by rw [List.getElem?_eq_some_iff] at hzi; exact hzi.1
              refine ⟨_, hC i hlt, ?_⟩
              rw [List.getD_eq_getElem?_getD, hzi]
              exact .int _ _
          · simp at q
        · simp only [rho1] at q; split at q
          · rename_i e1; simp at e1; subst e1; simp [h1] at r
          · simp at q
        · simp only [rho1] at q q'
          split at q <;> simp at q
          split at q' <;> simp at q'
          rename_i e1 e2
          exact absurd (e1.trans e2.symm) hne
      · have := VR.sl (ρ := rho1 ⟨blk, off, zs.length, 1⟩) 0 0 len len ⟨blk, off, zs.length, 1⟩ cap rfl hl (by simp; omega)
        simpa using this
      · refine ⟨_, _, by rw [List.length_take]; congr 1; omega, ?_⟩
        by_cases hlen : zs.take len = []
        · exact .inl hlen
        · refine .inr ⟨0, false, (zs.drop len).map (Value.int .i64), rfl, ?_, Nat.one_pos⟩
          show (h1 zs).f 0 = _
          simp only [h1, if_true]
          rw [← List.map_append, List.take_append_drop]
      · rintro B ⟨b, pl, q, rfl, hw⟩
        simp only [rho1] at q; split at q
        · rename_i e1; simp at e1; subst e1; simp [Heap.wr, h1] at hw
        · simp at q

/-- a law that answers true -/
theorem law_walk {P : Program} {f : FuncId} {args args' : List Value} {h : Heap} {ρ : Rho} {w : World} {post : Value → Heap → Prop} (H : ACalls P f args h post) (hp : ∀ v h', post v h' → v = .bool true)
    (hb : ∀ s, ρ (true, s) = none) (R : MRel P ρ ⟨Boxes.nil, h⟩ w) (V : VRl ρ args args') (hO : ∀ B, ¬ Own ρ h B) :
    Calls P f ⟨args'⟩ w fun e w' => e = .returned (.bool true) ∧ Below w.heap.size w w' := by
  refine (H.2 ρ w args' hb R V).mono ?_
  rintro e w' ⟨v, v', h', ρ', rfl, q, _, _, T, hv⟩
  obtain rfl := hp _ _ q
  cases hv
  exact ⟨rfl, T.os, T.tape, T.output, T.size, fun k hk => T.frame k hk (hO k)⟩
end Go.Am
