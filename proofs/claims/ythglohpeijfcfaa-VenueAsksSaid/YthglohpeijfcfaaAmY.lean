/- The abstract machine, part Y: arguments that are slices of whatever is made of whole numbers, one behind the other. -/
import Derived.Test.YthglohpeijfcfaaAmX
import Derived.Deep.Slices
import Derived.Deep.Fields
set_option linter.unusedVariables false
set_option linter.unusedSimpArgs false
set_option linter.unusedSectionVars false
namespace Go.Am
open Go Go.RowKit
/-- a slice whose elements are of sz cells, all of them whole numbers -/
def RowW (w : World) (sz : Nat) (a : Option Addr) (len cap : Nat) (zs : List Int) : Prop :=
  (a = none ∧ len = 0 ∧ cap = 0 ∧ zs = []) ∨
  ∃ x, a = some x ∧ len ≤ cap ∧ zs.length = cap * sz ∧ (∀ i, i < zs.length → w.cell? (x.add i) = some (.int .i64 (zs.getD i 0)))
/-- as a function sees it: the cells of the elements -/
def RowA (e : TypeId) (h : Heap) (v : Value) (len : Nat) (zs : List Int) : Prop := ∃ ad c, v = .slice ad len c ∧ (ad = none → c = 0) ∧ (len = 0 ∨ ∃ b cs, ad = some ⟨b, 0, none⟩ ∧ h.f b = .row false e (zs.map (Value.int .i64) ++ cs) ∧ b < h.n)
theorem RowA.ext {e : TypeId} {h h' : Heap} {v : Value} {len : Nat} {zs : List Int} (H : RowA e h v len zs) (E : Ext h h') : RowA e h' v len zs := by
  obtain ⟨ad, c, rfl, hc, z⟩ := H
  refine ⟨ad, c, rfl, hc, ?_⟩
  rcases z with z | ⟨b, cs, rfl, h2, h3⟩
  · exact .inl z
  · exact .inr ⟨b, cs, rfl, by rw [E.f b h3]; exact h2, Nat.lt_of_lt_of_le h3 E.n⟩
/-- what is known of the arguments that are laid so far -/
structure Laid (P : Program) (w : World) (ρ : Rho) (h : Heap) : Prop where
  box : ∀ s, ρ (true, s) = none
  rel : MRel P ρ ⟨Boxes.nil, h⟩ w
  g : h.g = 0
  own : ∀ B, ¬ Own ρ h B
theorem Laid.start (P : Program) (w : World) : Laid P w rho0 h0 := ⟨fun _ => rfl, mrel0 P w h0 rfl, rfl, fun B ⟨b, pl, q, _⟩ => by simp [rho0] at q⟩
theorem glue_add {P : Program} {e : TypeId} {sz : Nat} (hc : P.cellsOf e = sz) (hs0 : 0 < sz) {w : World} {ρ : Rho} {h : Heap} (L : Laid P w ρ h) {a : Option Addr} {len cap : Nat} {zs : List Int} (H : RowW w sz a len cap zs) :
    ∃ (h' : Heap) (v : Value) (ρ' : Rho), Laid P w ρ' h' ∧ Ext h h' ∧ (∀ b pl, ρ (false, b) = some pl → ρ' (false, b) = some pl) ∧ VR ρ' v (.slice a len cap) ∧ RowA e h' v len (zs.take (len * sz)) ∧ (zs.take (len * sz)).length = len * sz := by
  rcases H with ⟨rfl, rfl, rfl, rfl⟩ | ⟨x, rfl, hl, hz, hcell⟩
  · exact ⟨h, _, ρ, L, Ext.rfl' h, fun _ _ q => q, .sln, ⟨none, 0, rfl, fun _ => rfl, .inl rfl⟩, by simp⟩
  · by_cases hcap : cap = 0
    · subst hcap
      have : len = 0 := by omega
      subst this
      exact ⟨h, _, ρ, L, Ext.rfl' h, fun _ _ q => q, .sl0 default x 0, ⟨_, _, rfl, fun _ => rfl, .inl rfl⟩, by simp⟩
    · have hpos : 0 < zs.length := by rw [hz]; exact Nat.mul_pos (by omega) hs0
      have hc0 := hcell 0 hpos
      obtain ⟨blk, off, spot⟩ := x
      have key : ∀ i, i < zs.length → ∃ C e fz, w.heap[blk]? = some (.cells C e fz) ∧ C[off + i]? = some (.int .i64 (zs.getD i 0)) ∧ (i = 0 → spot = none) := by
        intro i hi
        have := hcell i hi
        unfold World.cell? at this
        rw [Go.Am.add_add] at this
        split at this
        · rename_i C e fz hh
          split at this
          · simp at this
          · rename_i hs
            refine ⟨C, e, fz, hh, ?_, fun e0 => ?_⟩
            · by_cases hi0 : i = 0
              · subst hi0; simpa [Addr.add] using this
              · simpa [Addr.add, hi0] using this
            · subst e0; simpa [Addr.add] using hs
        · simp at this
      obtain ⟨C, e0, fz, hh, _, hsp⟩ := key 0 hpos
      obtain rfl := hsp rfl
      have hC : ∀ i, i < zs.length → C[off + i]? = some (.int .i64 (zs.getD i 0)) := fun i hi => by
        obtain ⟨C', e', fz', q1, q2, _⟩ := key i hi
        rw [hh] at q1; simp only [Option.some.injEq, Obj.cells.injEq] at q1
        rw [q1.1]; exact q2
      have hsz : off + zs.length ≤ C.size := by
        have := hC (zs.length - 1) (by omega)
        have h2 : off + (zs.length - 1) < C.size := by rcases Nat.lt_or_ge (off + (zs.length - 1)) C.size with z | z; exact z; rw [Array.getElem?_eq_none z] at this; cases this
        omega
      have hblk : blk < w.heap.size := by
        rcases Nat.lt_or_ge blk w.heap.size with z | z
        · exact z
        · rw [Array.getElem?_eq_none z] at hh; cases hh
      obtain ⟨pl, hpl⟩ : ∃ pl : Pl, pl = ⟨blk, off, zs.length, sz⟩ := ⟨_, rfl⟩
      obtain ⟨h', hh'⟩ : ∃ h', h' = h.new (.row false e (zs.map (Value.int .i64))) := ⟨_, rfl⟩
      obtain ⟨ρ', hρ'⟩ : ∃ ρ' : Rho, ρ' = fun k => if k = (false, h.n) then some pl else ρ k := ⟨_, rfl⟩
      have E : Ext h h' := by rw [hh']; exact Ext.new h _
      have hold : ∀ k pl', ρ k = some pl' → ρ' k = some pl' := fun k pl' q => by
        obtain ⟨t, b⟩ := k
        rw [hρ']
        cases t with
        | true => rw [L.box] at q; cases q
        | false =>
          have := L.rel.dom b pl' q
          simp only at this
          show (if ((false, b) : Key) = (false, h.n) then some pl else ρ (false, b)) = some pl'
          rw [if_neg (by simp; omega)]; exact q
      have hcase : ∀ k pl', ρ' k = some pl' → (k = (false, h.n) ∧ pl' = pl) ∨ (k ≠ (false, h.n) ∧ ρ k = some pl') := fun k pl' q => by
        rw [hρ'] at q
        simp only at q
        split at q
        · rename_i e1; exact .inl ⟨e1, (Option.some.inj q).symm⟩
        · rename_i e1; exact .inr ⟨e1, q⟩
      have hfold : ∀ b pl', ρ (false, b) = some pl' → h'.f b = h.f b := fun b pl' q => E.f b (L.rel.dom b pl' q)
      have hfnew : h'.f h.n = .row false e (zs.map (Value.int .i64)) := by rw [hh']; simp [Heap.new]
      have nowr : ∀ k pl', ρ' k = some pl' → ¬ (Mem.mk Boxes.nil h').wr k := by
        intro k pl' q hw
        obtain ⟨t, b⟩ := k
        rcases hcase _ _ q with ⟨e1, _⟩ | ⟨_, q'⟩
        · simp only [Prod.mk.injEq] at e1
          obtain ⟨rfl, rfl⟩ := e1
          simp [Mem.wr, Heap.wr, hfnew] at hw
        · cases t with
          | true => rw [L.box] at q'; cases q'
          | false =>
            refine L.own pl'.B ⟨b, pl', q', rfl, ?_⟩
            simp only [Mem.wr, Heap.wr] at hw
            rw [hfold b pl' q'] at hw
            exact hw
      have hn' : h'.n = h.n + 1 := by rw [hh']; rfl
      have R : MRel P ρ' ⟨Boxes.nil, h'⟩ w := by
        refine ⟨fun k pl' q => ?_, fun b pl' q => ?_, fun k pl' wr e' cs q r => ?_, fun b pl' o q r => ?_, fun k k' pl1 pl2 hne q q' hw => absurd hw (nowr k pl1 q), fun i hi => ?_⟩
        · rcases hcase _ _ q with ⟨_, rfl⟩ | ⟨_, q'⟩
          · rw [hpl]; exact hblk
          · exact L.rel.bound k pl' q'
        · rcases hcase _ _ q with ⟨e1, _⟩ | ⟨_, q'⟩
          · simp only [Prod.mk.injEq, true_and] at e1
            show b < h'.n
            omega
          · have := L.rel.dom b pl' q'
            exact Nat.lt_of_lt_of_le this E.n
        · rcases hcase _ _ q with ⟨rfl, rfl⟩ | ⟨_, q'⟩
          · simp only [Mem.row?, hfnew, Option.some.injEq, Prod.mk.injEq] at r
            obtain ⟨rfl, rfl, rfl⟩ := r
            subst hpl
            refine ⟨C, e0, fz, hh, by simp, by simp, hsz, hc.symm, fun i v hi => ?_⟩
            rw [List.getElem?_map] at hi
            cases hzi : zs[i]? with
            | none => rw [hzi] at hi; simp at hi
            | some z =>
              rw [hzi] at hi; simp at hi; subst hi
              have hlt : i < zs.length := by rw [List.getElem?_eq_some_iff] at hzi; exact hzi.1
              refine ⟨_, hC i hlt, ?_⟩
              rw [List.getD_eq_getElem?_getD, hzi]
              exact .int _ _
          · obtain ⟨t, b⟩ := k
            cases t with
            | true => rw [L.box] at q'; cases q'
            | false =>
              have r' : (Mem.mk Boxes.nil h).row? (false, b) = some (wr, e', cs) := by
                simp only [Mem.row?] at r ⊢
                rw [hfold b pl' q'] at r; exact r
              obtain ⟨C1, e1, fz1, c1, c2, c3, c4, c5, c6⟩ := L.rel.row _ _ _ _ _ q' r'
              exact ⟨C1, e1, fz1, c1, c2, c3, c4, c5, fun i v hi => let ⟨v', z1, z2⟩ := c6 i v hi; ⟨v', z1, z2.mono fun b pl z => hold _ _ z⟩⟩
        · rcases hcase _ _ q with ⟨e1, rfl⟩ | ⟨_, q'⟩
          · simp only [Prod.mk.injEq, true_and] at e1
            subst e1
            simp only at r
            rw [hfnew] at r; cases r
          · exact L.rel.obj b pl' o q' (by simp only at r ⊢; rw [hfold b pl' q'] at r; exact r)
        · have : h'.g = 0 := by rw [hh']; exact L.g
          simp only at hi
          omega
      refine ⟨h', .slice (some ⟨h.n, 0, none⟩) len len, ρ', ⟨fun s => ?_, R, by rw [hh']; exact L.g, fun B ⟨b, pl', q, _, hw⟩ => ?_⟩, E, fun b pl' q => hold _ _ q, ?_, ?_, ?_⟩
      · rw [hρ']
        show (if ((true, s) : Key) = (false, h.n) then some pl else ρ (true, s)) = none
        rw [if_neg (by simp)]; exact L.box s
      · exact nowr (false, b) pl' q hw
      · have hk : ρ' (false, h.n) = some pl := by rw [hρ']; simp
        have := VR.sl (ρ := ρ') h.n 0 len len pl cap hk hl (by rw [hpl]; simp only; omega)
        rw [hpl] at this
        simpa using this
      · refine ⟨_, _, rfl, fun q => by simp at q, ?_⟩
        by_cases hl0 : len = 0
        · exact .inl hl0
        · exact .inr ⟨h.n, (zs.drop (len * sz)).map (Value.int .i64), rfl, by rw [hfnew, ← List.map_append, List.take_append_drop], by omega⟩
      · rw [List.length_take, hz]
        have := Nat.mul_le_mul_right sz hl
        omega
end Go.Am
