/- The abstract machine, part Z: arguments that are slices of structs of whole numbers, opened. -/
import Derived.Test.YthglohpeijfcfaaAmY
import Derived.ChangeShapes
import Derived.WideShapes
set_option linter.unusedVariables false
set_option linter.unusedSimpArgs false
set_option linter.unusedSectionVars false
namespace Go.Am
open Go Go.RowKit Go.ChangeShapes Go.WideShapes Go.Deep
theorem rowW_mk {w : World} {sz : Nat} {x : Addr} {len cap : Nat} (hl : len ≤ cap) (h : ∀ j, j < cap * sz → ∃ z : Int, w.cell? (x.add j) = some (.int .i64 z)) : ∃ zs, RowW w sz (some x) len cap zs := by
  obtain ⟨f, hf⟩ := choose_lt h
  refine ⟨(List.range (cap * sz)).map f, .inr ⟨x, rfl, hl, by simp, fun i hi => ?_⟩⟩
  have hi' : i < cap * sz := by simpa using hi
  rw [hf i hi']
  simp [List.getD_eq_getElem?_getD, hi']
def intFields (P : Program) (fs : Array Field) : Bool := fs.toList.all fun f => match P.underlying f.type with
  | some (.int .i64) => true
  | _ => false
theorem intFields_of {P : Program} {fs : Array Field} (h : intFields P fs = true) {i : Nat} {f : Field} (hi : fs[i]? = some f) : P.underlying f.type = some (.int .i64) := by
  have hm : f ∈ fs.toList := by
    have : f ∈ fs := Array.mem_of_getElem? hi
    simpa using this
  have := List.all_eq_true.1 h f hm
  split at this
  · rename_i e; exact e
  · cases this
section
variable {H : Type} {enc : TypeId × Value → H} {P : Program} {w : World} {base : Nat} {held : Bool} {t e : TypeId} {fuel : Nat} {cs : List Value} {x : DataW H × List MemPlace}
theorem open_rowS {fs : Array Field} {sz : Nat} (ht : P.underlying t = some (.slice e)) (he : P.underlying e = some (.struct fs)) (hone : oneCellFields P fs = true) (hint : intFields P fs = true) (hsz : fs.size = sz) (hs0 : 0 < sz) (hce : P.cellsOf e = sz)
    (h : DataW.trod enc P w base (fun _ => true) held fuel t cs = some x) : ∃ a len cap zs, cs = [.slice a len cap] ∧ RowW w sz a len cap zs := by
  rcases open_slice ht h with ⟨rfl, _⟩ | ⟨a, len, cap, m, n, D, Pl, rfl, _, hl, _, hm, _, hel⟩
  · exact ⟨none, 0, 0, [], rfl, .inl ⟨rfl, rfl, rfl, rfl⟩⟩
  · simp only [if_true] at hm
    subst hm
    obtain ⟨zs, hz⟩ := rowW_mk (sz := sz) (w := w) (x := a) hl (fun j hj => by
      have hi : j / sz < m := (Nat.div_lt_iff_lt_mul hs0).2 hj
      have hr : j % sz < sz := Nat.mod_lt _ hs0
      obtain ⟨cs', h1, h2⟩ := hel (j / sz) hi
      rw [hce] at h1
      obtain ⟨_, hlen, hcell⟩ := World.cells?_some h1
      obtain ⟨xs, k, _, _, _, _, hf⟩ := DataW.trod_struct he h2
      obtain ⟨f, hf0⟩ : ∃ f, fs[j % sz]? = some f := ⟨fs[j % sz], by rw [Array.getElem?_eq_getElem]⟩
      obtain ⟨o1, o2⟩ := hone_of hone _ f hf0
      have h3 := hf _ f hf0
      rw [o1, o2] at h3
      obtain ⟨xs', hx'⟩ : ∃ y, xs[j % sz]? = some y := by
        have : j % sz < xs.length := by
          have := (DataW.trod_struct he h2)
          omega
        exact ⟨xs[j % sz], List.getElem?_eq_getElem this⟩
      rw [hx'] at h3
      obtain ⟨z, e1, _, _⟩ := DataW.trod_int (intFields_of hint hf0) h3
      refine ⟨z, ?_⟩
      have h4 := hcell (j % sz) hr
      rw [Go.Deep.add_add, Nat.div_add_mod'] at h4
      rw [h4]
      have h5 : (cs'.drop (j % sz))[0]? = some (.int .i64 z) := by
        have : ((cs'.drop (j % sz)).take 1)[0]? = some (.int .i64 z) := by rw [e1]; rfl
        simpa using this
      simpa using h5)
    exact ⟨_, _, _, zs, rfl, hz⟩
theorem open_rowI (ht : P.underlying t = some (.slice e)) (he : P.underlying e = some (.int .i64)) (hce : P.cellsOf e = 1)
    (h : DataW.trod enc P w base (fun _ => true) held fuel t cs = some x) : ∃ a len cap zs, cs = [.slice a len cap] ∧ RowW w 1 a len cap zs := by
  rcases open_slice1 ht hce h with ⟨rfl, _⟩ | ⟨a, len, cap, m, n, V, D, Pl, rfl, _, hl, _, hm, _, hel⟩
  · exact ⟨none, 0, 0, [], rfl, .inl ⟨rfl, rfl, rfl, rfl⟩⟩
  · simp only [if_true] at hm
    subst hm
    obtain ⟨zs, hz⟩ := rowW_mk (sz := 1) (w := w) (x := a) hl (fun j hj => by
      obtain ⟨h1, h2⟩ := hel j (by omega)
      obtain ⟨z, e1, _, _⟩ := DataW.trod_int he h2
      simp only [List.cons.injEq, and_true] at e1
      exact ⟨z, by rw [h1, e1]⟩)
    exact ⟨_, _, _, zs, rfl, hz⟩
theorem array5 {α : Type} {cs : Array α} (h : cs.size = 5) : ∃ c0 c1 c2 c3 c4, cs = #[c0, c1, c2, c3, c4] := by
  obtain ⟨l⟩ := cs
  match l, h with
  | [c0, c1, c2, c3, c4], _ => exact ⟨c0, c1, c2, c3, c4, rfl⟩
theorem open_agg5 {r : Reach} {b0 : Nat} {spare : Nat → Bool} {f0 f1 f2 f3 f4 : Field} {v : Value} {d : DataW H} {p : List MemPlace} (hs : P.underlying t = some (.struct #[f0, f1, f2, f3, f4])) (hone : oneCellFields P #[f0, f1, f2, f3, f4] = true) (hC : P.cellsOf t = 5)
    (hv : Value.okWide P w r b0 t v) (h : DataW.Trod enc P w base spare held t v d p) :
    ∃ (v0 v1 v2 v3 v4 : Value) (y0 y1 y2 y3 y4 : DataW H × List MemPlace) (n : Nat), v = .agg #[v0, v1, v2, v3, v4] ∧
      DataW.trod enc P w base spare held n f0.type [v0] = some y0 ∧ DataW.trod enc P w base spare held n f1.type [v1] = some y1 ∧ DataW.trod enc P w base spare held n f2.type [v2] = some y2 ∧ DataW.trod enc P w base spare held n f3.type [v3] = some y3 ∧ DataW.trod enc P w base spare held n f4.type [v4] = some y4 := by
  obtain ⟨cs, rfl, hsz⟩ := okWide_struct hs hv
  obtain ⟨c0, c1, c2, c3, c4, rfl⟩ := array5 (hsz.trans hC)
  obtain ⟨fuel, hf⟩ := h
  obtain ⟨xs, n, _, _, _, hlen, hx⟩ := DataW.trod_struct hs hf
  match xs, hlen with
  | [y0, y1, y2, y3, y4], _ =>
    have g0 := hx 0 f0 rfl
    have g1 := hx 1 f1 rfl
    have g2 := hx 2 f2 rfl
    have g3 := hx 3 f3 rfl
    have g4 := hx 4 f4 rfl
    obtain ⟨o0, k0⟩ := hone_of hone 0 f0 rfl
    obtain ⟨o1, k1⟩ := hone_of hone 1 f1 rfl
    obtain ⟨o2, k2⟩ := hone_of hone 2 f2 rfl
    obtain ⟨o3, k3⟩ := hone_of hone 3 f3 rfl
    obtain ⟨o4, k4⟩ := hone_of hone 4 f4 rfl
    exact ⟨c0, c1, c2, c3, c4, y0, y1, y2, y3, y4, n, rfl, by simpa [Value.cells, o0, k0] using g0, by simpa [Value.cells, o1, k1] using g1, by simpa [Value.cells, o2, k2] using g2, by simpa [Value.cells, o3, k3] using g3, by simpa [Value.cells, o4, k4] using g4⟩
end
end Go.Am
