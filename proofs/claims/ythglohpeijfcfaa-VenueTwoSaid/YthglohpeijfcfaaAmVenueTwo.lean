import Derived.Test.YthglohpeijfcfaaAmVh
import Derived.Test.YthglohpeijfcfaaAmW
import Derived.ChangeShapes
set_option linter.unusedVariables false
set_option linter.unusedSimpArgs false
set_option linter.unusedSectionVars false
namespace Go.Proofs.Ythglohpeijfcfaa.AmVenueTwo
open Go Go.Am Go.RowKit
theorem flat_int (zs : List Int) : zs.flatMap Yth.intC = zs.map (Value.int .i64) := by
  induction zs with
  | nil => rfl
  | cons a r ih => rw [List.flatMap_cons, ih]; rfl
theorem ints_sl {h : Heap} {v X : Value} {ρ : Rho} {zs : List Int} (I : IntsA h v zs) (V : VR ρ v X) : SlA 3 Yth.intC h v zs := by
  obtain ⟨ad, c, rfl, z⟩ := I
  refine ⟨ad, c, rfl, fun e => ?_, ?_⟩
  · obtain ⟨m, hm⟩ : ∃ m, m = zs.length := ⟨_, rfl⟩
    rw [← hm] at V
    subst e; cases V; rfl
  · rcases z with z | ⟨b, w, cs, e, h2, h3⟩
    · exact .inl z
    · exact .inr ⟨b, 0, w, _, cs, e, h2, by rw [flat_int]; rfl, by simp, h3⟩
theorem walk {W : World} {a : Option Addr} {len cap : Nat} {zs : List Int} (w : IntsW W a len cap zs) (y : len * 8 ≤ 140737488351232) (which : Int) (ww : (Lit.int .i64 which).wf = true) (at' : Int) (wh : (Lit.int .i64 at').wf = true) (other : Bool) :
    Calls Try.prog 8 #[.slice a len cap, .int .i64 which, .int .i64 at', .bool other] W (fun e w' => e = .returned (.bool true) ∧ Below W.heap.size W w') := by
  rw [← Yth.PP_eq]
  obtain ⟨h, v, ρ, hb, R, V, I, O, L⟩ := glue_ints Yth.PP Yth.co3 w
  exact law_walk (Yth.two_ok v _ which at' other (by omega) h (ints_sl I V)) (fun _ _ q => q) hb R ⟨rfl, fun i u hi => by
    match i, hi with
    | 0, hi => simp at hi; subst hi; exact ⟨_, rfl, V⟩
    | 1, hi => simp at hi; subst hi; exact ⟨_, rfl, .int _ _⟩
    | 2, hi => simp at hi; subst hi; exact ⟨_, rfl, .int _ _⟩
    | 3, hi => simp at hi; subst hi; exact ⟨_, rfl, .bool _⟩
    | i + 4, hi => simp at hi⟩ O
end Go.Proofs.Ythglohpeijfcfaa.AmVenueTwo
