import Derived.Test.YtmmbndbpjanfhaaDoorAmFB
import Derived.Test.YtmmbndbpjanfhaaDoorAmF9
import Derived.ChangeShapes
set_option linter.unusedVariables false
set_option linter.unusedSimpArgs false
set_option linter.unusedSectionVars false
namespace Go.Proofs.YtmmbndbpjanfhaaDoor.AmFaultDepth
open Go Go.Am Go.RowKit
theorem walk {W : World} (L : Flt.isLaid W) (n : Int) (wn : (Lit.int .i64 n).wf = true) (a : Int) (wa : (Lit.int .i64 a).wf = true) (b : Int) (wb : (Lit.int .i64 b).wf = true) (c : Int) (wc : (Lit.int .i64 c).wf = true) :
    Calls Tryd.prog 6 #[.int .i64 n, .int .i64 a, .int .i64 b, .int .i64 c] W (fun e w' => e = .returned (.bool true) ∧ Below W.heap.size W w') := by
  obtain ⟨h, ρ, S⟩ := Flt.start_plain L
  rw [← Flt.PP_eq]
  exact Flt.law_walk2 S (Flt.depthLaw_ok n a b c h S.glob) ⟨rfl, fun i u hi => by
    match i, hi with
    | 0, hi => simp at hi; subst hi; exact ⟨_, rfl, .int _ _⟩
    | 1, hi => simp at hi; subst hi; exact ⟨_, rfl, .int _ _⟩
    | 2, hi => simp at hi; subst hi; exact ⟨_, rfl, .int _ _⟩
    | 3, hi => simp at hi; subst hi; exact ⟨_, rfl, .int _ _⟩
    | i + 4, hi => simp at hi⟩
end Go.Proofs.YtmmbndbpjanfhaaDoor.AmFaultDepth
