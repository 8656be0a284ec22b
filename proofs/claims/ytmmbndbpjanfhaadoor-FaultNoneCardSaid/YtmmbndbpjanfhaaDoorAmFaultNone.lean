import Derived.Test.YtmmbndbpjanfhaaDoorAmF8
import Derived.Test.YtmmbndbpjanfhaaDoorAmF9
import Derived.ChangeShapes
set_option linter.unusedVariables false
set_option linter.unusedSimpArgs false
set_option linter.unusedSectionVars false
namespace Go.Proofs.YtmmbndbpjanfhaaDoor.AmFaultNone
open Go Go.Am Go.RowKit
theorem walk {W : World} (L : Flt.isLaid W) (a : Int) (wa : (Lit.int .i64 a).wf = true) (b : Int) (wb : (Lit.int .i64 b).wf = true) :
    Calls Tryd.prog 5 #[.int .i64 a, .int .i64 b] W (fun e w' => e = .returned (.bool true) ∧ Below W.heap.size W w') := by
  obtain ⟨h, ρ, S⟩ := Flt.start_plain L
  rw [← Flt.PP_eq]
  exact Flt.law_walk2 S (Flt.noneLaw_ok a b h S.glob) ⟨rfl, fun i u hi => by
    match i, hi with
    | 0, hi => simp at hi; subst hi; exact ⟨_, rfl, .int _ _⟩
    | 1, hi => simp at hi; subst hi; exact ⟨_, rfl, .int _ _⟩
    | i + 2, hi => simp at hi⟩
end Go.Proofs.YtmmbndbpjanfhaaDoor.AmFaultNone
