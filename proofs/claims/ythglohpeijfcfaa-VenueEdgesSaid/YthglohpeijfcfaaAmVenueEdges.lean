import Derived.Test.YthglohpeijfcfaaAmVg
import Derived.Test.YthglohpeijfcfaaAmV9
import Derived.Test.YthglohpeijfcfaaAmW
import Derived.ChangeShapes
set_option linter.unusedVariables false
set_option linter.unusedSimpArgs false
set_option linter.unusedSectionVars false
namespace Go.Proofs.Ythglohpeijfcfaa.AmVenueEdges
open Go Go.Am Go.RowKit
theorem walk {W : World} (part : Int) (wp : (Lit.int .i64 part).wf = true) (edge : Int) (we : (Lit.int .i64 edge).wf = true) :
    Calls Try.prog 5 #[.int .i64 part, .int .i64 edge] W (fun e w' => e = .returned (.bool true) ∧ Below W.heap.size W w') := by
  rw [← Yth.PP_eq]
  exact law_walk (Yth.edges_ok Yth.told_ok part edge h0) (fun _ _ q => q) (fun _ => rfl) (mrel0 Yth.PP W h0 rfl) ⟨rfl, fun i u hi => by
    match i, hi with
    | 0, hi => simp at hi; subst hi; exact ⟨_, rfl, .int _ _⟩
    | 1, hi => simp at hi; subst hi; exact ⟨_, rfl, .int _ _⟩
    | i + 2, hi => simp at hi⟩ (fun B ⟨b, pl, q, _⟩ => by simp [rho0] at q)
end Go.Proofs.Ythglohpeijfcfaa.AmVenueEdges
