import Derived.Test.YthglohpeijfcfaaAmVb
import Derived.Test.YthglohpeijfcfaaAmW
import Derived.ChangeShapes
set_option linter.unusedVariables false
set_option linter.unusedSimpArgs false
set_option linter.unusedSectionVars false
namespace Go.Proofs.Ythglohpeijfcfaa.AmVenueMany
open Go Go.Am Go.RowKit
theorem walk {W : World} (n : Int) (wn : (Lit.int .i64 n).wf = true) :
    Calls Try.prog 7 #[.int .i64 n] W (fun e w' => e = .returned (.bool true) ∧ Below W.heap.size W w') := by
  rw [← Yth.PP_eq]
  exact law_walk (Yth.many_ok n h0) (fun _ _ q => q) (fun _ => rfl) (mrel0 Yth.PP W h0 rfl) ⟨rfl, fun i u hi => by
    match i, hi with
    | 0, hi => simp at hi; subst hi; exact ⟨_, rfl, .int _ _⟩
    | i + 1, hi => simp at hi⟩ (fun B ⟨b, pl, q, _⟩ => by simp [rho0] at q)
end Go.Proofs.Ythglohpeijfcfaa.AmVenueMany
