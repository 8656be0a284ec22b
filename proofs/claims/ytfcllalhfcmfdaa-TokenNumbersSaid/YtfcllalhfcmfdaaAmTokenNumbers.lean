import Derived.Test.YtfcllalhfcmfdaaAmTI
import Derived.Test.YtfcllalhfcmfdaaAmR
import Derived.ChangeShapes
set_option linter.unusedVariables false
set_option linter.unusedSimpArgs false
set_option linter.unusedSectionVars false
namespace Go.Proofs.Ytf
open Go Go.Am
theorem PP_eq : PP = Try.prog := by unfold PP; rfl
end Go.Proofs.Ytf
namespace Go.Proofs.Ytfcllalhfcmfdaa.AmTokenNumbers
open Go Go.Am Go.RowKit
theorem wf_i64 {n : Int} (h : (Lit.int .i64 n).wf = true) : -9223372036854775808 ≤ n ∧ n ≤ 9223372036854775807 := by
  simp only [Lit.wf, Bool.and_eq_true, decide_eq_true_eq] at h
  exact h
theorem walk {W : World} (n : Int) (wn : (Lit.int .i64 n).wf = true) (gap : Int) (wg : (Lit.int .i64 gap).wf = true) :
    Calls Try.prog 4 #[.int .i64 n, .int .i64 gap] W (fun e w' => e = .returned (.bool true) ∧ Below W.heap.size W w') := by
  rw [← Ytf.PP_eq]
  exact law_walk (Ytf.numbers_ok n gap (wf_i64 wn) h0) (fun _ _ q => q) (fun _ => rfl) (mrel0 Ytf.PP W h0 rfl) ⟨rfl, fun i u hi => by
    match i, hi with
    | 0, hi => simp at hi; subst hi; exact ⟨_, rfl, .int _ _⟩
    | 1, hi => simp at hi; subst hi; exact ⟨_, rfl, .int _ _⟩
    | i + 2, hi => simp at hi⟩ (fun B ⟨b, pl, q, _⟩ => by simp [rho0] at q)
end Go.Proofs.Ytfcllalhfcmfdaa.AmTokenNumbers
