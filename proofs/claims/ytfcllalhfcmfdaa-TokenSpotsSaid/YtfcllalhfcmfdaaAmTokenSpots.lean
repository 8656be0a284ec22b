import Derived.Test.YtfcllalhfcmfdaaAmTF
set_option linter.unusedVariables false
set_option linter.unusedSimpArgs false
set_option linter.unusedSectionVars false
namespace Go.Proofs.Ytf
open Go Go.Am
theorem PP_eq : PP = Try.prog := by unfold PP; rfl
end Go.Proofs.Ytf
namespace Go.Proofs.Ytfcllalhfcmfdaa.AmTokenSpots
open Go Go.Am Go.RowKit
theorem walk {W : World} {a : Option Addr} {len cap : Nat} {zs : List Int} (w : IntsW W a len cap zs) (y : len * 8 ≤ 140737488351232) :
    Calls Try.prog 6 #[.slice a len cap] W (fun e w' => e = .returned (.bool true) ∧ Below W.heap.size W w') := by
  rw [← Ytf.PP_eq]
  obtain ⟨h, v, ρ, hb, R, V, I, O, L⟩ := glue_ints Ytf.PP Ytf.co3 w
  exact law_walk (Ytf.spots_ok v _ (by omega) h I) (fun _ _ q => q) hb R ⟨rfl, fun i u hi => by
    cases i with
    | zero => simp at hi; subst hi; exact ⟨_, rfl, V⟩
    | succ i => simp at hi⟩ O
end Go.Proofs.Ytfcllalhfcmfdaa.AmTokenSpots
