import Derived.Test.YtfcllalhfcmfdaaAmTK
import Derived.ChangeShapes
set_option linter.unusedVariables false
set_option linter.unusedSimpArgs false
set_option linter.unusedSectionVars false
namespace Go.Proofs.Ytf
open Go Go.Am
theorem PP_eq : PP = Try.prog := by unfold PP; rfl
end Go.Proofs.Ytf
namespace Go.Proofs.Ytfcllalhfcmfdaa.AmTokenApart
open Go Go.Am Go.RowKit
theorem walk {W : World} {a : Option Addr} {len cap : Nat} {zs : List Int} (w : IntsW W a len cap zs) (y : len * 8 ≤ 140737488351232) (how : Int) (wh : (Lit.int .i64 how).wf = true) :
    Calls Try.prog 7 #[.slice a len cap, .int .i64 how] W (fun e w' => e = .returned (.bool true) ∧ Below W.heap.size W w') := by
  rw [← Ytf.PP_eq]
  obtain ⟨h, v, ρ, hb, R, V, I, O, L⟩ := glue_ints Ytf.PP Ytf.co3 w
  exact law_walk (Ytf.apart_ok v _ how (by omega) h I) (fun _ _ q => q) hb R ⟨rfl, fun i u hi => by
    match i, hi with
    | 0, hi => simp at hi; subst hi; exact ⟨_, rfl, V⟩
    | 1, hi => simp at hi; subst hi; exact ⟨_, rfl, .int _ _⟩
    | i + 2, hi => simp at hi⟩ O
end Go.Proofs.Ytfcllalhfcmfdaa.AmTokenApart
