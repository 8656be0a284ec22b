import Derived.Test.YtfcllalhfcmfdaaAmTQ
import Derived.ChangeShapes
set_option linter.unusedVariables false
set_option linter.unusedSimpArgs false
set_option linter.unusedSectionVars false
namespace Go.Proofs.Ytf
open Go Go.Am
theorem PP_eq : PP = Try.prog := by unfold PP; rfl
end Go.Proofs.Ytf
namespace Go.Proofs.Ytfcllalhfcmfdaa.AmTokenAsks
open Go Go.Am Go.RowKit
theorem wf_i64 {n : Int} (h : (Lit.int .i64 n).wf = true) : -9223372036854775808 ≤ n ∧ n ≤ 9223372036854775807 := by
  simp only [Lit.wf, Bool.and_eq_true, decide_eq_true_eq] at h
  exact h
theorem walk {W : World} (s : ByteArray) {a : Option Addr} {len cap : Nat} {zs : List Int} (w : IntsW W a len cap zs) (y : len * 8 ≤ 140737488351232)
    (n : Int) (wn : (Lit.int .i64 n).wf = true) (n1 : Int) (wn1 : (Lit.int .i64 n1).wf = true) (n2 : Int) (wn2 : (Lit.int .i64 n2).wf = true) :
    Calls Try.prog 3 #[.string s, .slice a len cap, .int .i64 n, .int .i64 n1, .int .i64 n2] W (fun e w' => e = .returned (.bool true) ∧ Below W.heap.size W w') := by
  rw [← Ytf.PP_eq]
  obtain ⟨h, v, ρ, hb, R, V, I, O, L⟩ := glue_ints Ytf.PP Ytf.co3 w
  exact law_walk (Ytf.asks_ok s.data.toList v _ n n1 n2 (wf_i64 wn) (by omega) h I) (fun _ _ q => q) hb R ⟨rfl, fun i u hi => by
    match i, hi with
    | 0, hi => simp at hi; subst hi; exact ⟨_, rfl, .string _⟩
    | 1, hi => simp at hi; subst hi; exact ⟨_, rfl, V⟩
    | 2, hi => simp at hi; subst hi; exact ⟨_, rfl, .int _ _⟩
    | 3, hi => simp at hi; subst hi; exact ⟨_, rfl, .int _ _⟩
    | 4, hi => simp at hi; subst hi; exact ⟨_, rfl, .int _ _⟩
    | i + 5, hi => simp at hi⟩ O
end Go.Proofs.Ytfcllalhfcmfdaa.AmTokenAsks
