import Derived.Test.YtfcllalhfcmfdaaAmT1
set_option linter.unusedVariables false
set_option linter.unusedSimpArgs false
set_option linter.unusedSectionVars false
namespace Go.Proofs.Ytf
open Go Go.Am
set_option maxRecDepth 20000
set_option linter.unusedSimpArgs false
def kindV (b : Nat) : Nat := if b = 32 ∨ b = 9 ∨ b = 13 then 1 else if b = 35 then 2 else if b = 10 then 3 else if b = 45 then 6 else if 97 ≤ b ∧ b ≤ 122 then 4 else if 48 ≤ b ∧ b ≤ 57 then 5 else 0
theorem kind_ok (b : UInt8) (h : Heap) : ACalls PP 20 [.int .u8 b.toNat] h (fun v h' => h' = h ∧ v = .int .i64 (kindV b.toNat)) := by
  refine acalls_of_vc mix fn20 bodyEq20 rfl (by show 1 ≤ 30; decide) ok20 ?_
  simp only [body20, Try.f20]
  generalize b.toNat = n
  simp [cfg20, keep20]
  repeat' first
    | (refine condQ_of (fun hc => ?_) (fun hc => ?_) <;> simp only [decide_eq_true_eq, decide_eq_false_iff_not] at hc <;> simp [cfg20, keep20, hc])
    | (refine guardQ_of (fun hc => ?_) (fun hc => ?_) <;> simp only [decide_eq_true_eq, decide_eq_false_iff_not] at hc <;> simp [cfg20, keep20, hc])
  all_goals (simp only [kindV]; (repeat' split) <;> omega)
end Go.Proofs.Ytf
