import Derived.Test.YtfcllalhfcmfdaaAmTO
import Derived.Test.YtfcllalhfcmfdaaAmTC
set_option linter.unusedVariables false
set_option linter.unusedSimpArgs false
set_option linter.unusedSectionVars false
namespace Go.Proofs.Ytf
open Go Go.Am
set_option maxRecDepth 20000
set_option linter.unusedSimpArgs false
set_option maxHeartbeats 2000000
attribute [local simp] idB
attribute [local simp ↓ high] vc_id
def J13 (s1 s2 : Value) (m : Nat) (h : Heap) (n : Nat) (σ : St) : Prop := ∃ i : Nat, n = m - i ∧ i ≤ m ∧ σ.m.h = h ∧ σ.t.get 0 = some s1 ∧ σ.t.get 1 = some s2 ∧ σ.t.get 5 = some (.int .i64 (i : Nat))
theorem same_ok (s1 s2 : Value) (ts : List Tok) (hl : ts.length ≤ 1073741824) (h : Heap) (h1 : TokS h s1 ts) (h2 : TokS h s2 ts) : ACalls PP 13 [s1, s2] h (fun v h' => h' = h ∧ v = .bool true) := by
  refine acalls_of_vc mix fn13 bodyEq13 rfl (by show 2 ≤ 26; decide) ok13 ?_
  simp only [body13, Try.f13]
  obtain ⟨m, hm⟩ : ∃ m, m = ts.length := ⟨_, rfl⟩
  have hs1 : ∃ ad c, s1 = .slice ad m c := by obtain ⟨ad, c, e, _⟩ := h1; exact ⟨ad, c, by rw [hm]; exact e⟩
  have hs2 : ∃ ad c, s2 = .slice ad m c := by obtain ⟨ad, c, e, _⟩ := h2; exact ⟨ad, c, by rw [hm]; exact e⟩
  obtain ⟨ad1, c1, rfl⟩ := hs1
  obtain ⟨ad2, c2, rfl⟩ := hs2
  simp
  refine vc_loop (J13 (.slice ad1 m c1) (.slice ad2 m c2) m h) _ ⟨0, rfl, by omega, rfl, by simp, by simp, by simp⟩ ?_
  rintro n ⟨T, ⟨x, H⟩⟩ ⟨i, rfl, hi, hH, g0, g1, g5⟩
  simp at hH g0 g1 g5
  subst hH
  simp [g0, g1, g5]
  refine condQ_of (fun hc => ?_) (fun hc => ?_) <;> simp only [decide_eq_true_eq, decide_eq_false_iff_not] at hc
  · have him : i < m := by omega
    have hti : ts[i]? = some ts[i] := List.getElem?_eq_getElem (by omega)
    obtain ⟨_, b1, o1, wb1, cs1, r1, rfl, hb1, hd1, hl1, _⟩ := h1.at hti
    obtain ⟨_, b2, o2, wb2, cs2, r2, rfl, hb2, hd2, hl2, _⟩ := h2.at hti
    obtain ⟨t, ht⟩ : ∃ t, t = ts[i] := ⟨_, rfl⟩
    rw [← ht] at hd1 hd2
    have w4 : IntKind.wrap .i64 ((i : Int) + 1) = ((i + 1 : Nat) : Int) := by rw [i64wrap (by omega)]; omega
    simp -implicitDefEqProofs [g0, g1, g5, him, hb1, hb2, hd1, hd2, tokC, hl1, hl2, w4]
    exact ⟨m - (i + 1), by omega, i + 1, rfl, by omega, rfl, by simp [g0], by simp [g1], by simp⟩
  · simp [g0, g1, g5]
end Go.Proofs.Ytf
