import Derived.Test.YtfcllalhfcmfdaaAmT3
set_option linter.unusedVariables false
set_option linter.unusedSimpArgs false
set_option linter.unusedSectionVars false
namespace Go.Proofs.Ytf
open Go Go.Am
set_option maxRecDepth 20000
set_option linter.unusedSimpArgs false
def runL (k : Nat) : List UInt8 → Nat
  | [] => 0
  | c :: r => if kindV c.toNat = k then runL k r + 1 else 0
theorem runL_drop {k a : Nat} {l : List UInt8} {c : UInt8} (hc : l[a]? = some c) : runL k (l.drop a) = if kindV c.toNat = k then runL k (l.drop (a + 1)) + 1 else 0 := by
  rw [List.getElem?_eq_some_iff] at hc
  obtain ⟨ha, hc⟩ := hc
  rw [List.drop_eq_getElem_cons ha, hc, runL]
theorem runL_end {k a : Nat} {l : List UInt8} (h : ¬ a < l.length) : runL k (l.drop a) = 0 := by
  rw [List.drop_eq_nil_of_le (by omega), runL]
def J21 (l : List UInt8) (a k : Nat) (h : Heap) (n : Nat) (σ : St) : Prop := ∃ b, n = l.length - b ∧ σ.t.get 0 = some (.string (B l)) ∧ σ.t.get 1 = some (.int .i64 (b : Nat)) ∧ σ.t.get 2 = some (.int .i64 k) ∧ σ.m.h = h ∧ b + runL k (l.drop b) = a + runL k (l.drop a)
theorem run_ok (l : List UInt8) (a k : Nat) (hl : l.length ≤ 1073741824) (h : Heap) : ACalls PP 21 [.string (B l), .int .i64 a, .int .i64 k] h (fun v h' => h' = h ∧ v = .int .i64 ((a + runL k (l.drop a) : Nat) : Int)) := by
  refine acalls_of_vc mix fn21 bodyEq21 rfl (by show 3 ≤ 22; decide) ok21 ?_
  simp only [body21, Try.f21]
  simp
  refine vc_loop (J21 l a k h) _ ⟨a, rfl, by simp, by simp, by simp, rfl, rfl⟩ ?_
  rintro n ⟨t, ⟨x, h'⟩⟩ ⟨b, rfl, h0, h1, h2, rfl, hr⟩
  simp at h0 h1 h2
  simp [h0, h1, h2]
  refine guardQ_of (fun hc => ?_) (fun hc => ?_) <;> simp only [decide_eq_true_eq, decide_eq_false_iff_not] at hc
  · have hb : b < l.length := by omega
    have hc' : l[b]? = some l[b] := List.getElem?_eq_getElem hb
    simp [h0, h1, h2, hc, hc']
    refine (kind_ok _ _).mono ?_
    rintro v h'' ⟨rfl, rfl⟩
    simp [h0, h1, h2, hc, hc', callQ]
    intro _
    have hr' := runL_drop (k := k) hc'
    refine condQ_of (fun hk => ?_) (fun hk => ?_) <;> simp only [decide_eq_true_eq, decide_eq_false_iff_not] at hk
    · rw [if_pos (by omega)] at hr'
      have hw : IntKind.wrap .i64 ((b : Int) + 1) = ((b + 1 : Nat) : Int) := by rw [i64wrap (by omega)]; omega
      simp [hw]
      exact ⟨l.length - (b + 1), by omega, b + 1, by omega, by simp [h0], by simp, by simp [h2], rfl, by omega⟩
    · rw [if_neg (by omega)] at hr'
      simp
      omega
  · have hr' := runL_end (k := k) (a := b) (l := l) (by omega)
    simp [h0, h1, h2, hc]
    omega
end Go.Proofs.Ytf
