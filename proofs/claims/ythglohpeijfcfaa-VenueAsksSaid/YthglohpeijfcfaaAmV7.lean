import Derived.Test.YthglohpeijfcfaaAmVs3
set_option linter.unusedVariables false
set_option linter.unusedSimpArgs false
set_option linter.unusedSectionVars false
namespace Go.Proofs.Yth
open Go Go.Am
set_option maxRecDepth 20000
set_option maxHeartbeats 2000000
/-- no two neighbours are equal -/
def NoAdj (xs : List Int) : Prop := ∀ (i : Nat) (a b : Int), xs[i]? = some a → xs[i + 1]? = some b → a ≠ b
def J28 (v : Value) (m : Nat) (h : Heap) (n : Nat) (σ : St) : Prop := ∃ i : Nat, n = m - i ∧ 1 ≤ i ∧ i ≤ m ∧ σ.m.h = h ∧ σ.t.get 0 = some v ∧ σ.t.get 3 = some (.int .i64 (i : Nat))
theorem compactN_ok (v : Value) (xs : List Int) (hl : xs.length ≤ 1073741824) (hx : NoAdj xs) (h : Heap) (hs : IntS h v xs) : ACalls PP 28 [v] h (fun r h' => h' = h ∧ r = v) := by
  refine acalls_of_vc mix fn28 bodyEq28 rfl (by show 1 ≤ 61; decide) ok28 ?_
  simp only [body28, Try.f28]
  obtain ⟨ad, c, rfl⟩ := hs.shape
  obtain ⟨m, hm⟩ : ∃ m, m = xs.length := ⟨_, rfl⟩
  rw [← hm] at hs ⊢
  by_cases h2 : (m : Int) < 2
  · simp -implicitDefEqProofs [h2]
  · simp -implicitDefEqProofs [h2]
    refine vc_loop (J28 (.slice ad m c) m h) _ ⟨1, rfl, by omega, by omega, rfl, by simp, by simp⟩ ?_
    rintro n ⟨T, ⟨x, H⟩⟩ ⟨i, rfl, hi1, hi, hH, g0, g3⟩
    simp at hH g0 g3
    subst hH
    simp -implicitDefEqProofs [g0, g3]
    refine condQ_of (fun hc => ?_) (fun hc => ?_) <;> simp only [decide_eq_true_eq, decide_eq_false_iff_not] at hc
    · have him : i < m := by omega
      obtain ⟨j, hj⟩ : ∃ j, j = i - 1 := ⟨_, rfl⟩
      have hjm : j < m := by omega
      have ha : xs[i]? = some xs[i] := List.getElem?_eq_getElem (by omega)
      have hb : xs[j]? = some xs[j] := List.getElem?_eq_getElem (by omega)
      obtain ⟨_, b1, o1, wb1, cs1, r1, rfl, hb1, hd1, hl1, _⟩ := hs.at 1 intC_len ha
      obtain ⟨_, b2, o2, wb2, cs2, r2, e1, hb2, hd2, hl2, _⟩ := hs.at 1 intC_len hb
      simp only [Option.some.injEq, Addr.mk.injEq, and_true] at e1
      obtain ⟨rfl, rfl⟩ := e1
      rw [hb1] at hb2
      simp only [Blk.row.injEq, true_and] at hb2
      obtain ⟨rfl, rfl⟩ := hb2
      have hne : ¬ xs[i] = xs[j] := by
        have := hx j _ _ hb (by rw [show j + 1 = i by omega]; exact ha)
        exact fun e => this e.symm
      rw [Nat.mul_one] at hd1 hd2 hl1 hl2
      have w1 : IntKind.wrap .i64 ((i : Int) + 1) = ((i + 1 : Nat) : Int) := by rw [i64wrap (by omega)]; omega
      have w2 : IntKind.wrap .i64 ((i : Int) - 1) = (j : Int) := by rw [i64wrap (by omega)]; omega
      simp -implicitDefEqProofs [g0, g3, him, hjm, hb1, hd1, hd2, hl1, hl2, intC, w2, hne, w1]
      exact ⟨m - (i + 1), by omega, i + 1, rfl, by omega, by omega, rfl, by simp [g0], by simp⟩
    · simp -implicitDefEqProofs [g0, g3]
/-! Norm -/
def killedL (v : VenR) : List SeatR := v.kills.map (fun k => v.seats.getD k.toNat default)
def killsIn (v : VenR) : Bool := v.kills.all (fun k => decide (0 ≤ k) && decide (k < v.seats.length))
def outV (v : VenR) (ys : List SeatR) : VenR := ⟨ys, v.gap, v.radius, sortI ((killedL v).map (fun s => findA (atS s) ys)), v.poles⟩
end Go.Proofs.Yth
