import Derived.Test.YtfcllalhfcmfdaaAmTH
set_option linter.unusedVariables false
set_option linter.unusedSimpArgs false
set_option linter.unusedSectionVars false
namespace Go.Proofs.Ytf
open Go Go.Am
set_option maxRecDepth 20000
set_option linter.unusedSimpArgs false
set_option maxHeartbeats 2000000
def J4 (n : Int) (g : Nat) (h : Heap) (m : Nat) (σ : St) : Prop := ∃ i : Nat, m = g - i ∧ i ≤ g ∧ σ.m.h = h ∧ σ.t.get 0 = some (.int .i64 n) ∧ σ.t.get 5 = some (.string (B (List.replicate i 32))) ∧ σ.t.get 6 = some (.int .i64 (g : Nat)) ∧ σ.t.get 7 = some (.int .i64 (i : Nat))
theorem numbers_ok (n gap : Int) (hn : -9223372036854775808 ≤ n ∧ n ≤ 9223372036854775807) (h : Heap) : ACalls PP 4 [.int .i64 n, .int .i64 gap] h (fun v _ => v = .bool true) := by
  refine acalls_of_vc mix fn4 bodyEq4 rfl (by show 2 ≤ 87; decide) ok4 ?_
  simp only [body4, Try.f4]
  obtain ⟨q, hq⟩ : ∃ q : Int, q = gap % 18446744073709551616 := ⟨_, rfl⟩
  obtain ⟨g, hg⟩ : ∃ g : Nat, g = (q % 10).toNat := ⟨_, rfl⟩
  have e1 : IntKind.wrap .u64 gap = q := by rw [u64wrap_mod, hq]
  have e2 : q.tmod 10 = (g : Int) := by rw [Int.tmod_eq_emod_of_nonneg (by omega)]; omega
  have hg10 : g < 10 := by omega
  have e3 : IntKind.wrap .i64 (g : Int) = (g : Int) := i64wrap (by omega)
  have e4 : IntKind.wrap .u64 (g : Int) = (g : Int) := u64wrap (by omega)
  have e5 : IntKind.wrap .u64 10 = 10 := u64wrap (by omega)
  simp [e1, e2, e3, e4, e5]
  refine vc_loop (J4 n g h) _ ⟨0, rfl, by omega, rfl, by simp, by simp, by simp, by simp⟩ ?_
  rintro m ⟨T, ⟨x, H⟩⟩ ⟨i, rfl, hi, rfl, g0, g5, g6, g7⟩
  simp at g0 g5 g6 g7
  simp [g0, g5, g6, g7]
  refine condQ_of (fun hc => ?_) (fun hc => ?_) <;> simp only [decide_eq_true_eq, decide_eq_false_iff_not] at hc
  · have w1 : IntKind.wrap .i64 ((i : Int) + 1) = ((i + 1 : Nat) : Int) := by rw [i64wrap (by omega)]; omega
    have hfit : i + 1 ≤ 9223372036854775807 := by omega
    simp [g0, g5, g6, g7, w1, hfit]
    refine ⟨g - (i + 1), by omega, i + 1, rfl, by omega, rfl, by simp [g0], ?_, by simp [g6], by simp⟩
    simp [List.replicate_succ']
  · have hig : i = g := by omega
    subst hig
    simp [g0, g5, g6, g7]
    refine (decimal_ok n hn _).mono ?_
    rintro v h1 ⟨rfl, rfl⟩
    simp [callQ]
    intro _
    have hdl := decL_len n hn
    have hall := allV_dec i n hn
    obtain ⟨d, hd⟩ : ∃ d, d = decL n := ⟨_, rfl⟩
    rw [← hd] at hdl hall ⊢
    have hfit : i + d.length ≤ 9223372036854775807 := by omega
    simp [g0, g5, g6, g7, hfit]
    refine (all_ok (List.replicate i 32 ++ d) (by simp; omega) h1).mono ?_
    rintro v h2 ⟨E2, s, hs, rfl⟩
    rw [hall] at hs ⊢
    have w1 : IntKind.wrap .i64 ((i : Int) + 1) = (i : Int) + 1 := by rw [i64wrap (by omega)]
    by_cases hr : n < -2147483648 ∨ 2147483647 < n
    · rw [if_pos hr] at hs ⊢
      obtain ⟨ad, rfl, _⟩ := hs
      simp [callQ, spotV]
      intro _
      rcases hr with hr | hr
      · simp [g0, g5, g6, g7, hr]
        refine (told_ok _).mono ?_
        rintro v h3 ⟨_, rfl⟩
        simp [callQ]
        intro _
        simp [w1]
      · have hr' : ¬ n < -2147483648 := by omega
        simp [g0, g5, g6, g7, hr, hr']
        refine (told_ok _).mono ?_
        rintro v h3 ⟨_, rfl⟩
        simp [callQ]
        intro _
        simp [w1]
    · rw [if_neg hr] at hs ⊢
      obtain ⟨ad, rfl, hz⟩ := hs
      obtain ⟨b, rfl, hb, _, hbn⟩ : ∃ b, ad = some (⟨b, 0, none⟩ : Addr) ∧ h2.f b = .row true 27 (([⟨2, n, 1, (i : Int) + 1, d⟩] : List Tok).flatMap tokC) ∧ h1.n ≤ b ∧ b < h2.n := by
        rcases hz with ⟨_, z⟩ | z
        · exact absurd z (by simp)
        · exact z
      have hr1 : ¬ n < -2147483648 := by omega
      have hr2 : ¬ 2147483647 < n := by omega
      have w2 : IntKind.wrap .i64 ((i : Int) + d.length) = (i : Int) + d.length := i64wrap (by omega)
      have w3 : IntKind.wrap .i64 ((i : Int) + d.length + 1) = (i : Int) + d.length + 1 := i64wrap (by omega)
      simp [callQ, spotV]
      intro _
      simp [g0, g5, g6, g7, hr1, hr2]
      refine (told_ok _).mono ?_
      rintro v h3 ⟨E3, rfl⟩
      have hb3 : h3.f b = _ := (E3.f b hbn).trans hb
      simp [callQ]
      intro _
      simp [hb3, tokC, w1, w2, w3]
end Go.Proofs.Ytf
