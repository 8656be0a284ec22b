import Derived.Test.YtfcllalhfcmfdaaAmTC
set_option linter.unusedVariables false
set_option linter.unusedSimpArgs false
set_option linter.unusedSectionVars false
namespace Go.Proofs.Ytf
open Go Go.Am
set_option maxRecDepth 20000
set_option linter.unusedSimpArgs false
set_option maxHeartbeats 2000000
def dg (m : Nat) : UInt8 := UInt8.ofNat (48 + m)
/-- a number's digits -/
def digL (n : Nat) : List UInt8 := if n < 10 then [dg n] else digL (n / 10) ++ [dg (n % 10)]
termination_by n
decreasing_by omega
theorem digL_lt {n : Nat} (h : n < 10) : digL n = [dg n] := by rw [digL, if_pos h]
theorem digL_ge {n : Nat} (h : ¬ n < 10) : digL n = digL (n / 10) ++ [dg (n % 10)] := by rw [digL, if_neg h]
theorem digL_len : ∀ (k n : Nat), n < 10 ^ (k + 1) → (digL n).length ≤ k + 1 := by
  intro k
  induction k with
  | zero => intro n h; rw [digL_lt (by omega)]; simp
  | succ k ih =>
    intro n h
    by_cases h10 : n < 10
    · rw [digL_lt h10]; simp
    · rw [digL_ge h10]
      have := ih (n / 10) (by rw [Nat.pow_succ] at h; omega)
      simp; omega
theorem dg_nat {m : Nat} (h : m < 10) : (dg m).toNat = 48 + m := by
  unfold dg
  simp
  omega
theorem digL_kind (n : Nat) : ∀ c ∈ digL n, kindV c.toNat = 5 := by
  induction n using Nat.strongRecOn with
  | ind n ih =>
    intro c hc
    by_cases h10 : n < 10
    · rw [digL_lt h10] at hc
      simp at hc; subst hc
      rw [dg_nat h10, kind_digit]; omega
    · rw [digL_ge h10] at hc
      rcases List.mem_append.mp hc with hc | hc
      · exact ih _ (by omega) c hc
      · simp at hc; subst hc
        rw [dg_nat (by omega), kind_digit]; omega
theorem digL_ne (n : Nat) : digL n ≠ [] := by
  by_cases h10 : n < 10
  · rw [digL_lt h10]; simp
  · rw [digL_ge h10]; simp
theorem numL_append (l : List UInt8) (c : UInt8) : ∀ v, numL v (l ++ [c]) = capN (numL v l) (c.toNat - 48) := by
  induction l with
  | nil => intro v; rw [List.nil_append, numL_cons, numL_nil, numL_nil]
  | cons a r ih => intro v; rw [List.cons_append, numL_cons, numL_cons, ih]
theorem numL_dig (n : Nat) : numL 0 (digL n) = if 2147483649 < n then 2147483649 else n := by
  induction n using Nat.strongRecOn with
  | ind n ih =>
    by_cases h10 : n < 10
    · rw [digL_lt h10, numL_cons, numL_nil, capN_eq, dg_nat h10]
      rw [if_neg (by omega), if_neg (by omega)]; omega
    · rw [digL_ge h10, numL_append, ih _ (by omega), capN_eq, dg_nat (by omega)]
      by_cases h1 : 2147483649 < n / 10
      · rw [if_pos h1, if_pos (by omega), if_pos (by omega)]
      · rw [if_neg h1]
        by_cases h2 : 2147483649 < n
        · rw [if_pos (by omega), if_pos h2]
        · rw [if_neg (by omega), if_neg h2]; omega
def decL (n : Int) : List UInt8 := if n < 0 then 45 :: digL (-n).toNat else digL n.toNat
def digs10 : List UInt8 := [48, 49, 50, 51, 52, 53, 54, 55, 56, 57]
theorem digs10_eq : ∀ m, m < 10 → (digs10.take (m + 1)).drop m = [dg m] := by decide
def J28 (n0 : Nat) (h : Heap) (m : Nat) (σ : St) : Prop := ∃ s, σ.t.get 0 = some (.int .u64 (m : Int)) ∧ σ.t.get 3 = some (.string (B s)) ∧ σ.m.h = h ∧ m ≤ n0 ∧ digL n0 = digL m ++ s
theorem digits_ok (n : Nat) (hn : n < 18446744073709551616) (h : Heap) : ACalls PP 28 [.int .u64 n] h (fun v h' => h' = h ∧ v = .string (B (digL n))) := by
  refine acalls_of_vc mix fn28 bodyEq28 rfl (by show 1 ≤ 22; decide) ok28 ?_
  simp only [body28, Try.f28]
  have hlen : (digL n).length ≤ 20 := digL_len 19 n (by omega)
  simp
  refine vc_loop (J28 n h) _ ⟨[], by simp, by simp, rfl, Nat.le_refl _, by simp⟩ ?_
  rintro m ⟨T, ⟨x, H⟩⟩ ⟨s, g0, g3, rfl, hm, hs⟩
  simp at g0 g3
  have hsl : s.length ≤ 20 := by have := congrArg List.length hs; rw [List.length_append] at this; omega
  simp [g0, g3]
  refine condQ_of (fun hc => ?_) (fun hc => ?_) <;> simp only [decide_eq_true_eq, decide_eq_false_iff_not] at hc
  · obtain ⟨r, hr⟩ : ∃ r, r = m % 10 := ⟨_, rfl⟩
    have hr10 : r < 10 := by omega
    have w1 : (m : Int).tmod 10 = (r : Int) := by rw [Int.tmod_eq_emod_of_nonneg (by omega)]; omega
    have hd := digs10_eq r hr10
    obtain ⟨r1, hr1⟩ : ∃ r1, r1 = r + 1 := ⟨_, rfl⟩
    rw [← hr1] at hd
    have w2 : IntKind.wrap .u64 ((r : Int) + 1) = (r1 : Int) := by rw [u64wrap (by omega)]; omega
    have w4 : IntKind.wrap .u64 10 = 10 := u64wrap (by omega)
    have w5 : (m : Int).tdiv 10 = ((m / 10 : Nat) : Int) := by rw [Int.tdiv_eq_ediv_of_nonneg (by omega)]; omega
    have hfit : 1 + s.length ≤ 9223372036854775807 := by omega
    have c1 : r ≤ r1 := by omega
    have c2 : r1 ≤ 10 := by omega
    have w3 : IntKind.wrap .u64 (r : Int) = (r : Int) := u64wrap (by omega)
    obtain ⟨q, hq⟩ : ∃ q, q = m / 10 := ⟨_, rfl⟩
    rw [← hq] at w5
    have w6 : IntKind.wrap .u64 (q : Int) = (q : Int) := u64wrap (by omega)
    simp only [digs10] at hd
    simp [g0, g3, w1, w2, w3, w4, w5, w6, c1, c2, hd, hfit]
    refine ⟨q, by omega, dg r :: s, by simp, by simp, rfl, by omega, ?_⟩
    rw [hs, digL_ge (show ¬ m < 10 by omega), ← hr, ← hq]
    simp
  · have hm9 : m < 10 := by omega
    have hd := digs10_eq m hm9
    obtain ⟨r1, hr1⟩ : ∃ r1, r1 = m + 1 := ⟨_, rfl⟩
    rw [← hr1] at hd
    have w2 : IntKind.wrap .u64 ((m : Int) + 1) = (r1 : Int) := by rw [u64wrap (by omega)]; omega
    have c1 : m ≤ r1 := by omega
    have c2 : r1 ≤ 10 := by omega
    have hfit : 1 + s.length ≤ 9223372036854775807 := by omega
    simp only [digs10] at hd
    simp [g0, g3, w2, c1, c2, hd, hfit]
    rw [hs, digL_lt hm9]
    rfl
theorem decL_len (n : Int) (hn : -9223372036854775808 ≤ n ∧ n ≤ 9223372036854775807) : (decL n).length ≤ 21 := by
  unfold decL
  split
  · have := digL_len 19 (-n).toNat (by omega); simp; omega
  · have := digL_len 19 n.toNat (by omega); omega
theorem decimal_ok (n : Int) (hn : -9223372036854775808 ≤ n ∧ n ≤ 9223372036854775807) (h : Heap) : ACalls PP 17 [.int .i64 n] h (fun v h' => h' = h ∧ v = .string (B (decL n))) := by
  refine acalls_of_vc mix fn17 bodyEq17 rfl (by show 1 ≤ 15; decide) ok17 ?_
  simp only [body17, Try.f17]
  by_cases hc : n < 0
  · obtain ⟨m, hm⟩ : ∃ m, m = (-n).toNat := ⟨_, rfl⟩
    have hlen : (digL m).length ≤ 20 := digL_len 19 m (by omega)
    have w1 : IntKind.wrap .i64 (n + 1) = n + 1 := i64wrap (by omega)
    have w2 : IntKind.wrap .i64 (-1 + -n) = -1 + -n := i64wrap (by omega)
    have w2' : IntKind.wrap .i64 (-(n + 1)) = -(n + 1) := i64wrap (by omega)
    have w3 : IntKind.wrap .u64 (-1 + -n) = -1 + -n := u64wrap (by omega)
    have w3' : IntKind.wrap .u64 (-(n + 1)) = -(n + 1) := u64wrap (by omega)
    have w4 : IntKind.wrap .u64 (-(n + 1) + 1) = (m : Int) := by rw [u64wrap (by omega)]; omega
    have w4' : IntKind.wrap .u64 (-1 + -n + 1) = (m : Int) := by rw [u64wrap (by omega)]; omega
    simp [hc, w1, w2, w2', w3, w3', w4, w4']
    refine (digits_ok m (by omega) h).mono ?_
    rintro v h' ⟨rfl, rfl⟩
    have hfit : 1 + (digL m).length ≤ 9223372036854775807 := by omega
    rw [decL, if_pos hc, ← hm]
    simp [callQ, hfit]
  · obtain ⟨m, rfl⟩ : ∃ m : Nat, n = (m : Int) := ⟨n.toNat, by omega⟩
    have hc2 : ¬ (m : Int) < 0 := by omega
    have w1 : IntKind.wrap .u64 (m : Int) = (m : Int) := u64wrap (by omega)
    simp [w1, hc2]
    refine (digits_ok m (by omega) h).mono ?_
    rintro v h' ⟨rfl, rfl⟩
    simp [callQ, decL, hc2]
end Go.Proofs.Ytf
