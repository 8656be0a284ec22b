import Derived.Test.YtfcllalhfcmfdaaAmTG
import Derived.Test.YtfcllalhfcmfdaaAmTE
set_option linter.unusedVariables false
set_option linter.unusedSimpArgs false
set_option linter.unusedSectionVars false
namespace Go.Proofs.Ytf
open Go Go.Am
set_option maxRecDepth 20000
set_option linter.unusedSimpArgs false
set_option maxHeartbeats 2000000
theorem skip_blanks (g : Nat) (d : List UInt8) (hd : skipL false d = 0) : skipL false (List.replicate g 32 ++ d) = g := by
  induction g with
  | zero => simpa using hd
  | succ g ih => rw [List.replicate_succ, List.cons_append, skipL, if_pos (by decide), ih]
theorem runL_all' (k : Nat) : ∀ l : List UInt8, (∀ c ∈ l, kindV c.toNat = k) → runL k l = l.length := by
  intro l
  induction l with
  | nil => intro _; rfl
  | cons c r ih => intro h; rw [runL, if_pos (h c (by simp)), ih (fun x hx => h x (by simp [hx]))]; rfl
theorem decL_head (n : Int) : ∃ c r, decL n = c :: r ∧ (kindV c.toNat = 6 ∨ kindV c.toNat = 5) ∧ skipL false (decL n) = 0 := by
  have key : ∀ c r, decL n = c :: r → (kindV c.toNat = 6 ∨ kindV c.toNat = 5) → skipL false (decL n) = 0 := by
    intro c r h hk
    rw [h, skipL]
    rw [if_neg (by omega), if_neg (by omega)]
  by_cases h : n < 0
  · refine ⟨45, digL (-n).toNat, by rw [decL, if_pos h], .inl (by decide), ?_⟩
    exact key _ _ (by rw [decL, if_pos h]) (.inl (by decide))
  · have e : decL n = digL n.toNat := by rw [decL, if_neg h]
    cases hd : digL n.toNat with
    | nil => exact absurd hd (digL_ne _)
    | cons c r =>
      have hk := digL_kind n.toNat c (by rw [hd]; simp)
      exact ⟨c, r, by rw [e, hd], .inr hk, key c r (by rw [e, hd]) (.inr hk)⟩
theorem numV_dec (g : Nat) (n : Int) (hn : -9223372036854775808 ≤ n ∧ n ≤ 9223372036854775807) :
    numV (List.replicate g 32 ++ decL n) g = if n < -2147483648 ∨ 2147483647 < n then ⟨0, g, false⟩ else ⟨n, g + (decL n).length, true⟩ := by
  have hdrop : ∀ m, (List.replicate g (32 : UInt8) ++ decL n).drop (g + m) = (decL n).drop m := by
    intro m
    rw [List.drop_append, List.drop_eq_nil_of_le (by simp)]
    simp
  have hget : (List.replicate g (32 : UInt8) ++ decL n).getD g 0 = (decL n).getD 0 0 := by
    have := getD_drop' (List.replicate g (32 : UInt8) ++ decL n) (g + 0) 0
    rw [hdrop 0] at this
    simpa using this.symm
  have hnone : (List.replicate g (32 : UInt8) ++ decL n)[g + (decL n).length]? = none := List.getElem?_eq_none (by simp)
  by_cases h : n < 0
  · obtain ⟨m, hm⟩ : ∃ m, m = (-n).toNat := ⟨_, rfl⟩
    have e : decL n = 45 :: digL m := by rw [decL, if_pos h, hm]
    have hM : numM (List.replicate g 32 ++ decL n) g = 1 := by unfold numM; rw [hget, e]; rfl
    have hT : numT (List.replicate g 32 ++ decL n) g = (digL m).length := by unfold numT; rw [hM, hdrop, e]; exact runL_all' 5 _ (digL_kind m)
    have hN : numN (List.replicate g 32 ++ decL n) g = if 2147483649 < m then -2147483649 else -(m : Int) := by
      unfold numN
      rw [hM, hT, hdrop, e]
      simp only [List.drop_succ_cons, List.drop_zero, List.take_length, numL_dig, if_true]
      split <;> omega
    have hl0 : (digL m).length ≠ 0 := by have := digL_ne m; simpa using this
    have hlen : (decL n).length = 1 + (digL m).length := by rw [e]; simp; omega
    unfold numV numV'
    rw [hM, hT, hN, show g + 1 + (digL m).length = g + (decL n).length by omega, hnone]
    by_cases hr : n < -2147483648 ∨ 2147483647 < n
    · rw [if_pos hr, if_pos]
      right; left; split <;> omega
    · rw [if_neg hr, if_neg]
      · rw [if_neg (by omega)]
        congr 1; omega
      · rw [if_neg (by omega)]; omega
  · obtain ⟨m, hm⟩ : ∃ m, m = n.toNat := ⟨_, rfl⟩
    have e : decL n = digL m := by rw [decL, if_neg h, hm]
    have hM : numM (List.replicate g 32 ++ decL n) g = 0 := by
      unfold numM; rw [hget, e]
      cases hd : digL m with
      | nil => exact absurd hd (digL_ne _)
      | cons c r =>
        have hk := digL_kind m c (by rw [hd]; simp)
        rw [kind_digit] at hk
        rw [if_neg]
        show ¬ c.toNat = 45
        omega
    have hT : numT (List.replicate g 32 ++ decL n) g = (digL m).length := by unfold numT; rw [hM, hdrop, e]; exact runL_all' 5 _ (digL_kind m)
    have hN : numN (List.replicate g 32 ++ decL n) g = if 2147483649 < m then 2147483649 else (m : Int) := by
      unfold numN
      rw [hM, hT, hdrop, e]
      simp only [List.drop_zero, List.take_length, numL_dig]
      rw [if_neg (by decide)]
      split <;> omega
    have hl0 : (digL m).length ≠ 0 := by have := digL_ne m; simpa using this
    have hlen : (decL n).length = (digL m).length := by rw [e]
    unfold numV numV'
    rw [hM, hT, hN, show g + 0 + (digL m).length = g + (decL n).length by omega, hnone]
    by_cases hr : n < -2147483648 ∨ 2147483647 < n
    · rw [if_pos hr, if_pos]
      right; right; split <;> omega
    · rw [if_neg hr, if_neg]
      · rw [if_neg (by omega)]
        congr 1; omega
      · rw [if_neg (by omega)]; omega
theorem allV_dec (g : Nat) (n : Int) (hn : -9223372036854775808 ≤ n ∧ n ≤ 9223372036854775807) :
    allV (List.replicate g 32 ++ decL n) = if n < -2147483648 ∨ 2147483647 < n then ⟨[], 1, (g : Int) + 1, 2⟩ else ⟨[⟨2, n, 1, (g : Int) + 1, decL n⟩], 1, (g : Int) + (decL n).length + 1, 0⟩ := by
  obtain ⟨c, r, hc, hk, hs⟩ := decL_head n
  obtain ⟨l, hl⟩ : ∃ l, l = List.replicate g 32 ++ decL n := ⟨_, rfl⟩
  have hll : l.length = g + (decL n).length := by rw [hl]; simp
  have hlg : l[g]? = some c := by rw [hl, hc, List.getElem?_append_right (by simp)]; simp
  have hsk : 0 + skipL false (l.drop 0) = g := by rw [List.drop_zero, hl, skip_blanks g _ hs]; omega
  have hdl : 0 < (decL n).length := by rw [hc]; simp
  have hnum := numV_dec g n hn
  rw [← hl] at hnum ⊢
  have hnx : nextV l 0 1 1 = if n < -2147483648 ∨ 2147483647 < n then ⟨zTok, 0, 1, (g : Int) + 1, 2⟩ else ⟨⟨2, n, 1, (g : Int) + 1, decL n⟩, l.length, 1, (g : Int) + (decL n).length + 1, 0⟩ := by
    unfold nextV nextV'
    rw [hsk, hlg]
    dsimp only
    rw [if_neg (by omega), if_neg (by omega), if_pos hk, hnum]
    by_cases hr : n < -2147483648 ∨ 2147483647 < n
    · rw [if_pos hr, if_pos hr, if_neg (show ¬ (false = true) by decide)]
      congr 1; show (1 : Int) + (g : Int) - (0 : Nat) = _; omega
    · rw [if_neg hr, if_neg hr, if_pos rfl]
      have ht : (l.take (g + (decL n).length)).drop g = decL n := by
        rw [← hll, List.take_length, hl, List.drop_append, List.drop_eq_nil_of_le (by simp)]; simp
      dsimp only
      rw [ht, hll]
      congr 1
      · congr 1; show (1 : Int) + (g : Int) - (0 : Nat) = _; omega
      · show (1 : Int) + ((g + (decL n).length : Nat) : Int) - (0 : Nat) = _; omega
  unfold allV
  rw [allL, hnx]
  by_cases hr : n < -2147483648 ∨ 2147483647 < n
  · rw [if_pos hr, if_pos hr]; rfl
  · rw [if_neg hr, if_neg hr]
    dsimp only
    rw [if_pos rfl]
    have hend : allL l l.length l.length 1 ((g : Int) + (decL n).length + 1) = ⟨[], 1, (g : Int) + (decL n).length + 1, 0⟩ := by
      cases hL : l.length with
      | zero => omega
      | succ k =>
        rw [allL]
        have : nextV l (k + 1) 1 ((g : Int) + (decL n).length + 1) = ⟨zTok, k + 1, 1, (g : Int) + (decL n).length + 1, 4⟩ := by
          unfold nextV nextV'
          rw [List.drop_eq_nil_of_le (by omega), skipL, List.getElem?_eq_none (by omega)]
          dsimp only
          congr 1; omega
        rw [this]; rfl
    rw [hend]
end Go.Proofs.Ytf
