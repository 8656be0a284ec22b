import Derived.Test.YtfcllalhfcmfdaaAmTC
set_option linter.unusedVariables false
set_option linter.unusedSimpArgs false
set_option linter.unusedSectionVars false
namespace Go.Proofs.Ytf
open Go Go.Am
set_option maxRecDepth 20000
set_option linter.unusedSimpArgs false
set_option maxHeartbeats 2000000
/-- the places where lines begin, of the first n bytes -/
def fromL (l : List UInt8) : Nat → List Nat
  | 0 => [0]
  | n + 1 => if (l.getD n 0).toNat = 10 then fromL l n ++ [n + 1] else fromL l n
theorem fromL_len (l : List UInt8) (n : Nat) : 1 ≤ (fromL l n).length ∧ (fromL l n).length ≤ n + 1 := by
  induction n with
  | zero => simp [fromL]
  | succ n ih => rw [fromL]; split <;> (try simp) <;> omega
theorem fromL_le (l : List UInt8) (n i s : Nat) (h : (fromL l n)[i]? = some s) : s ≤ n := by
  induction n generalizing i s with
  | zero => cases i with
    | zero => simp [fromL] at h; omega
    | succ i => simp [fromL] at h
  | succ n ih =>
    rw [fromL] at h
    split at h
    · rw [List.getElem?_append] at h
      split at h
      · have := ih i s h; omega
      · obtain ⟨_, q⟩ := List.getElem?_eq_some_iff.mp h
        have : s = n + 1 := by
          have := List.mem_of_getElem? h
          simpa using this
        omega
    · have := ih i s h; omega
theorem fromL_pre (l : List UInt8) (n d : Nat) : fromL l n <+: fromL l (n + d) := by
  induction d with
  | zero => exact List.prefix_refl _
  | succ d ih =>
    rw [← Nat.add_assoc, fromL]
    split
    · exact ih.trans (List.prefix_append _ _)
    · exact ih
theorem fromL_get {l : List UInt8} {n m i s : Nat} (h : (fromL l n)[i]? = some s) (hm : n ≤ m) : (fromL l m)[i]? = some s := by
  have hp := fromL_pre l n (m - n)
  rw [show n + (m - n) = m by omega] at hp
  obtain ⟨t, ht⟩ := hp
  have := (List.getElem?_eq_some_iff.mp h).1
  rw [← ht, List.getElem?_append_left this, h]
/-- no end of a line from a to k -/
theorem fromL_same (l : List UInt8) (a d : Nat) (h : ∀ i, i < d → (l.getD (a + i) 0).toNat ≠ 10) : fromL l (a + d) = fromL l a := by
  induction d with
  | zero => rfl
  | succ d ih =>
    rw [← Nat.add_assoc, fromL, if_neg (h d (by omega)), ih (fun i hi => h i (by omega))]
/-- where one stands -/
structure At (l : List UInt8) (a : Nat) (ln col : Int) : Prop where
  hl : ln = (fromL l a).length
  hc : 1 ≤ col
  hs : ∃ s : Nat, (fromL l a)[(fromL l a).length - 1]? = some s ∧ (s : Int) + col = a + 1
theorem At.mv {l : List UInt8} {a : Nat} {ln col : Int} (H : At l a ln col) (k : Nat) (hk : a ≤ k) (h : ∀ i, a ≤ i → i < k → (l.getD i 0).toNat ≠ 10) : At l k ln (col + k - a) := by
  have e : fromL l k = fromL l a := by
    have := fromL_same l a (k - a) (fun i hi => h (a + i) (by omega) (by omega))
    rwa [show a + (k - a) = k by omega] at this
  obtain ⟨s, h1, h2⟩ := H.hs
  exact ⟨by rw [e]; exact H.hl, by have := H.hc; omega, s, by rw [e]; exact h1, by omega⟩
theorem At.nl {l : List UInt8} {a : Nat} {ln col : Int} (H : At l a ln col) (h : (l.getD a 0).toNat = 10) : At l (a + 1) (ln + 1) 1 := by
  have e : fromL l (a + 1) = fromL l a ++ [a + 1] := by rw [fromL, if_pos h]
  refine ⟨by rw [e, H.hl]; simp, by omega, a + 1, by rw [e]; simp, by omega⟩
theorem skipL_nl : ∀ (b : Bool) (l : List UInt8) (i : Nat), i < skipL b l → (l.getD i 0).toNat ≠ 10 := by
  intro b l
  induction l generalizing b with
  | nil => intro i h; cases b <;> simp [skipL] at h
  | cons c r ih =>
    intro i h
    cases b with
    | true =>
      simp only [skipL] at h
      split at h
      · omega
      · cases i with
        | zero => simpa using ‹_›
        | succ i => have := ih true i (by omega); simpa using this
    | false =>
      simp only [skipL] at h
      split at h
      · rename_i hk
        cases i with
        | zero => intro e; rw [show ((c :: r).getD 0 0) = c from rfl] at e; rw [e] at hk; simp [kindV] at hk
        | succ i => have := ih false i (by omega); simpa using this
      · split at h
        · rename_i hk
          cases i with
          | zero => intro e; rw [show ((c :: r).getD 0 0) = c from rfl] at e; rw [e] at hk; simp [kindV] at hk
          | succ i => have := ih true i (by omega); simpa using this
        · omega
theorem runL_nl : ∀ (k : Nat) (l : List UInt8) (i : Nat), k ≠ 3 → i < runL k l → (l.getD i 0).toNat ≠ 10 := by
  intro k l
  induction l with
  | nil => intro i _ h; simp [runL] at h
  | cons c r ih =>
    intro i hk3 h
    simp only [runL] at h
    split at h
    · rename_i hk
      cases i with
      | zero => intro e; rw [show ((c :: r).getD 0 0) = c from rfl] at e; rw [e] at hk; simp [kindV] at hk; omega
      | succ i => have := ih i hk3 (by omega); simpa using this
    · omega
theorem getD_drop' (l : List UInt8) (a i : Nat) : (l.drop a).getD i 0 = l.getD (a + i) 0 := by
  rw [List.getD_eq_getElem?_getD, List.getD_eq_getElem?_getD, List.getElem?_drop]
theorem skip_nl (l : List UInt8) (a i : Nat) (h1 : a ≤ i) (h2 : i < a + skipL false (l.drop a)) : (l.getD i 0).toNat ≠ 10 := by
  have := skipL_nl false (l.drop a) (i - a) (by omega)
  rwa [getD_drop', show a + (i - a) = i by omega] at this
theorem run_nl (l : List UInt8) (k a i : Nat) (hk : k ≠ 3) (h1 : a ≤ i) (h2 : i < a + runL k (l.drop a)) : (l.getD i 0).toNat ≠ 10 := by
  have := runL_nl k (l.drop a) (i - a) hk (by omega)
  rwa [getD_drop', show a + (i - a) = i by omega] at this
theorem getD_get {l : List UInt8} {k : Nat} {c : UInt8} (h : l[k]? = some c) : l.getD k 0 = c := by
  rw [List.getD_eq_getElem?_getD, h]; rfl
theorem num_nl (l : List UInt8) (k i : Nat) (h1 : k ≤ i) (h2 : i < (numV l k).to) : (l.getD i 0).toNat ≠ 10 := by
  have hto : (numV l k).to ≤ k + numM l k + numT l k := by unfold numV numV'; split; exact (by omega : k ≤ k + numM l k + numT l k); exact Nat.le_refl _
  by_cases h : i < k + numM l k
  · have hm : numM l k = 1 := by unfold numM at h ⊢; split at h <;> simp_all <;> omega
    have : i = k := by omega
    subst this
    unfold numM at hm; split at hm
    · omega
    · omega
  · exact run_nl l 5 (k + numM l k) i (by omega) (by omega) (by unfold numT at hto; omega)
/-- a token stands where its place says -/
structure TokAt (l : List UInt8) (t : Tok) (p : Nat) : Prop where
  lt : p < l.length
  pos : At l p t.line t.col
  end_ : t.kind = 3 → (l.getD p 0).toNat = 10 ∧ t.text = []
  text : t.kind ≠ 3 → t.text ≠ [] ∧ p + t.text.length ≤ l.length ∧ (l.take (p + t.text.length)).drop p = t.text
theorem nextV_at {l : List UInt8} {a : Nat} {ln col : Int} (ha : a ≤ l.length) (H : At l a ln col) :
    ((nextV l a ln col).code = 0 → At l (nextV l a ln col).to (nextV l a ln col).ln (nextV l a ln col).col ∧ (nextV l a ln col).to ≤ l.length ∧ ∃ p, TokAt l (nextV l a ln col).tok p) ∧
    ((nextV l a ln col).code ≠ 0 → ∃ b, b ≤ l.length ∧ At l b (nextV l a ln col).ln (nextV l a ln col).col) := by
  unfold nextV nextV'
  generalize hk : a + skipL false (l.drop a) = k
  have hak : a ≤ k := by omega
  have hkl : k ≤ l.length := by have := skipL_le false (l.drop a); rw [List.length_drop] at this; omega
  have Hk : At l k ln (col + k - a) := H.mv k hak (fun i h1 h2 => skip_nl l a i h1 (by omega))
  cases hg : l[k]? with
  | none => exact ⟨fun h => by simp at h, fun _ => ⟨k, hkl, Hk⟩⟩
  | some c =>
    have hkl : k < l.length := by rw [List.getElem?_eq_some_iff] at hg; exact hg.1
    have hgd := getD_get hg
    dsimp only
    by_cases h3 : kindV c.toNat = 3
    · have hc : c.toNat = 10 := by simp only [kindV] at h3; revert h3; (repeat' split) <;> omega
      simp only [h3, if_true]
      refine ⟨fun _ => ⟨Hk.nl (by rw [hgd]; exact hc), hkl, k, hkl, Hk, fun _ => ⟨by rw [hgd]; exact hc, rfl⟩, fun h => absurd rfl h⟩, fun h => absurd rfl h⟩
    · by_cases h4 : kindV c.toNat = 4
      · have hr : runL 4 (l.drop k) ≤ l.length - k := by have := runL_le 4 (l.drop k); rw [List.length_drop] at this; exact this
        have hr2 : 1 ≤ runL 4 (l.drop k) := by rw [drop_get hg, runL, if_pos h4]; omega
        obtain ⟨to, hto⟩ : ∃ to, to = k + runL 4 (l.drop k) := ⟨_, rfl⟩
        have Ht : At l to ln (col + to - a) := by
          have := Hk.mv to (by omega) (fun i h1 h2 => run_nl l 4 k i (by omega) h1 (by omega))
          rwa [show col + k - a + to - k = col + to - a by omega] at this
        simp only [h4, show ¬ (4 = 3) by omega, if_false, if_true, ← hto]
        cases he : endOk l to with
        | true =>
          simp only [if_true]
          have hlen : ((l.take to).drop k).length = to - k := by rw [List.length_drop, List.length_take]; omega
          refine ⟨fun _ => ⟨Ht, by omega, k, hkl, Hk, fun h => absurd (show ((1 : Int) = 3) from h) (by decide), fun _ => ⟨fun e => by rw [show (l.take to).drop k = [] from e] at hlen; simp at hlen; omega, by show k + ((l.take to).drop k).length ≤ l.length; rw [hlen]; omega, ?_⟩⟩, fun h => absurd rfl h⟩
          show ((l.take (k + ((l.take to).drop k).length)).drop k) = _
          rw [hlen, show k + (to - k) = to by omega]
        | false => exact ⟨fun h => by simp at h, fun _ => ⟨to, by omega, by simpa using Ht⟩⟩
      · by_cases h5 : kindV c.toNat = 6 ∨ kindV c.toNat = 5
        · simp only [h3, h4, h5, if_false, if_true]
          have hto1 := numV_le l k (by omega)
          have hto2 := numV_ge l k
          obtain ⟨to, hto⟩ : ∃ to, to = (numV l k).to := ⟨_, rfl⟩
          have Ht : At l to ln (col + to - a) := by
            have := Hk.mv to (by omega) (fun i h1 h2 => num_nl l k i h1 (by omega))
            rwa [show col + k - a + to - k = col + to - a by omega] at this
          rw [← hto] at hto1 hto2 ⊢
          cases hok : (numV l k).ok with
          | true =>
            simp only [if_true]
            have hlt : k < to := by
              rw [hto]
              revert hok
              unfold numV numV'
              split
              · simp
              · intro _; show k < k + numM l k + numT l k; omega
            have hlen : ((l.take to).drop k).length = to - k := by rw [List.length_drop, List.length_take]; omega
            refine ⟨fun _ => ⟨Ht, hto1, k, hkl, Hk, fun h => absurd (show ((2 : Int) = 3) from h) (by decide), fun _ => ⟨fun e => by rw [show (l.take to).drop k = [] from e] at hlen; simp at hlen; omega, by show k + ((l.take to).drop k).length ≤ l.length; rw [hlen]; omega, ?_⟩⟩, fun h => absurd rfl h⟩
            show ((l.take (k + ((l.take to).drop k).length)).drop k) = _
            rw [hlen, show k + (to - k) = to by omega]
          | false => exact ⟨fun h => by simp at h, fun _ => ⟨to, hto1, by simpa using Ht⟩⟩
        · simp only [h3, h4, h5, if_false]
          exact ⟨fun h => absurd h (by decide), fun _ => ⟨k, by omega, Hk⟩⟩
theorem allL_at (l : List UInt8) : ∀ (n a : Nat) (ln col : Int), a ≤ l.length → At l a ln col → l.length < n + a →
    (∀ t ∈ (allL l n a ln col).ts, ∃ p, TokAt l t p) ∧ ∃ b, b ≤ l.length ∧ At l b (allL l n a ln col).ln (allL l n a ln col).col := by
  intro n
  induction n with
  | zero => intro a ln col h1 _ h2; omega
  | succ n ih =>
    intro a ln col ha H hn
    have hx := nextV_at ha H
    have hlt : (nextV l a ln col).code = 0 → a < (nextV l a ln col).to := by
      intro h0
      revert h0
      unfold nextV nextV'
      generalize hk : a + skipL false (l.drop a) = k
      cases hg : l[k]? with
      | none => simp
      | some c =>
        dsimp only
        by_cases h3 : kindV c.toNat = 3
        · simp only [h3, if_true]; intro _; omega
        · by_cases h4 : kindV c.toNat = 4
          · have hr2 : 1 ≤ runL 4 (l.drop k) := by rw [drop_get hg, runL, if_pos h4]; omega
            cases he : endOk l (k + runL 4 (l.drop k)) with
            | true => simp only [h4, if_true, he]; intro _; simp only [show ¬ (4 = 3) by omega, if_false]; omega
            | false => simp [h4]
          · by_cases h5 : kindV c.toNat = 6 ∨ kindV c.toNat = 5
            · cases hok : (numV l k).ok with
              | true =>
                have h2 : k < (numV l k).to := by
                  revert hok
                  unfold numV numV'
                  split
                  · simp
                  · intro _; show k < k + numM l k + numT l k; omega
                simp only [h3, h4, h5, if_false, if_true]; intro _; omega
              | false => simp [h3, h4, h5]
            · simp [h3, h4, h5]
    rw [allL]
    by_cases h0 : (nextV l a ln col).code = 0
    · obtain ⟨q1, q2, q3⟩ := hx.1 h0
      have := ih _ _ _ q2 q1 (by have := hlt h0; omega)
      simp only [h0, if_true]
      refine ⟨fun t ht => ?_, this.2⟩
      rcases List.mem_cons.mp ht with rfl | ht
      · exact q3
      · exact this.1 t ht
    · have := hx.2 h0
      simp only [h0, if_false]
      split
      · exact ⟨fun t ht => by simp at ht, this⟩
      · exact ⟨fun t ht => by simp at ht, this⟩
theorem At.zero (l : List UInt8) : At l 0 1 1 := ⟨by simp [fromL], by omega, 0, by simp [fromL], by omega⟩
theorem allV_at (l : List UInt8) : (∀ t ∈ (allV l).ts, ∃ p, TokAt l t p) ∧ ∃ b, b ≤ l.length ∧ At l b (allV l).ln (allV l).col :=
  allL_at l _ 0 1 1 (by omega) (At.zero l) (by omega)
end Go.Proofs.Ytf
