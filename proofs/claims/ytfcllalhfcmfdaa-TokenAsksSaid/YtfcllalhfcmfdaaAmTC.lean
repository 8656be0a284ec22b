import Derived.Test.YtfcllalhfcmfdaaAmTB
set_option linter.unusedVariables false
set_option linter.unusedSimpArgs false
set_option linter.unusedSectionVars false
namespace Go.Proofs.Ytf
open Go Go.Am
set_option maxRecDepth 20000
set_option linter.unusedSimpArgs false
set_option maxHeartbeats 2000000
/-- ends of lines among tokens -/
def endsN (ts : List Tok) : Nat := (ts.filter (fun t => decide (t.kind = 3))).length
theorem endsN_le (ts : List Tok) : endsN ts ≤ ts.length := List.length_filter_le _ _
theorem nextV_tok {l : List UInt8} {a : Nat} {ln col : Int} (hc : (nextV l a ln col).code = 0) :
    (nextV l a ln col).tok.line = ln ∧ (nextV l a ln col).ln = (if (nextV l a ln col).tok.kind = 3 then ln + 1 else ln) := by
  revert hc
  unfold nextV nextV'
  generalize a + skipL false (l.drop a) = k
  cases l[k]? with
  | none => simp
  | some c =>
    dsimp only
    by_cases h3 : kindV c.toNat = 3
    · simp [h3]
    · by_cases h4 : kindV c.toNat = 4
      · by_cases he : endOk l (k + runL 4 (l.drop k)) = true
        · simp [h4, he]
        · simp [h4, he]
      · by_cases h5 : kindV c.toNat = 6 ∨ kindV c.toNat = 5
        · by_cases hok : (numV l k).ok = true
          · simp [h3, h4, h5, hok]
          · simp [h3, h4, h5, hok]
        · simp [h3, h4, h5]
theorem nextV_code (l : List UInt8) (a : Nat) (ln col : Int) : (nextV l a ln col).code = 0 ∨ (nextV l a ln col).code = 2 ∨ (nextV l a ln col).code = 4 := by
  unfold nextV nextV'
  generalize a + skipL false (l.drop a) = k
  cases l[k]? with
  | none => simp
  | some c =>
    dsimp only
    (repeat' split) <;> simp
theorem allL_code (l : List UInt8) : ∀ (n a : Nat) (ln col : Int), (allL l n a ln col).code = 0 ∨ (allL l n a ln col).code = 2 := by
  intro n
  induction n with
  | zero => intro a ln col; exact .inl rfl
  | succ n ih =>
    intro a ln col
    rw [allL]
    have hc := nextV_code l a ln col
    by_cases h0 : (nextV l a ln col).code = 0
    · simp only [h0, if_true]; exact ih _ _ _
    · by_cases h4 : (nextV l a ln col).code = 4
      · simp [h4]
      · have : (nextV l a ln col).code = 2 := by omega
        simp [this]
theorem allL_line (l : List UInt8) : ∀ (n a : Nat) (ln col : Int) (i : Nat) (t : Tok), (allL l n a ln col).ts[i]? = some t → t.line = ln + endsN ((allL l n a ln col).ts.take i) := by
  intro n
  induction n with
  | zero => intro a ln col i t h; simp [allL] at h
  | succ n ih =>
    intro a ln col i t h
    rw [allL] at h ⊢
    by_cases h0 : (nextV l a ln col).code = 0
    · have hx := nextV_tok h0
      simp only [h0, if_true] at h ⊢
      cases i with
      | zero => simp at h; subst h; simp [endsN, hx.1]
      | succ i =>
        simp only [List.getElem?_cons_succ] at h
        have := ih _ _ _ i t h
        rw [this, hx.2]
        by_cases hk : (nextV l a ln col).tok.kind = 3
        · simp [endsN, hk]; omega
        · simp [endsN, hk]
    · simp only [h0, if_false] at h
      split at h <;> simp at h
theorem allL_len (l : List UInt8) : ∀ (n a : Nat) (ln col : Int), (allL l n a ln col).ts.length ≤ n := by
  intro n
  induction n with
  | zero => intro a ln col; simp [allL]
  | succ n ih =>
    intro a ln col
    rw [allL]
    by_cases h0 : (nextV l a ln col).code = 0
    · simp only [h0, if_true, List.length_cons]; have := ih (nextV l a ln col).to (nextV l a ln col).ln (nextV l a ln col).col; omega
    · simp only [h0, if_false]; split <;> simp
theorem tw_kind : ∀ (ts : List Tok) (i : Nat), i < lineN ts → ∃ t, ts[i]? = some t ∧ t.kind ≠ 3 := by
  intro ts
  induction ts with
  | nil => intro i h; simp [lineN] at h
  | cons t r ih =>
    intro i h
    unfold lineN at h
    rw [List.takeWhile_cons] at h
    by_cases hk : t.kind = 3
    · simp [hk] at h
    · simp [hk] at h
      cases i with
      | zero => exact ⟨t, rfl, hk⟩
      | succ i =>
        obtain ⟨u, q1, q2⟩ := ih i (by unfold lineN; simp; omega)
        exact ⟨u, by simpa using q1, q2⟩
theorem line_kind (ts : List Tok) (a i : Nat) (hi : i < lineN (ts.drop a)) (h : a + i < ts.length) : ts[a + i].kind ≠ 3 := by
  obtain ⟨t, q1, q2⟩ := tw_kind (ts.drop a) i hi
  rw [List.getElem?_drop, List.getElem?_eq_getElem h] at q1
  rw [Option.some.inj q1]; exact q2
theorem lineN_le (ts : List Tok) : lineN ts ≤ ts.length := by unfold lineN; exact (List.takeWhile_sublist _).length_le
theorem line_end (ts : List Tok) (h : lineN ts < ts.length) : ∃ t, ts[lineN ts]? = some t ∧ t.kind = 3 := by
  induction ts with
  | nil => simp [lineN] at h
  | cons t r ih =>
    by_cases hk : t.kind = 3
    · refine ⟨t, ?_, hk⟩
      have : lineN (t :: r) = 0 := by unfold lineN; rw [List.takeWhile_cons]; simp [hk]
      rw [this]; rfl
    · have e : lineN (t :: r) = lineN r + 1 := by unfold lineN; rw [List.takeWhile_cons]; simp [hk]
      rw [e] at h ⊢
      obtain ⟨u, q1, q2⟩ := ih (by simpa using h)
      exact ⟨u, by simpa using q1, q2⟩
theorem endsN_line (ts : List Tok) (a i : Nat) (hi : i ≤ lineN (ts.drop a)) : endsN (ts.take (a + i)) = endsN (ts.take a) := by
  induction i with
  | zero => rfl
  | succ i ih =>
    rw [← ih (by omega)]
    by_cases h : a + i < ts.length
    · have e : ts.take (a + (i + 1)) = ts.take (a + i) ++ [ts[a + i]] := by
        rw [show a + (i + 1) = (a + i) + 1 by omega, List.take_add_one, List.getElem?_eq_getElem h]; rfl
      rw [e, endsN, endsN, List.filter_append]
      have : ts[a + i].kind ≠ 3 := line_kind ts a i (by omega) h
      simp [this]
    · rw [List.take_of_length_le (by omega), List.take_of_length_le (by omega)]
theorem endsN_next (ts : List Tok) (p m : Nat) (hm : m = lineN (ts.drop p)) (h : p + m < ts.length) : endsN (ts.take (p + m + 1)) = endsN (ts.take p) + 1 := by
  rw [← endsN_line ts p m (by omega)]
  have e : ts.take (p + m + 1) = ts.take (p + m) ++ [ts[p + m]] := by rw [List.take_add_one, List.getElem?_eq_getElem h]; rfl
  obtain ⟨t, q1, q2⟩ := line_end (ts.drop p) (by rw [List.length_drop]; omega)
  rw [← hm, List.getElem?_drop, List.getElem?_eq_getElem h] at q1
  rw [e, endsN, endsN, List.filter_append, Option.some.inj q1]
  simp [q2]
end Go.Proofs.Ytf
