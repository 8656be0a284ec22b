import Derived.Test.YthglohpeijfcfaaGreatDoorMh
import Derived.ChangeShapes
set_option linter.unusedVariables false
set_option linter.unusedSimpArgs false
set_option linter.unusedSectionVars false
set_option linter.constructorNameAsVariable false
/- Tokens, line by line: the plain law. -/
namespace Go.Proofs.Yph.T
open Go Go.Am
set_option maxRecDepth 20000
set_option maxHeartbeats 2000000
theorem take_drop_shift {α : Type} (l : List α) (a n m : Nat) : ((l.drop a).take n).drop m = (l.take (a + n)).drop (a + m) := by
  rw [← List.drop_drop (i := m) (j := a)]
  conv => rhs; rw [List.drop_take, show a + n - a = n by omega]
theorem numV_drop (l : List UInt8) (a k : Nat) : numV l (a + k) = ⟨(numV (l.drop a) k).n, a + (numV (l.drop a) k).to, (numV (l.drop a) k).ok⟩ := by
  have hg : ∀ j, l[a + j]? = (l.drop a)[j]? := fun j => by rw [List.getElem?_drop]
  have hm : numM l (a + k) = numM (l.drop a) k := by
    unfold numM
    rw [List.getD_eq_getElem?_getD, List.getD_eq_getElem?_getD, hg]
  have ht : numT l (a + k) = numT (l.drop a) k := by
    unfold numT
    rw [hm, List.drop_drop, Nat.add_assoc]
  have hn : numN l (a + k) = numN (l.drop a) k := by
    unfold numN
    rw [hm, ht, List.drop_drop, Nat.add_assoc]
  unfold numV numV'
  rw [hm, ht, hn]
  split
  · rfl
  · have e : a + k + numM (l.drop a) k + numT (l.drop a) k = a + (k + numM (l.drop a) k + numT (l.drop a) k) := by omega
    rw [e, hg]
theorem endOk_drop (l : List UInt8) (a k : Nat) : endOk l (a + k) = endOk (l.drop a) k := by
  unfold endOk
  rw [List.getElem?_drop]
theorem nextV_drop (l : List UInt8) (a : Nat) (ln col : Int) : nextV l a ln col = ⟨(nextV (l.drop a) 0 ln col).tok, a + (nextV (l.drop a) 0 ln col).to, (nextV (l.drop a) 0 ln col).ln, (nextV (l.drop a) 0 ln col).col, (nextV (l.drop a) 0 ln col).code⟩ := by
  unfold nextV
  rw [List.drop_zero, Nat.zero_add]
  generalize hk : skipL false (l.drop a) = k
  unfold nextV'
  have hg : l[a + k]? = (l.drop a)[k]? := by rw [List.getElem?_drop]
  have hc : ∀ j : Nat, col + ((a + j : Nat) : Int) - (a : Int) = col + (j : Int) - ((0 : Nat) : Int) := fun j => by omega
  rw [hg]
  cases hx : (l.drop a)[k]? with
  | none => simp only [hc]
  | some c =>
    dsimp only
    by_cases h3 : kindV c.toNat = 3
    · simp only [h3, if_true, hc]
      rfl
    · simp only [h3, if_false]
      by_cases h4 : kindV c.toNat = 4
      · simp only [h4, if_true]
        have e1 : runL 4 (l.drop (a + k)) = runL 4 ((l.drop a).drop k) := by rw [List.drop_drop]
        have e2 : a + k + runL 4 ((l.drop a).drop k) = a + (k + runL 4 ((l.drop a).drop k)) := by omega
        rw [e1, e2, endOk_drop]
        split
        · simp only [hc, ← take_drop_shift]
        · simp only [hc, Nat.add_zero]
      · simp only [h4, if_false]
        by_cases h5 : kindV c.toNat = 6 ∨ kindV c.toNat = 5
        · simp only [h5, if_true]
          rw [numV_drop]
          dsimp only
          split
          · simp only [hc, ← take_drop_shift]
          · simp only [hc, Nat.add_zero]
        · simp only [h5, if_false, hc, Nat.add_zero]
theorem allL_drop (l : List UInt8) : ∀ (n a : Nat) (ln col : Int), allL l n a ln col = allL (l.drop a) n 0 ln col := by
  intro n
  induction n generalizing l with
  | zero => intro a ln col; rfl
  | succ n ih =>
    intro a ln col
    rw [allL, allL, nextV_drop l a]
    dsimp only
    have e : ∀ (ln' col' : Int), allL l n (a + (nextV (l.drop a) 0 ln col).to) ln' col' = allL (l.drop a) n (nextV (l.drop a) 0 ln col).to ln' col' := fun ln' col' => by
      rw [ih l, ih (l.drop a), List.drop_drop]
    rw [e]
theorem nextV_to (l : List UInt8) (ln col : Int) : (nextV l 0 ln col).to = (nextV l 0 1 1).to ∧ (nextV l 0 ln col).code = (nextV l 0 1 1).code := by
  unfold nextV nextV'
  generalize 0 + skipL false (l.drop 0) = k
  cases l[k]? with
  | none => exact ⟨rfl, rfl⟩
  | some c =>
    dsimp only
    (repeat' split) <;> exact ⟨rfl, rfl⟩
theorem nextV_step {l : List UInt8} {ln col : Int} (hc : (nextV l 0 ln col).code = 0) : 0 < (nextV l 0 ln col).to ∧ (nextV l 0 ln col).to ≤ l.length := by
  rw [(nextV_to l ln col).2] at hc
  rw [(nextV_to l ln col).1]
  have := nextV_go (l := l) (a := 0) (ln := 1) (col := 1) (by omega) (by omega) (by omega) hc
  exact ⟨this.1, this.2.1⟩
theorem allL_fuel' : ∀ (n m : Nat) (t : List UInt8) (ln col : Int), t.length < n → t.length < m → allL t n 0 ln col = allL t m 0 ln col := by
  intro n
  induction n with
  | zero => intro m t ln col h; omega
  | succ n ih =>
    intro m t ln col h1 h2
    cases m with
    | zero => omega
    | succ m =>
      rw [allL, allL]
      by_cases hc : (nextV t 0 ln col).code = 0
      · have hs := nextV_step hc
        simp only [hc, if_true]
        have hl : (t.drop (nextV t 0 ln col).to).length = t.length - (nextV t 0 ln col).to := List.length_drop
        rw [allL_drop t n, allL_drop t m, ih m _ _ _ (by omega) (by omega)]
      · simp only [hc, if_false]
/-- the tokens of a text from a place on -/
def lexT (t : List UInt8) (ln col : Int) : AllR := allL t (t.length + 1) 0 ln col
theorem lexT_all (l : List UInt8) : allV l = lexT l 1 1 := rfl
theorem lexT_next (t : List UInt8) (ln col : Int) : lexT t ln col =
    if (nextV t 0 ln col).code = 0 then ⟨(nextV t 0 ln col).tok :: (lexT (t.drop (nextV t 0 ln col).to) (nextV t 0 ln col).ln (nextV t 0 ln col).col).ts, (lexT (t.drop (nextV t 0 ln col).to) (nextV t 0 ln col).ln (nextV t 0 ln col).col).ln,
      (lexT (t.drop (nextV t 0 ln col).to) (nextV t 0 ln col).ln (nextV t 0 ln col).col).col, (lexT (t.drop (nextV t 0 ln col).to) (nextV t 0 ln col).ln (nextV t 0 ln col).col).code⟩
    else if (nextV t 0 ln col).code = 4 then ⟨[], (nextV t 0 ln col).ln, (nextV t 0 ln col).col, 0⟩ else ⟨[], (nextV t 0 ln col).ln, (nextV t 0 ln col).col, (nextV t 0 ln col).code⟩ := by
  unfold lexT
  rw [allL]
  by_cases hc : (nextV t 0 ln col).code = 0
  · have hs := nextV_step hc
    have hl : (t.drop (nextV t 0 ln col).to).length = t.length - (nextV t 0 ln col).to := List.length_drop
    simp only [hc, if_true]
    rw [allL_drop t, allL_fuel' t.length ((t.drop (nextV t 0 ln col).to).length + 1) _ _ _ (by omega) (by omega)]
  · simp only [hc, if_false]
def no10 (b : List UInt8) : Prop := ∀ c ∈ b, c.toNat ≠ 10
theorem no10_drop {b : List UInt8} (h : no10 b) (k : Nat) : no10 (b.drop k) := fun c hc => h c (List.mem_of_mem_drop hc)
theorem skipL_cat (post : List UInt8) : ∀ (b : List UInt8) (f : Bool), no10 b → skipL f (b ++ 10 :: post) = skipL f b := by
  intro b
  induction b with
  | nil =>
    intro f _
    cases f with
    | true => rw [List.nil_append, skipL]; rfl
    | false => rw [List.nil_append, skipL]; rfl
  | cons c r ih =>
    intro f h
    have hr : no10 r := fun x hx => h x (List.mem_cons_of_mem _ hx)
    cases f with
    | true => rw [List.cons_append, skipL, skipL, ih _ hr]
    | false => rw [List.cons_append, skipL, skipL, ih _ hr, ih _ hr]
theorem runL_cat (post : List UInt8) (k : Nat) (hk : k ≠ 3) : ∀ (b : List UInt8), runL k (b ++ 10 :: post) = runL k b := by
  intro b
  induction b with
  | nil =>
    have h3 : ¬ kindV (10 : UInt8).toNat = k := by show ¬ (3 : Nat) = k; omega
    rw [List.nil_append]
    show (if kindV (10 : UInt8).toNat = k then runL k post + 1 else 0) = 0
    rw [if_neg h3]
  | cons c r ih => rw [List.cons_append, runL, runL, ih]
theorem getD_cat {b post : List UInt8} {k : Nat} (h : k < b.length) : (b ++ 10 :: post)[k]? = b[k]? := List.getElem?_append_left h
theorem get_end {b post : List UInt8} : (b ++ 10 :: post)[b.length]? = some 10 := by simp
theorem numV_cat {b post : List UInt8} {k : Nat} (hk : k < b.length) : numV (b ++ 10 :: post) k = numV b k := by
  have hm : numM (b ++ 10 :: post) k = numM b k := by
    unfold numM
    rw [List.getD_eq_getElem?_getD, List.getD_eq_getElem?_getD, getD_cat hk]
  have hm1 : numM b k ≤ 1 := by unfold numM; split <;> omega
  have hd : (b ++ 10 :: post).drop (k + numM b k) = b.drop (k + numM b k) ++ 10 :: post := List.drop_append_of_le_length (by omega)
  have ht : numT (b ++ 10 :: post) k = numT b k := by
    unfold numT
    rw [hm, hd, runL_cat post 5 (by decide)]
  have htl : numT b k ≤ (b.drop (k + numM b k)).length := runL_le 5 _
  have hn : numN (b ++ 10 :: post) k = numN b k := by
    unfold numN
    rw [hm, ht, hd, List.take_append_of_le_length htl]
  unfold numV numV'
  rw [hm, ht, hn]
  split
  · rfl
  · rw [List.length_drop] at htl
    congr 1
    rcases Nat.lt_or_ge (k + numM b k + numT b k) b.length with z | z
    · rw [getD_cat z]
    · have e : k + numM b k + numT b k = b.length := by omega
      rw [e, get_end, List.getElem?_eq_none (Nat.le_refl _)]
      rfl
theorem endOk_cat {b post : List UInt8} {k : Nat} (hk : k ≤ b.length) : endOk (b ++ 10 :: post) k = endOk b k := by
  unfold endOk
  rcases Nat.lt_or_ge k b.length with z | z
  · rw [getD_cat z]
  · have e : k = b.length := by omega
    rw [e, get_end, List.getElem?_eq_none (Nat.le_refl _)]
    rfl
theorem take_cat {b post : List UInt8} {n : Nat} (h : n ≤ b.length) : (b ++ 10 :: post).take n = b.take n := List.take_append_of_le_length h
theorem nextV_cat {b : List UInt8} (post : List UInt8) (hb : no10 b) (ln col : Int) :
    ((nextV b 0 ln col).code ≠ 4 → nextV (b ++ 10 :: post) 0 ln col = nextV b 0 ln col) ∧
    ((nextV b 0 ln col).code = 4 → nextV (b ++ 10 :: post) 0 ln col = ⟨⟨3, 0, ln, (nextV b 0 ln col).col, []⟩, b.length + 1, ln + 1, 1, 0⟩) ∧ (nextV b 0 ln col).ln = ln := by
  unfold nextV
  rw [List.drop_zero, List.drop_zero, Nat.zero_add, Nat.zero_add, skipL_cat post b false hb]
  have hkl := skipL_le false b
  revert hkl
  generalize skipL false b = k
  intro hkl
  unfold nextV'
  rcases Nat.lt_or_ge k b.length with z | z
  · rw [getD_cat z]
    have hx : b[k]? = some b[k] := List.getElem?_eq_getElem z
    have h10 := hb b[k] (List.getElem_mem z)
    generalize b[k] = c at hx h10
    rw [hx]
    dsimp only
    have h3 : ¬ kindV c.toNat = 3 := by
      intro q
      unfold kindV at q
      (repeat' split at q) <;> omega
    simp only [h3, if_false]
    by_cases h4 : kindV c.toNat = 4
    · simp only [h4, if_true]
      have e1 : runL 4 ((b ++ 10 :: post).drop k) = runL 4 (b.drop k) := by rw [List.drop_append_of_le_length hkl, runL_cat post 4 (by decide)]
      have hle : k + runL 4 (b.drop k) ≤ b.length := by have := runL_le 4 (b.drop k); rw [List.length_drop] at this; omega
      rw [e1, endOk_cat hle, take_cat hle]
      split
      · exact ⟨fun _ => rfl, fun q => by exfalso; revert q; dsimp only; omega, rfl⟩
      · exact ⟨fun _ => rfl, fun q => by exfalso; revert q; dsimp only; omega, rfl⟩
    · simp only [h4, if_false]
      by_cases h5 : kindV c.toNat = 6 ∨ kindV c.toNat = 5
      · simp only [h5, if_true]
        rw [numV_cat z]
        have hle := numV_le b k hkl
        rw [take_cat hle]
        split
        · exact ⟨fun _ => rfl, fun q => by exfalso; revert q; dsimp only; omega, rfl⟩
        · exact ⟨fun _ => rfl, fun q => by exfalso; revert q; dsimp only; omega, rfl⟩
      · simp only [h5, if_false]
        exact ⟨fun _ => trivial, fun q => by exfalso; revert q; omega, trivial⟩
  · have e : k = b.length := by omega
    subst e
    rw [get_end, List.getElem?_eq_none (Nat.le_refl _)]
    refine ⟨fun q => absurd rfl q, fun _ => ?_, rfl⟩
    rfl
theorem lexT_cat (post : List UInt8) : ∀ (n : Nat) (b : List UInt8) (ln col : Int), b.length < n → no10 b →
    lexT (b ++ 10 :: post) ln col = (if (lexT b ln col).code = 0 then ⟨(lexT b ln col).ts ++ ⟨3, 0, ln, (lexT b ln col).col, []⟩ :: (lexT post (ln + 1) 1).ts, (lexT post (ln + 1) 1).ln, (lexT post (ln + 1) 1).col, (lexT post (ln + 1) 1).code⟩ else lexT b ln col) ∧ (lexT b ln col).ln = ln ∧ ∀ t ∈ (lexT b ln col).ts, t.kind ≠ 3 := by
  intro n
  induction n with
  | zero => intro b ln col h; omega
  | succ n ih =>
    intro b ln col hn hb
    obtain ⟨c1, c2, c3⟩ := nextV_cat post hb ln col
    rw [lexT_next (b ++ 10 :: post), lexT_next b]
    by_cases h0 : (nextV b 0 ln col).code = 0
    · have hs := nextV_step h0
      rw [c1 (by rw [h0]; decide)]
      simp only [h0, if_true]
      have hd : (b ++ 10 :: post).drop (nextV b 0 ln col).to = b.drop (nextV b 0 ln col).to ++ 10 :: post := List.drop_append_of_le_length hs.2
      have hl : (b.drop (nextV b 0 ln col).to).length = b.length - (nextV b 0 ln col).to := List.length_drop
      obtain ⟨i1, i2, i3⟩ := ih (b.drop (nextV b 0 ln col).to) (nextV b 0 ln col).ln (nextV b 0 ln col).col (by omega) (no10_drop hb _)
      rw [hd, i1]
      refine ⟨?_, by rw [i2, c3], fun t ht => ?_⟩
      · split
        · rw [c3]; rfl
        · rfl
      · rcases List.mem_cons.1 ht with rfl | q
        · revert h0
          unfold nextV nextV'
          generalize 0 + skipL false (b.drop 0) = k
          cases hx : b[k]? with
          | none => intro q; exfalso; revert q; dsimp only; omega
          | some c =>
            have h10 := hb c (List.mem_of_getElem? hx)
            have h3 : ¬ kindV c.toNat = 3 := by
              intro q
              unfold kindV at q
              (repeat' split at q) <;> omega
            dsimp only
            simp only [h3, if_false]
            (repeat' split) <;> intro q <;> first | (exfalso; revert q; dsimp only; omega) | (dsimp only; omega)
        · exact i3 t q
    · by_cases h4 : (nextV b 0 ln col).code = 4
      · rw [c2 h4]
        simp only [h4, if_true, h0, if_false]
        have hd : (b ++ 10 :: post).drop (b.length + 1) = post := by
          rw [← List.drop_drop]; simp
        rw [hd]
        refine ⟨by simp, c3, fun t ht => by cases ht⟩
      · rw [c1 h4]
        simp only [h0, h4, if_false]
        exact ⟨trivial, c3, fun t ht => by cases ht⟩
end Go.Proofs.Yph.T
/- Lines, one by one: the plain law of the reader. -/
namespace Go.Proofs.Yph
open Go Go.Am
set_option maxRecDepth 20000
set_option maxHeartbeats 2000000
open T (Tok lexT no10 allV)
open V (SeatR PoleR VenR)
def lineR (r : Rd) (row : List Tok) (bl bc : Int) : Rd × Option (Int × Int) := match row with
  | [] => (r, none)
  | t0 :: rest => match lineErr (t0 :: rest) bl bc with
    | some e => (r, some e)
    | none => if (addR r t0 rest).2 then ((addR r t0 rest).1, none) else ((addR r t0 rest).1, some (t0.line, t0.col))
def notEnd (t : Tok) : Bool := decide (t.kind ≠ 3)
def linesD (el ec : Int) : Nat → List Tok → Rd → Rd × Option (Int × Int)
  | 0, _, r => (r, none)
  | f + 1, ts, r => if ts = [] then (r, none) else match lineR r (ts.takeWhile notEnd) (behAt (ts.dropWhile notEnd) el ec 0).1 (behAt (ts.dropWhile notEnd) el ec 0).2 with
    | (r', some e) => (r', some e)
    | (r', none) => linesD el ec f (ts.dropWhile notEnd).tail r'
theorem tw_dw (ts : List Tok) : ts = ts.takeWhile notEnd ++ ts.dropWhile notEnd := (List.takeWhile_append_dropWhile).symm
theorem linesR_D (ts : List Tok) (el ec : Int) : ∀ (f a : Nat) (r : Rd), linesR ts el ec f a r = linesD el ec f (ts.drop a) r := by
  intro f
  induction f with
  | zero => intro a r; rfl
  | succ f ih =>
    intro a r
    by_cases ha : a < ts.length
    · have hne : ts.drop a ≠ [] := by
        intro q
        have := congrArg List.length q
        rw [List.length_drop] at this
        simp at this; omega
      obtain ⟨n, hn⟩ : ∃ n, n = T.lineN (ts.drop a) := ⟨_, rfl⟩
      have hnl : n = ((ts.drop a).takeWhile notEnd).length := hn
      have hd : ts.drop a = (ts.drop a).takeWhile notEnd ++ (ts.drop a).dropWhile notEnd := tw_dw _
      have hrow : rowAt ts a = (ts.drop a).takeWhile notEnd := by
        unfold rowAt
        rw [← hn, List.drop_take, show a + n - a = n by omega]
        conv => lhs; rw [hd]
        rw [hnl, List.take_left]
      have hdw : ts.drop (a + n) = (ts.drop a).dropWhile notEnd := by
        rw [← List.drop_drop]
        conv => lhs; rw [hd]
        rw [hnl, List.drop_left]
      have hbeh : behAt ts el ec (a + n) = behAt ((ts.drop a).dropWhile notEnd) el ec 0 := by
        unfold behAt
        rw [← hdw, List.getElem?_drop, Nat.add_zero]
      have hnext : ts.drop (nextAt ts a) = ((ts.drop a).dropWhile notEnd).tail := by
        unfold nextAt
        rw [← hn, ← hdw, List.tail_drop]
        split
        · rfl
        · rw [List.drop_length, List.drop_of_length_le (by omega)]
      rw [linesD, if_neg hne, ← hrow, ← hbeh, ← hnext]
      have hrl : (rowAt ts a).length = n := by rw [hrow, hnl]
      cases hr : rowAt ts a with
      | nil => rw [linesR_nil ha hr]; exact ih _ _
      | cons t0 rest =>
        have hl : a + (rest.length + 1) = a + n := by rw [hr] at hrl; simp at hrl; omega
        rw [linesR_cons ha hr, hl]
        unfold lineR
        simp only
        cases hle : lineErr (t0 :: rest) (behAt ts el ec (a + n)).1 (behAt ts el ec (a + n)).2 with
        | some e => rfl
        | none =>
          simp only
          cases hok : (addR r t0 rest).2 with
          | true => simp only [if_true]; exact ih _ _
          | false => rfl
    · have hne : ts.drop a = [] := List.drop_of_length_le (by omega)
      rw [linesR, if_neg ha, linesD, if_pos hne]
theorem linesD_row (el ec : Int) (f : Nat) (row more : List Tok) (e : Tok) (r : Rd) (hr : ∀ t ∈ row, t.kind ≠ 3) (he : e.kind = 3) : linesD el ec (f + 1) (row ++ e :: more) r = match lineR r row e.line e.col with
    | (r', some e) => (r', some e)
    | (r', none) => linesD el ec f more r' := by
  have h1 : ∀ t ∈ row, notEnd t = true := fun t ht => by unfold notEnd; simp [hr t ht]
  have h2 : notEnd e = false := by unfold notEnd; simp [he]
  have htw : (row ++ e :: more).takeWhile notEnd = row := by
    rw [List.takeWhile_append_of_pos h1, List.takeWhile_cons, h2]; simp
  have hdw : (row ++ e :: more).dropWhile notEnd = e :: more := by
    rw [List.dropWhile_append_of_pos h1, List.dropWhile_cons, h2]; simp
  rw [linesD, if_neg (by simp), htw, hdw]
  rfl
def joinL (L : List (List UInt8)) : List UInt8 := L.flatMap fun b => b ++ [10]
def goodB (b : List UInt8) : Prop := no10 b ∧ ∀ ln, (lexT b ln 1).code = 0
def toksL : List (List UInt8) → Int → List Tok
  | [], _ => []
  | b :: bs, ln => (lexT b ln 1).ts ++ ⟨3, 0, ln, (lexT b ln 1).col, []⟩ :: toksL bs (ln + 1)
def foldS : List (List UInt8) → Int → Rd → Rd × Option (Int × Int)
  | [], _, r => (r, none)
  | b :: bs, ln, r => match lineR r (lexT b ln 1).ts ln (lexT b ln 1).col with
    | (r', some e) => (r', some e)
    | (r', none) => foldS bs (ln + 1) r'
theorem lex_nil (ln col : Int) : lexT [] ln col = ⟨[], ln, col, 0⟩ := by
  unfold lexT T.allL
  simp [T.nextV, T.nextV', T.skipL]
theorem lex_join : ∀ (L : List (List UInt8)) (ln : Int), (∀ b ∈ L, goodB b) → lexT (joinL L) ln 1 = ⟨toksL L ln, ln + L.length, 1, 0⟩ := by
  intro L
  induction L with
  | nil => intro ln _; show lexT [] ln 1 = _; rw [lex_nil]; simp [toksL]
  | cons b bs ih =>
    intro ln h
    obtain ⟨h1, h2⟩ := h b List.mem_cons_self
    have e : joinL (b :: bs) = b ++ 10 :: joinL bs := by simp [joinL]
    obtain ⟨c1, _, _⟩ := T.lexT_cat (joinL bs) (b.length + 1) b ln 1 (by omega) h1
    rw [e, c1, if_pos (h2 ln), ih (ln + 1) (fun b hb => h b (List.mem_cons_of_mem _ hb))]
    simp only [toksL, List.length_cons]
    congr 1
    omega
theorem fold_lines (el ec : Int) : ∀ (L : List (List UInt8)) (ln : Int) (r : Rd) (f : Nat), (∀ b ∈ L, goodB b) → L.length < f → linesD el ec f (toksL L ln) r = foldS L ln r := by
  intro L
  induction L with
  | nil =>
    intro ln r f _ hf
    obtain ⟨f, rfl⟩ : ∃ k, f = k + 1 := ⟨f - 1, by omega⟩
    rw [linesD, if_pos (show toksL [] ln = [] from rfl), foldS]
  | cons b bs ih =>
    intro ln r f h hf
    obtain ⟨f, rfl⟩ : ∃ k, f = k + 1 := ⟨f - 1, by omega⟩
    obtain ⟨h1, h2⟩ := h b List.mem_cons_self
    obtain ⟨_, _, c3⟩ := T.lexT_cat [] (b.length + 1) b ln 1 (by omega) h1
    rw [toksL, linesD_row el ec f _ _ _ r c3 rfl, foldS]
    simp only
    cases hl : lineR r (lexT b ln 1).ts ln (lexT b ln 1).col with
    | mk r' o =>
      cases o with
      | some e => rfl
      | none => exact ih _ _ _ (fun b hb => h b (List.mem_cons_of_mem _ hb)) (by simp at hf; omega)
theorem toks_len : ∀ (L : List (List UInt8)) (ln : Int), L.length ≤ (toksL L ln).length := by
  intro L
  induction L with
  | nil => intro ln; simp
  | cons b bs ih => intro ln; have := ih (ln + 1); simp [toksL]; omega
theorem parO_join (L : List (List UInt8)) (h : ∀ b ∈ L, goodB b) : parO (joinL L) = match foldS L 1 rd0 with
    | (_, some e) => (some e, ⟨[], 0, 0, [], []⟩)
    | (r, none) => match wholeR r (1 + L.length) 1 with
      | (_, some e) => (some e, ⟨[], 0, 0, [], []⟩)
      | (ks, none) => (none, venOf r ks) := by
  have hx : allV (joinL L) = ⟨toksL L 1, 1 + L.length, 1, 0⟩ := by rw [T.lexT_all, lex_join L 1 h]
  unfold parO
  rw [hx]
  simp only
  rw [if_neg (by simp), linesR_D, List.drop_zero, fold_lines _ _ L 1 rd0 _ h (by have := toks_len L 1; omega)]
  generalize foldS L 1 rd0 = X
  obtain ⟨r, o⟩ := X
  cases o with
  | some e => rfl
  | none =>
    simp only
    generalize wholeR r (1 + L.length) 1 = Y
    obtain ⟨ks, o⟩ := Y
    cases o <;> rfl
/-- the reader, a line and then more -/
theorem foldS_ok {b : List UInt8} {bs : List (List UInt8)} {ln : Int} {r r' : Rd} (h : lineR r (lexT b ln 1).ts ln (lexT b ln 1).col = (r', none)) : foldS (b :: bs) ln r = foldS bs (ln + 1) r' := by rw [foldS, h]
theorem foldS_bad {b : List UInt8} {bs : List (List UInt8)} {ln : Int} {r r' : Rd} {e : Int × Int} (h : lineR r (lexT b ln 1).ts ln (lexT b ln 1).col = (r', some e)) : foldS (b :: bs) ln r = (r', some e) := by rw [foldS, h]
theorem foldS_app : ∀ (A B : List (List UInt8)) (ln : Int) (r r' : Rd), foldS A ln r = (r', none) → foldS (A ++ B) ln r = foldS B (ln + A.length) r' := by
  intro A
  induction A with
  | nil => intro B ln r r' h; simp only [foldS, Prod.mk.injEq, and_true] at h; subst h; simp
  | cons b bs ih =>
    intro B ln r r' h
    rw [foldS] at h
    cases hl : lineR r (lexT b ln 1).ts ln (lexT b ln 1).col with
    | mk r1 o =>
      rw [hl] at h
      cases o with
      | some e => cases h
      | none =>
        simp only at h
        rw [List.cons_append, foldS_ok hl, ih B _ _ _ h]
        congr 1
        simp; omega
end Go.Proofs.Yph
/- The first wrong line: the plain law. -/
namespace Go.Proofs.Yph
open Go Go.Am
set_option maxRecDepth 20000
set_option maxHeartbeats 2000000
open T (Tok lexT no10 allV nextV)
open V (SeatR PoleR VenR)
theorem lex_code : ∀ (n : Nat) (b : List UInt8) (ln col ln' col' : Int), b.length < n → (lexT b ln col).code = (lexT b ln' col').code := by
  intro n
  induction n with
  | zero => intro b ln col ln' col' h; omega
  | succ n ih =>
    intro b ln col ln' col' hn
    rw [T.lexT_next b ln col, T.lexT_next b ln' col']
    have h1 := T.nextV_to b ln col
    have h2 := T.nextV_to b ln' col'
    have e1 : (nextV b 0 ln col).code = (nextV b 0 ln' col').code := by rw [h1.2, h2.2]
    have e2 : (nextV b 0 ln col).to = (nextV b 0 ln' col').to := by rw [h1.1, h2.1]
    rw [← e1, ← e2]
    by_cases h0 : (nextV b 0 ln col).code = 0
    · have hs := T.nextV_step h0
      have hl : (b.drop (nextV b 0 ln col).to).length = b.length - (nextV b 0 ln col).to := List.length_drop
      simp only [h0, if_true]
      exact ih _ _ _ _ _ (by omega)
    · simp only [h0, if_false]
      split <;> rfl
def goodC (b : List UInt8) : Bool := b.all (fun c => decide (c.toNat ≠ 10)) && decide ((lexT b 1 1).code = 0)
theorem goodB_of {b : List UInt8} (h : goodC b = true) : goodB b := by
  unfold goodC at h
  rw [Bool.and_eq_true, List.all_eq_true, decide_eq_true_eq] at h
  refine ⟨fun c hc => by simpa using h.1 c hc, fun ln => ?_⟩
  rw [lex_code (b.length + 1) b ln 1 1 1 (by omega)]
  exact h.2
theorem foldS_stop : ∀ (A B : List (List UInt8)) (ln : Int) (r r' : Rd) (e : Int × Int), foldS A ln r = (r', some e) → foldS (A ++ B) ln r = (r', some e) := by
  intro A
  induction A with
  | nil => intro B ln r r' e h; simp [foldS] at h
  | cons b bs ih =>
    intro B ln r r' e h
    rw [foldS] at h
    cases hl : lineR r (lexT b ln 1).ts ln (lexT b ln 1).col with
    | mk r1 o =>
      rw [hl] at h
      cases o with
      | some e2 =>
        simp only at h
        rw [List.cons_append, foldS_bad hl]
        exact h
      | none =>
        simp only at h
        rw [List.cons_append, foldS_ok hl]
        exact ih _ _ _ _ _ h
theorem check_bad {L : List (List UInt8)} (h : ∀ b ∈ L, goodB b) {r : Rd} {e : Int × Int} (hf : foldS L 1 rd0 = (r, some e)) : (parO (joinL L)).1 = some e := by
  rw [parO_join L h, hf]
def digB : List UInt8 := [48, 49, 50, 51, 52, 53, 54, 55, 56, 57]
def sdB (c i : Nat) : List UInt8 := [115, 101, 97, 116, 32, 48 + UInt8.ofNat c, 32] ++ ((digB.take (i + 1)).drop i ++ [32, 48])
def gapL : List UInt8 := [103, 97, 112, 32, 49, 48]
def seatL : List UInt8 := [115, 101, 97, 116, 32, 48, 32, 48, 32, 48]
def qL : List UInt8 := [113]
def wrongs : List (List UInt8) := [[99, 104, 97, 105, 114, 32, 49, 32, 49, 32, 49], [103, 97, 112, 32, 49, 48], [115, 101, 97, 116, 32, 48, 32, 48, 32, 48], [115, 101, 97, 116, 32, 49], [115, 101, 97, 116, 32, 49, 32, 120, 32, 50], [115, 101, 97, 116, 32, 49, 32, 49, 32, 49, 32, 49], [115, 101, 97, 116, 32, 45, 49, 32, 48, 32, 48], [114, 97, 100, 105, 117, 115, 32, 48, 32, 48], [112, 111, 108, 101, 32, 49, 32, 49, 32, 48], [53]]
def colsF : List Int := [1, 1, 1, 7, 8, 12, 6, 10, 10, 1]
def preF (k : Nat) : List (List UInt8) := gapL :: seatL :: (List.range k).map (sdB 2)
def sufF (m : Nat) : List (List UInt8) := (List.range m).flatMap fun i => [sdB 3 i, qL]
theorem first_all : ((List.range 11).all fun k => (List.range 10).all fun w => decide ((foldS (preF k ++ [wrongs.getD w []]) 1 rd0).2 = some ((k : Int) + 3, colsF.getD w 0))) = true := by kernel_rfl
theorem good_all : (goodC gapL && goodC seatL && goodC qL && (List.range 10).all (fun i => goodC (sdB 2 i)) && (List.range 10).all (fun i => goodC (sdB 3 i)) && wrongs.all goodC) = true := by kernel_rfl
theorem first_law {k w m : Nat} (hk : k ≤ 10) (hw : w < 10) (hm : m ≤ 5) : checkV (joinL (preF k ++ [wrongs.getD w []] ++ sufF m)) = (2, (k : Int) + 3, colsF.getD w 0) := by
  have h1 := first_all
  rw [List.all_eq_true] at h1
  have h2 := h1 k (List.mem_range.2 (by omega))
  rw [List.all_eq_true] at h2
  have h3 := h2 w (List.mem_range.2 hw)
  rw [decide_eq_true_eq] at h3
  obtain ⟨X, hX⟩ : ∃ X, X = foldS (preF k ++ [wrongs.getD w []]) 1 rd0 := ⟨_, rfl⟩
  rw [← hX] at h3
  obtain ⟨r, o⟩ := X
  simp only at h3
  subst h3
  have hst := foldS_stop _ (sufF m) _ _ _ _ hX.symm
  have g := good_all
  simp only [Bool.and_eq_true, List.all_eq_true, List.mem_range] at g
  obtain ⟨⟨⟨⟨⟨g1, g2⟩, g3⟩, g4⟩, g5⟩, g6⟩ := g
  have hg : ∀ b ∈ preF k ++ [wrongs.getD w []] ++ sufF m, goodB b := by
    intro b hb
    apply goodB_of
    rcases List.mem_append.1 hb with hb | hb
    · rcases List.mem_append.1 hb with hb | hb
      · unfold preF at hb
        rcases List.mem_cons.1 hb with rfl | hb
        · exact g1
        rcases List.mem_cons.1 hb with rfl | hb
        · exact g2
        obtain ⟨i, hi, rfl⟩ := List.mem_map.1 hb
        exact g4 i (by have := List.mem_range.1 hi; omega)
      · obtain rfl := List.mem_singleton.1 hb
        apply g6
        rw [List.getD_eq_getElem?_getD, List.getElem?_eq_getElem (show w < wrongs.length from hw)]
        exact List.getElem_mem _
    · unfold sufF at hb
      obtain ⟨i, hi, hb⟩ := List.mem_flatMap.1 hb
      have := List.mem_range.1 hi
      rcases List.mem_cons.1 hb with rfl | hb
      · exact g5 i (by omega)
      · obtain rfl := List.mem_singleton.1 hb
        exact g3
  unfold checkV
  rw [check_bad hg hst]
end Go.Proofs.Yph
/- The tokens of a printed line: the plain law. -/
namespace Go.Proofs.Yph.T
open Go Go.Am
set_option maxRecDepth 20000
set_option maxHeartbeats 2000000
/-- what ends a token: nothing, or a blank -/
def sepH (d : List UInt8) : Prop := d = [] ∨ ∃ c r, d = c :: r ∧ kindV c.toNat = 1
theorem skipL_rep (m : Nat) (l : List UInt8) (h : skipL false l = 0) : skipL false (List.replicate m 32 ++ l) = m := by
  induction m with
  | zero => simpa using h
  | succ m ih => rw [List.replicate_succ, List.cons_append, skipL, if_pos (by decide), ih]
theorem runL_word (k : Nat) (hk1 : k ≠ 1) : ∀ (w d : List UInt8), (∀ c ∈ w, kindV c.toNat = k) → sepH d → runL k (w ++ d) = w.length := by
  intro w
  induction w with
  | nil =>
    intro d _ hd
    rcases hd with rfl | ⟨c, r, rfl, hc⟩
    · rfl
    · rw [List.nil_append, runL, if_neg (by omega)]; rfl
  | cons a w ih =>
    intro d h hd
    rw [List.cons_append, runL, if_pos (h a List.mem_cons_self), ih d (fun c hc => h c (List.mem_cons_of_mem _ hc)) hd]
    rfl
theorem rep_get (m : Nat) (w d : List UInt8) (j : Nat) : (List.replicate m (32 : UInt8) ++ (w ++ d))[m + j]? = (w ++ d)[j]? := by
  rw [List.getElem?_append_right (by simp)]; simp
theorem rep_drop (m : Nat) (l : List UInt8) : (List.replicate m (32 : UInt8) ++ l).drop m = l := by
  rw [List.drop_append]; simp
theorem rep_take (m : Nat) (w d : List UInt8) : ((List.replicate m (32 : UInt8) ++ (w ++ d)).take (m + w.length)).drop m = w := by
  rw [List.drop_take, rep_drop, show m + w.length - m = w.length by omega, List.take_left]
theorem sep_end {w d : List UInt8} (hd : sepH d) : ∀ c, (w ++ d)[w.length]? = some c → kindV c.toNat = 1 := by
  intro c hc
  rcases hd with rfl | ⟨x, y, rfl, hx⟩
  · rw [List.append_nil, List.getElem?_eq_none (Nat.le_refl _)] at hc; cases hc
  · rw [List.getElem?_append_right (Nat.le_refl _)] at hc
    simp at hc; subst hc; exact hx
theorem nextV_word (m : Nat) (w d : List UInt8) (hw : w ≠ []) (hk : ∀ c ∈ w, kindV c.toNat = 4) (hd : sepH d) (ln col : Int) :
    nextV (List.replicate m 32 ++ (w ++ d)) 0 ln col = ⟨⟨1, 0, ln, col + m, w⟩, m + w.length, ln, col + m + w.length, 0⟩ := by
  obtain ⟨c, r, hcr⟩ := List.exists_cons_of_ne_nil hw
  have hc := hk c (by rw [hcr]; exact List.mem_cons_self)
  have hr := runL_word 4 (by decide) w d hk hd
  have hsk : skipL false (List.replicate m 32 ++ (w ++ d)) = m := skipL_rep m _ (by rw [hcr, List.cons_append, skipL, if_neg (by omega), if_neg (by omega)])
  have hg : (List.replicate m (32 : UInt8) ++ (w ++ d))[m]? = some c := by have := rep_get m w d 0; rw [Nat.add_zero] at this; rw [this, hcr]; rfl
  have he : endOk (List.replicate m (32 : UInt8) ++ (w ++ d)) (m + w.length) = true := by
    unfold endOk
    rw [rep_get]
    cases hx : (w ++ d)[w.length]? with
    | none => rfl
    | some x =>
      have := sep_end hd x hx
      simp only
      rw [this]; rfl
  unfold nextV nextV'
  rw [List.drop_zero, hsk, Nat.zero_add, hg]
  dsimp only
  rw [if_neg (by omega), if_pos hc, rep_drop, hr, if_pos he, rep_take]
  congr 1
  · congr 1; omega
  · omega
/-- digits -/
theorem dig_nat {m : Nat} (h : m < 10) : (UInt8.ofNat (48 + m)).toNat = 48 + m := by simp; omega
theorem dec_kind (n : Nat) : ∀ c ∈ Lib.decDigits n, kindV c.toNat = 5 := by
  induction n using Nat.strongRecOn with
  | ind n ih =>
    intro c hc
    by_cases h10 : n < 10
    · rw [F.dec_small h10] at hc
      obtain rfl := List.mem_singleton.1 hc
      rw [dig_nat h10, kind_digit]; omega
    · rw [F.dec_big h10] at hc
      rcases List.mem_append.mp hc with hc | hc
      · exact ih _ (by omega) c hc
      · obtain rfl := List.mem_singleton.1 hc
        have hm : n % 10 < 10 := by omega
        rw [dig_nat hm, kind_digit]; omega
theorem dec_ne (n : Nat) : Lib.decDigits n ≠ [] := by
  by_cases h10 : n < 10
  · rw [F.dec_small h10]; simp
  · rw [F.dec_big h10]; simp
theorem numL_append (l : List UInt8) (c : UInt8) : ∀ v, numL v (l ++ [c]) = capN (numL v l) (c.toNat - 48) := by
  induction l with
  | nil => intro v; rw [List.nil_append, numL_cons, numL_nil, numL_nil]
  | cons a r ih => intro v; rw [List.cons_append, numL_cons, numL_cons, ih]
theorem numL_dec (n : Nat) : n ≤ 2147483647 → numL 0 (Lib.decDigits n) = n := by
  induction n using Nat.strongRecOn with
  | ind n ih =>
    intro hn
    by_cases h10 : n < 10
    · rw [F.dec_small h10, numL_cons, numL_nil, capN_eq, dig_nat h10]
      rw [if_neg (by omega)]; omega
    · rw [F.dec_big h10, numL_append, ih _ (by omega) (by omega), capN_eq, dig_nat (by omega)]
      rw [if_neg (by omega)]; omega
theorem nextV_dec (m n : Nat) (hn : n ≤ 2147483647) (d : List UInt8) (hd : sepH d) (ln col : Int) :
    nextV (List.replicate m 32 ++ (Lib.decDigits n ++ d)) 0 ln col = ⟨⟨2, n, ln, col + m, Lib.decDigits n⟩, m + (Lib.decDigits n).length, ln, col + m + (Lib.decDigits n).length, 0⟩ := by
  obtain ⟨w, hw⟩ : ∃ w, w = Lib.decDigits n := ⟨_, rfl⟩
  have hne := dec_ne n
  have hk := dec_kind n
  have hnum := numL_dec n hn
  rw [← hw] at hne hk hnum ⊢
  obtain ⟨c, r, hcr⟩ := List.exists_cons_of_ne_nil hne
  have hc := hk c (by rw [hcr]; exact List.mem_cons_self)
  have hr := runL_word 5 (by decide) w d hk hd
  have hsk : skipL false (List.replicate m 32 ++ (w ++ d)) = m := skipL_rep m _ (by rw [hcr, List.cons_append, skipL, if_neg (by omega), if_neg (by omega)])
  have hg : (List.replicate m (32 : UInt8) ++ (w ++ d))[m]? = some c := by have := rep_get m w d 0; rw [Nat.add_zero] at this; rw [this, hcr]; rfl
  obtain ⟨l, hl⟩ : ∃ l, l = List.replicate m (32 : UInt8) ++ (w ++ d) := ⟨_, rfl⟩
  have hM : numM l m = 0 := by
    unfold numM
    rw [hl, List.getD_eq_getElem?_getD, hg, Option.getD_some, if_neg]
    rw [kind_digit] at hc; omega
  have hT : numT l m = w.length := by unfold numT; rw [hM, Nat.add_zero, hl, rep_drop, hr]
  have hN : numN l m = (n : Int) := by
    unfold numN
    rw [hM, hT, Nat.add_zero, hl, rep_drop, List.take_left, hnum]
    simp
  have hlen : 0 < w.length := by rw [hcr]; simp
  have hnumV : numV l m = ⟨n, m + w.length, true⟩ := by
    unfold numV numV'
    rw [hM, hT, hN, if_neg (by omega), Nat.add_zero, hl, rep_get]
    cases hx : (w ++ d)[w.length]? with
    | none => rfl
    | some x =>
      have := sep_end hd x hx
      simp only
      rw [this]; rfl
  unfold nextV nextV'
  rw [List.drop_zero, hsk, Nat.zero_add, hg]
  dsimp only
  rw [if_neg (by omega), if_neg (by omega), if_pos (Or.inr hc), ← hl, hnumV, if_pos rfl]
  dsimp only
  rw [hl, rep_take]
  congr 1
  · congr 1; omega
  · omega
/-- numbers, each behind a blank -/
def numsB : List Int → List UInt8
  | [] => []
  | n :: r => 32 :: (Lib.itoa n ++ numsB r)
def numToks : List Int → Int → Int → List Tok
  | [], _, _ => []
  | n :: r, ln, col => ⟨2, n, ln, col + 1, Lib.itoa n⟩ :: numToks r ln (col + 1 + (Lib.itoa n).length)
theorem numsB_sep {ns : List Int} {d : List UInt8} (hd : sepH d) : sepH (numsB ns ++ d) := by
  cases ns with
  | nil => exact hd
  | cons n r => exact .inr ⟨32, _, rfl, by decide⟩
theorem itoa_nat {n : Int} (h : 0 ≤ n) : Lib.itoa n = Lib.decDigits n.toNat := by unfold Lib.itoa; rw [if_neg (by omega)]
/-- nothing but blanks and remarks -/
def quiet (d : List UInt8) : Prop := sepH d ∧ ∀ ln col, (lexT d ln col).ts = [] ∧ (lexT d ln col).code = 0
theorem lex_nums (d : List UInt8) (hq : quiet d) : ∀ (ns : List Int) (ln col : Int), (∀ n ∈ ns, 0 ≤ n ∧ n ≤ 2147483647) →
    (lexT (numsB ns ++ d) ln col).ts = numToks ns ln col ∧ (lexT (numsB ns ++ d) ln col).code = 0 := by
  intro ns
  induction ns with
  | nil => intro ln col _; exact hq.2 ln col
  | cons n r ih =>
    intro ln col h
    have hn := h n List.mem_cons_self
    have e : numsB (n :: r) ++ d = List.replicate 1 32 ++ (Lib.decDigits n.toNat ++ (numsB r ++ d)) := by
      show 32 :: (Lib.itoa n ++ numsB r) ++ d = _
      rw [itoa_nat hn.1]; simp
    have hx := nextV_dec 1 n.toNat (by omega) (numsB r ++ d) (numsB_sep hq.1) ln col
    have hdr : (List.replicate 1 (32 : UInt8) ++ (Lib.decDigits n.toNat ++ (numsB r ++ d))).drop (1 + (Lib.decDigits n.toNat).length) = numsB r ++ d := by
      rw [← List.drop_drop, rep_drop, List.drop_left]
    obtain ⟨i1, i2⟩ := ih ln (col + 1 + (Lib.decDigits n.toNat).length) (fun n hn => h n (List.mem_cons_of_mem _ hn))
    rw [e, lexT_next, hx]
    dsimp only
    rw [if_pos rfl, hdr]
    dsimp only
    refine ⟨?_, i2⟩
    rw [show col + ((1 : Nat) : Int) = col + 1 from rfl, i1]
    show _ = (⟨2, n, ln, col + 1, Lib.itoa n⟩ : Tok) :: numToks r ln (col + 1 + (Lib.itoa n).length)
    rw [itoa_nat hn.1, Int.toNat_of_nonneg hn.1]
theorem lex_line (m : Nat) (w : List UInt8) (ns : List Int) (d : List UInt8) (hw : w ≠ []) (hk : ∀ c ∈ w, kindV c.toNat = 4) (hq : quiet d) (hn : ∀ n ∈ ns, 0 ≤ n ∧ n ≤ 2147483647) (ln col : Int) :
    (lexT (List.replicate m 32 ++ (w ++ (numsB ns ++ d))) ln col).ts = ⟨1, 0, ln, col + m, w⟩ :: numToks ns ln (col + m + w.length) ∧ (lexT (List.replicate m 32 ++ (w ++ (numsB ns ++ d))) ln col).code = 0 := by
  have hx := nextV_word m w (numsB ns ++ d) hw hk (numsB_sep hq.1) ln col
  have hdr : (List.replicate m (32 : UInt8) ++ (w ++ (numsB ns ++ d))).drop (m + w.length) = numsB ns ++ d := by
    rw [← List.drop_drop, rep_drop, List.drop_left]
  obtain ⟨i1, i2⟩ := lex_nums d hq ns ln (col + m + w.length) hn
  rw [lexT_next, hx]
  dsimp only
  rw [if_pos rfl, hdr]
  dsimp only
  exact ⟨by rw [i1], i2⟩
theorem quiet_nil : quiet [] := ⟨.inl rfl, fun ln col => by rw [lex_nil]; exact ⟨rfl, rfl⟩⟩
def tailB : List UInt8 := [9, 35, 32, 108, 105, 110, 101, 13]
theorem quiet_rem (d : List UInt8) (h : skipL false d = d.length) (hs : sepH d) : quiet d := by
  refine ⟨hs, fun ln col => ?_⟩
  have hx : nextV d 0 ln col = ⟨zTok, d.length, ln, col + d.length - (0 : Nat), 4⟩ := by
    unfold nextV nextV'
    rw [List.drop_zero, h, Nat.zero_add, List.getElem?_eq_none (Nat.le_refl _)]
  rw [lexT_next, hx]
  simp
theorem quiet_tail : quiet tailB := quiet_rem _ (by kernel_rfl) (.inr ⟨9, _, rfl, by decide⟩)
end Go.Proofs.Yph.T
/- Printed lines are read as they were: the plain law. -/
namespace Go.Proofs.Yph
open Go Go.Am
set_option maxRecDepth 20000
set_option maxHeartbeats 4000000
open T (Tok lexT no10 allV numsB numToks quiet lex_line)
open V (SeatR PoleR VenR seatOK poleOK inB lessS SortedS Ri killedL findA atS mayV)
inductive Ln where
  | gap (g : Int)
  | rad (g : Int)
  | seat (s : SeatR)
  | kill (row x : Int)
  | pole (p : PoleR)
def wordK (k : Int) : List UInt8 := if k = 0 then wSeat else if k = 1 then wWheel else if k = 2 then wComp else [63]
def Ln.word : Ln → List UInt8
  | .gap _ => wGap
  | .rad _ => wRad
  | .seat s => wordK s.kind
  | .kill _ _ => wKill
  | .pole _ => wPole
def Ln.nums : Ln → List Int
  | .gap g => [g]
  | .rad g => [g]
  | .seat s => [s.row, s.x, s.y]
  | .kill a b => [a, b]
  | .pole p => [p.x, p.y, p.r]
def Ln.bytes (l : Ln) : List UInt8 := l.word ++ numsB l.nums
def Ln.ok : Ln → Prop
  | .gap g => 1 ≤ g ∧ g ≤ 1048576
  | .rad g => 0 ≤ g ∧ g ≤ 1048576
  | .seat s => 0 ≤ s.row ∧ s.row ≤ 999 ∧ 0 ≤ s.x ∧ s.x ≤ 1048576 ∧ 0 ≤ s.y ∧ s.y ≤ 1048576 ∧ 0 ≤ s.kind ∧ s.kind ≤ 2
  | .kill a b => 0 ≤ a ∧ a ≤ 999 ∧ 0 ≤ b ∧ b ≤ 1048576
  | .pole p => 0 ≤ p.x ∧ p.x ≤ 1048576 ∧ 0 ≤ p.y ∧ p.y ≤ 1048576 ∧ 1 ≤ p.r ∧ p.r ≤ 1048576
def gapO : Ln → Option Int
  | .gap g => some g
  | _ => none
def radO : Ln → Option Int
  | .rad g => some g
  | _ => none
def seatO : Ln → Option SeatR
  | .seat s => some s
  | _ => none
def killO : Ln → Option (Int × Int)
  | .kill a b => some (a, b)
  | _ => none
def poleO : Ln → Option PoleR
  | .pole p => some p
  | _ => none
def gapsOf (L : List Ln) : List Int := L.filterMap gapO
def radsOf (L : List Ln) : List Int := L.filterMap radO
def seatsOf (L : List Ln) : List SeatR := L.filterMap seatO
def killsOf (L : List Ln) : List (Int × Int) := L.filterMap killO
def polesOf (L : List Ln) : List PoleR := L.filterMap poleO
/-- the reader behind some lines -/
structure RL (P : List Ln) (r : Rd) : Prop where
  seats : r.seats = seatsOf P
  gap : r.gap = (gapsOf P).getD 0 0
  rad : r.rad = decide (radsOf P ≠ [])
  radius : r.radius = (radsOf P).getD 0 0
  kills : r.kills.map (fun k => (k.row, k.x)) = killsOf P
  poles : r.poles = polesOf P
structure Glob (A : List Ln) : Prop where
  ok : ∀ l ∈ A, l.ok
  gaps : (gapsOf A).length ≤ 1
  rads : (radsOf A).length ≤ 1
  dist : (seatsOf A).Pairwise (fun a b => ¬ (a.row = b.row ∧ a.x = b.x))
  seats : (seatsOf A).length ≤ 4096
  kills : (killsOf A).length ≤ 200
  poles : (polesOf A).length ≤ 200
theorem rl0 : RL [] rd0 := ⟨rfl, rfl, rfl, rfl, rfl, rfl⟩
theorem kind_wordK {k : Int} (h : 0 ≤ k ∧ k ≤ 2) : kindW (wordK k) = k ∧ (wordK k = wSeat ∨ wordK k = wWheel ∨ wordK k = wComp) := by
  rcases (by omega : k = 0 ∨ k = 1 ∨ k = 2) with rfl | rfl | rfl <;> exact ⟨by decide, by decide⟩
theorem word_kind (l : Ln) (h : l.ok) : l.word ≠ [] ∧ ∀ c ∈ l.word, T.kindV c.toNat = 4 := by
  cases l with
  | gap g => exact ⟨by simp [Ln.word, wGap], by show ∀ c ∈ wGap, _; decide⟩
  | rad g => exact ⟨by simp [Ln.word, wRad], by show ∀ c ∈ wRad, _; decide⟩
  | kill a b => exact ⟨by simp [Ln.word, wKill], by show ∀ c ∈ wKill, _; decide⟩
  | pole p => exact ⟨by simp [Ln.word, wPole], by show ∀ c ∈ wPole, _; decide⟩
  | seat s =>
    obtain ⟨_, _, _, _, _, _, h1, h2⟩ := h
    show wordK s.kind ≠ [] ∧ ∀ c ∈ wordK s.kind, _
    rcases (by omega : s.kind = 0 ∨ s.kind = 1 ∨ s.kind = 2) with q | q | q <;> rw [q] <;> exact ⟨by decide, by decide⟩
theorem nums_ok (l : Ln) (h : l.ok) : ∀ n ∈ l.nums, 0 ≤ n ∧ n ≤ 2147483647 := by
  cases l <;> simp only [Ln.ok] at h <;> intro n hn <;> simp only [Ln.nums, List.mem_cons, List.not_mem_nil, or_false] at hn <;> omega
theorem getD_app_nil {α : Type} {l : List α} {a z : α} (h : l = []) : (l ++ [a]).getD 0 z = a := by rw [h]; rfl
theorem may94 {n : Int} (h : 1 ≤ n ∧ n ≤ 1048576) : mayF 94 n = true := by simp [mayF, inB]; omega
theorem may93 {n : Int} (h : 0 ≤ n ∧ n ≤ 1048576) : mayF 93 n = true := by simp [mayF, inB]; omega
theorem may95 {n : Int} (h : 0 ≤ n ∧ n ≤ 999) : mayF 95 n = true := by simp [mayF, inB]; omega
theorem may96 {n : Int} (h : 0 ≤ n ∧ n ≤ 1048576) : mayF 96 n = true := by simp [mayF, inB]; omega
theorem placeF_free {row x : Int} : ∀ {l : List SeatR} {i : Nat}, (∀ s ∈ l, ¬ (s.row = row ∧ s.x = x)) → placeF row x l i = none := by
  intro l
  induction l with
  | nil => intro i _; rfl
  | cons a r ih =>
    intro i h
    rw [placeF, if_neg (h a List.mem_cons_self), ih (fun s hs => h s (List.mem_cons_of_mem _ hs))]
theorem gaps_app (P : List Ln) (l : Ln) (h : gapO l = none) : gapsOf (P ++ [l]) = gapsOf P := by
  unfold gapsOf; rw [List.filterMap_append]; simp [List.filterMap_cons, h]
theorem rads_app (P : List Ln) (l : Ln) (h : radO l = none) : radsOf (P ++ [l]) = radsOf P := by
  unfold radsOf; rw [List.filterMap_append]; simp [List.filterMap_cons, h]
theorem line_put (P : List Ln) (r : Rd) (l : Ln) (R : RL P r) (G : Glob (P ++ [l])) (m : Nat) (d : List UInt8) (hq : quiet d) (ln bl bc : Int) :
    ∃ r', lineR r (lexT (List.replicate m 32 ++ (l.bytes ++ d)) ln 1).ts bl bc = (r', none) ∧ RL (P ++ [l]) r' := by
  have hl := G.ok l (by simp)
  obtain ⟨w1, w2⟩ := word_kind l hl
  have hb : l.bytes ++ d = l.word ++ (numsB l.nums ++ d) := by unfold Ln.bytes; rw [List.append_assoc]
  rw [hb, (lex_line m l.word l.nums d w1 w2 hq (nums_ok l hl) ln 1).1]
  have hG1 := G.gaps
  have hG2 := G.rads
  have hG3 := G.dist
  have hG4 := G.seats
  have hG5 := G.kills
  have hG6 := G.poles
  obtain ⟨R1, R2, R3, R4, R5, R6⟩ := R
  cases l with
  | gap g =>
    simp only [Ln.ok] at hl
    have hP : gapsOf P = [] := by simpa [gapsOf, List.filterMap_append, gapO] using hG1
    have hle : lineErr (⟨1, 0, ln, 1 + m, wGap⟩ :: numToks [g] ln (1 + m + wGap.length)) bl bc = none := by
      simp [lineErr, wordB, numToks, numErr, numChk, numMay, may94 hl, show bnds wGap = some [94] from by decide]
    have hg : ¬ 0 < r.gap := by rw [R2, hP]; decide
    refine ⟨{ r with gap := g }, ?_, ⟨?_, ?_, ?_, ?_, ?_, ?_⟩⟩
    · show lineR r (⟨1, 0, ln, 1 + m, wGap⟩ :: numToks [g] ln (1 + m + wGap.length)) bl bc = _
      unfold lineR
      simp only
      rw [hle]
      simp [addR, hg, numToks]
    · simp [R1, seatsOf, seatO]
    · have : gapsOf (P ++ [.gap g]) = gapsOf P ++ [g] := by simp [gapsOf, gapO]
      rw [this, getD_app_nil hP]
    · rw [rads_app P _ rfl]; exact R3
    · rw [rads_app P _ rfl]; exact R4
    · simp [R5, killsOf, killO]
    · simp [R6, polesOf, poleO]
  | rad g =>
    simp only [Ln.ok] at hl
    have hP : radsOf P = [] := by simpa [radsOf, List.filterMap_append, radO] using hG2
    have hle : lineErr (⟨1, 0, ln, 1 + m, wRad⟩ :: numToks [g] ln (1 + m + wRad.length)) bl bc = none := by
      simp [lineErr, wordB, numToks, numErr, numChk, numMay, may93 hl, show bnds wRad = some [93] from by decide]
    have hg : r.rad = false := by rw [R3, hP]; decide
    have hw : ¬ wRad = wGap := by decide
    refine ⟨{ r with rad := true, radius := g }, ?_, ⟨?_, ?_, ?_, ?_, ?_, ?_⟩⟩
    · show lineR r (⟨1, 0, ln, 1 + m, wRad⟩ :: numToks [g] ln (1 + m + wRad.length)) bl bc = _
      unfold lineR
      simp only
      rw [hle]
      simp [addR, hg, hw, numToks]
    · simp [R1, seatsOf, seatO]
    · rw [gaps_app P _ rfl]; exact R2
    · simp [radsOf, radO]
    · have : radsOf (P ++ [.rad g]) = radsOf P ++ [g] := by simp [radsOf, radO]
      rw [this, getD_app_nil hP]
    · simp [R5, killsOf, killO]
    · simp [R6, polesOf, poleO]
  | kill a b =>
    simp only [Ln.ok] at hl
    have hle : lineErr (⟨1, 0, ln, 1 + m, wKill⟩ :: numToks [a, b] ln (1 + m + wKill.length)) bl bc = none := by
      simp [lineErr, wordB, numToks, numErr, numChk, numMay, may95 (n := a) (by omega), may96 (n := b) (by omega), show bnds wKill = some [95, 96] from by decide]
    have hw1 : ¬ wKill = wGap := by decide
    have hw2 : ¬ wKill = wRad := by decide
    have hk : r.kills.length + 1 ≤ 200 := by
      have e : killsOf (P ++ [.kill a b]) = killsOf P ++ [(a, b)] := by simp [killsOf, killO]
      rw [e, ← R5] at hG5
      simpa using hG5
    refine ⟨{ r with kills := r.kills ++ [⟨a, b, ln, 1 + m, ln, 1 + m + wKill.length + 1⟩] }, ?_, ⟨?_, ?_, ?_, ?_, ?_, ?_⟩⟩
    · show lineR r (⟨1, 0, ln, 1 + m, wKill⟩ :: numToks [a, b] ln (1 + m + wKill.length)) bl bc = _
      unfold lineR
      simp only
      rw [hle]
      simp [addR, hw1, hw2, numToks, hk]
    · simp [R1, seatsOf, seatO]
    · rw [gaps_app P _ rfl]; exact R2
    · rw [rads_app P _ rfl]; exact R3
    · rw [rads_app P _ rfl]; exact R4
    · have e : killsOf (P ++ [.kill a b]) = killsOf P ++ [(a, b)] := by simp [killsOf, killO]
      rw [e, ← R5]; simp
    · simp [R6, polesOf, poleO]
  | pole p =>
    simp only [Ln.ok] at hl
    have hle : lineErr (⟨1, 0, ln, 1 + m, wPole⟩ :: numToks [p.x, p.y, p.r] ln (1 + m + wPole.length)) bl bc = none := by
      simp [lineErr, wordB, numToks, numErr, numChk, numMay, may96 (n := p.x) (by omega), may96 (n := p.y) (by omega), may94 (n := p.r) (by omega), show bnds wPole = some [96, 96, 94] from by decide]
    have hw1 : ¬ wPole = wGap := by decide
    have hw2 : ¬ wPole = wRad := by decide
    have hw3 : ¬ wPole = wKill := by decide
    have hk : r.poles.length + 1 ≤ 200 := by
      have e : polesOf (P ++ [.pole p]) = polesOf P ++ [p] := by simp [polesOf, poleO]
      rw [e, ← R6] at hG6
      simpa using hG6
    refine ⟨{ r with poles := r.poles ++ [p] }, ?_, ⟨?_, ?_, ?_, ?_, ?_, ?_⟩⟩
    · show lineR r (⟨1, 0, ln, 1 + m, wPole⟩ :: numToks [p.x, p.y, p.r] ln (1 + m + wPole.length)) bl bc = _
      unfold lineR
      simp only
      rw [hle]
      simp [addR, hw1, hw2, hw3, numToks, hk]
    · simp [R1, seatsOf, seatO]
    · rw [gaps_app P _ rfl]; exact R2
    · rw [rads_app P _ rfl]; exact R3
    · rw [rads_app P _ rfl]; exact R4
    · simp [R5, killsOf, killO]
    · simp [R6, polesOf, poleO]
  | seat s =>
    simp only [Ln.ok] at hl
    obtain ⟨k1, k2⟩ := kind_wordK (k := s.kind) (by omega)
    obtain ⟨w, hw⟩ : ∃ w, w = wordK s.kind := ⟨_, rfl⟩
    rw [← hw] at k1 k2
    have z1 : ¬ w = wGap := by rcases k2 with q | q | q <;> rw [q] <;> decide
    have z2 : ¬ w = wRad := by rcases k2 with q | q | q <;> rw [q] <;> decide
    have z3 : ¬ w = wKill := by rcases k2 with q | q | q <;> rw [q] <;> decide
    have z4 : ¬ w = wPole := by rcases k2 with q | q | q <;> rw [q] <;> decide
    have hbw : bnds w = some [95, 96, 96] := by rw [bnds, if_pos k2]
    have hle : lineErr (⟨1, 0, ln, 1 + m, w⟩ :: numToks [s.row, s.x, s.y] ln (1 + m + w.length)) bl bc = none := by
      simp [lineErr, wordB, numToks, numErr, numChk, numMay, may95 (n := s.row) (by omega), may96 (n := s.x) (by omega), may96 (n := s.y) (by omega), hbw]
    have e : seatsOf (P ++ [.seat s]) = seatsOf P ++ [s] := by simp [seatsOf, seatO]
    have hk : r.seats.length + 1 ≤ 4096 := by
      rw [e, ← R1] at hG4
      simpa using hG4
    have hpl : placeAt r.seats s.row s.x = none := by
      refine placeF_free (fun t ht q => ?_)
      rw [e, List.pairwise_append] at hG3
      exact hG3.2.2 t (by rw [← R1]; exact ht) s (by simp) q
    refine ⟨{ r with seats := r.seats ++ [s] }, ?_, ⟨?_, ?_, ?_, ?_, ?_, ?_⟩⟩
    · show lineR r (⟨1, 0, ln, 1 + m, wordK s.kind⟩ :: numToks [s.row, s.x, s.y] ln (1 + m + (wordK s.kind).length)) bl bc = _
      rw [← hw]
      unfold lineR
      simp only
      rw [hle]
      simp [addR, z1, z2, z3, z4, numToks, hk, hpl, k1]
    · rw [e]; simp [R1]
    · rw [gaps_app P _ rfl]; exact R2
    · rw [rads_app P _ rfl]; exact R3
    · rw [rads_app P _ rfl]; exact R4
    · simp [R5, killsOf, killO]
    · simp [R6, polesOf, poleO]
theorem Glob.prefix {A B : List Ln} (G : Glob (A ++ B)) : Glob A := by
  have f : ∀ {α : Type} (g : Ln → Option α), (A.filterMap g).length ≤ ((A ++ B).filterMap g).length := fun g => by rw [List.filterMap_append, List.length_append]; omega
  refine ⟨fun l hl => G.ok l (List.mem_append_left _ hl), Nat.le_trans (f _) G.gaps, Nat.le_trans (f _) G.rads, ?_, Nat.le_trans (f _) G.seats, Nat.le_trans (f _) G.kills, Nat.le_trans (f _) G.poles⟩
  have := G.dist
  unfold seatsOf at this ⊢
  rw [List.filterMap_append, List.pairwise_append] at this
  exact this.1
theorem fold_put (m : Nat) (d : List UInt8) (hq : quiet d) : ∀ (L P : List Ln) (r : Rd) (ln : Int), RL P r → Glob (P ++ L) →
    ∃ r', foldS (L.map (fun l => List.replicate m 32 ++ (l.bytes ++ d))) ln r = (r', none) ∧ RL (P ++ L) r' := by
  intro L
  induction L with
  | nil => intro P r ln R _; exact ⟨r, rfl, by simpa using R⟩
  | cons l L ih =>
    intro P r ln R G
    have e : P ++ l :: L = (P ++ [l]) ++ L := by simp
    rw [e] at G
    obtain ⟨r1, h1, R1⟩ := line_put P r l R G.prefix m d hq ln ln (lexT (List.replicate m 32 ++ (l.bytes ++ d)) ln 1).col
    obtain ⟨r2, h2, R2⟩ := ih (P ++ [l]) r1 (ln + 1) R1 G
    refine ⟨r2, ?_, by rw [e]; exact R2⟩
    rw [List.map_cons, foldS_ok h1, h2]
theorem good_put (m : Nat) (d : List UInt8) (hq : quiet d) (hd : no10 d) (l : Ln) (h : l.ok) : goodB (List.replicate m 32 ++ (l.bytes ++ d)) := by
  obtain ⟨w1, w2⟩ := word_kind l h
  have hb : l.bytes ++ d = l.word ++ (numsB l.nums ++ d) := by unfold Ln.bytes; rw [List.append_assoc]
  have hk10 : ∀ k c, T.kindV c = k → (k = 4 ∨ k = 5) → c ≠ 10 := by
    intro k c hc hk q
    subst q
    have : T.kindV 10 = 3 := rfl
    omega
  have hnb : ∀ ns : List Int, (∀ n ∈ ns, 0 ≤ n ∧ n ≤ 2147483647) → no10 (numsB ns) := by
    intro ns
    induction ns with
    | nil => intro _ c hc; cases hc
    | cons n r ih =>
      intro hn c hc
      rcases List.mem_cons.1 hc with rfl | hc
      · decide
      · rcases List.mem_append.1 hc with hc | hc
        · rw [T.itoa_nat (hn n List.mem_cons_self).1] at hc
          exact hk10 5 _ (T.dec_kind _ c hc) (.inr rfl)
        · exact ih (fun n h => hn n (List.mem_cons_of_mem _ h)) c hc
  refine ⟨fun c hc => ?_, fun ln => ?_⟩
  · rw [hb] at hc
    rcases List.mem_append.1 hc with hc | hc
    · obtain ⟨_, rfl⟩ := List.mem_replicate.1 hc
      decide
    · rcases List.mem_append.1 hc with hc | hc
      · exact hk10 4 _ (w2 c hc) (.inl rfl)
      · rcases List.mem_append.1 hc with hc | hc
        · exact hnb _ (nums_ok l h) c hc
        · exact hd c hc
  · rw [hb]
    exact (lex_line m l.word l.nums d w1 w2 hq (nums_ok l h) ln 1).2
end Go.Proofs.Yph
/- A venue printed line by line, turned about, is read as it was: the plain law. -/
namespace Go.Proofs.Yph
open Go Go.Am
set_option maxRecDepth 20000
set_option maxHeartbeats 4000000
open T (Tok lexT no10 allV numsB numToks quiet lex_line)
open V (SeatR PoleR VenR seatOK poleOK inB lessS SortedS Ri killedL findA atS mayV Made)
def seatAt (v : VenR) (k : Int) : SeatR := v.seats.getD k.toNat default
def linesV (v : VenR) : List Ln := [.gap v.gap, .rad v.radius] ++ (v.seats.map Ln.seat ++ (v.kills.map (fun k => Ln.kill (seatAt v k).row (seatAt v k).x) ++ v.poles.map Ln.pole))
def isP : Ln → Bool
  | .pole _ => true
  | _ => false
def isN (l : Ln) : Bool := !isP l
theorem fm_none {α β γ : Type} (l : List α) (f : α → β) (g : β → Option γ) (h : ∀ a, g (f a) = none) : (l.map f).filterMap g = [] := by
  induction l with
  | nil => rfl
  | cons a r ih => rw [List.map_cons, List.filterMap_cons, h, ih]
theorem fm_some {α β γ : Type} (l : List α) (f : α → β) (g : β → Option γ) (k : α → γ) (h : ∀ a, g (f a) = some (k a)) : (l.map f).filterMap g = l.map k := by
  induction l with
  | nil => rfl
  | cons a r ih => rw [List.map_cons, List.filterMap_cons, h]; simp [ih]
theorem seats_V (v : VenR) : seatsOf (linesV v) = v.seats := by
  unfold seatsOf linesV
  rw [List.filterMap_append, List.filterMap_append, List.filterMap_append, fm_some v.seats Ln.seat seatO id (fun _ => rfl), fm_none v.kills _ seatO (fun _ => rfl), fm_none v.poles _ seatO (fun _ => rfl)]
  simp [List.filterMap_cons, seatO]
theorem gaps_V (v : VenR) : gapsOf (linesV v) = [v.gap] := by
  unfold gapsOf linesV
  rw [List.filterMap_append, List.filterMap_append, List.filterMap_append, fm_none v.seats _ gapO (fun _ => rfl), fm_none v.kills _ gapO (fun _ => rfl), fm_none v.poles _ gapO (fun _ => rfl)]
  simp [List.filterMap_cons, gapO]
theorem rads_V (v : VenR) : radsOf (linesV v) = [v.radius] := by
  unfold radsOf linesV
  rw [List.filterMap_append, List.filterMap_append, List.filterMap_append, fm_none v.seats _ radO (fun _ => rfl), fm_none v.kills _ radO (fun _ => rfl), fm_none v.poles _ radO (fun _ => rfl)]
  simp [List.filterMap_cons, radO]
theorem kills_V (v : VenR) : killsOf (linesV v) = v.kills.map (fun k => ((seatAt v k).row, (seatAt v k).x)) := by
  unfold killsOf linesV
  rw [List.filterMap_append, List.filterMap_append, List.filterMap_append, fm_none v.seats _ killO (fun _ => rfl), fm_some v.kills _ killO (fun k => ((seatAt v k).row, (seatAt v k).x)) (fun _ => rfl), fm_none v.poles _ killO (fun _ => rfl)]
  simp [List.filterMap_cons, killO]
theorem poles_V (v : VenR) : polesOf (linesV v) = v.poles := by
  unfold polesOf linesV
  rw [List.filterMap_append, List.filterMap_append, List.filterMap_append, fm_none v.seats _ poleO (fun _ => rfl), fm_none v.kills _ poleO (fun _ => rfl), fm_some v.poles _ poleO id (fun _ => rfl)]
  simp [List.filterMap_cons, poleO]
theorem poles_N (L : List Ln) : polesOf (L.filter isN) = [] := by
  unfold polesOf
  rw [List.filterMap_eq_nil_iff]
  intro l hl
  have h := (List.mem_filter.1 hl).2
  cases l <;> first | rfl | cases h
theorem poles_P (L : List Ln) : polesOf (L.filter isP) = polesOf L := by
  unfold polesOf
  induction L with
  | nil => rfl
  | cons l L ih =>
    cases l <;> simp only [List.filter_cons, isP, if_true, Bool.false_eq_true, if_false, List.filterMap_cons, poleO, ih]
/-- kills that are all there, each once -/
def coK (k : KillR) : Int × Int := (k.row, k.x)
def coS (S : List SeatR) (i : Int) : Int × Int := ((S.getD i.toNat default).row, (S.getD i.toNat default).x)
theorem killsF_all (S : List SeatR) : ∀ (K : List KillR) (acc : List Int), (∀ k ∈ K, ∃ s ∈ S, s.row = k.row ∧ s.x = k.x) → (K.map coK).Nodup → (∀ k ∈ K, ∀ i ∈ acc, coS S i ≠ coK k) →
    ∃ ks, killsF S K acc = (acc ++ ks, none) ∧ ks.map (coS S) = K.map coK := by
  intro K
  induction K with
  | nil => intro acc _ _ _; exact ⟨[], by rw [killsF_nil, List.append_nil], rfl⟩
  | cons k K ih =>
    intro acc h1 h2 h3
    cases hp : placeAt S k.row k.x with
    | none =>
      obtain ⟨s, hs, q⟩ := h1 k List.mem_cons_self
      exact absurd q (placeF_none hp s hs)
    | some n =>
      obtain ⟨q1, q2, s, q3, q4, q5⟩ := placeF_some hp
      rw [Nat.sub_zero] at q3
      have hco : coS S (n : Int) = coK k := by
        unfold coS coK
        rw [Int.toNat_natCast, List.getD_eq_getElem?_getD, q3, Option.getD_some, q4, q5]
      have hm : (n : Int) ∉ acc := fun hm => h3 k List.mem_cons_self n hm hco
      rw [List.map_cons, List.nodup_cons] at h2
      obtain ⟨ks, e1, e2⟩ := ih (acc ++ [(n : Int)]) (fun k' hk => h1 k' (List.mem_cons_of_mem _ hk)) h2.2 (fun k' hk i hi => by
        rcases List.mem_append.1 hi with q | q
        · exact h3 k' (List.mem_cons_of_mem _ hk) i q
        · obtain rfl := List.mem_singleton.1 q
          rw [hco]
          intro q
          exact h2.1 (by rw [q]; exact List.mem_map_of_mem hk))
      refine ⟨(n : Int) :: ks, ?_, ?_⟩
      · rw [killsF_go hp hm, e1]; simp
      · rw [List.map_cons, List.map_cons, hco, e2]
def headB : List UInt8 := [35, 32, 97, 32, 118, 101, 110, 117, 101]
def wrapB (l : Ln) : List UInt8 := List.replicate 2 32 ++ (l.bytes ++ T.tailB)
def bareB (l : Ln) : List UInt8 := List.replicate 0 32 ++ (l.bytes ++ [])
def backL (v : VenR) (rot : List Ln) : List (List UInt8) := [headB, []] ++ ((rot.filter isN).map wrapB ++ ((linesV v).filter isP).map bareB)
theorem made_lines {i : Nat} {v : VenR} {row x : Int} (M : Made i v row x) (hi : i ≤ 24) : ∀ l ∈ linesV v, l.ok := by
  have hg := M.gap
  have hr := M.radius
  have hlen := M.len
  intro l hl
  unfold linesV at hl
  rcases List.mem_append.1 hl with hl | hl
  · simp only [List.mem_cons, List.not_mem_nil, or_false] at hl
    rcases hl with rfl | rfl
    · simp only [Ln.ok]; omega
    · simp only [Ln.ok]; omega
  · rcases List.mem_append.1 hl with hl | hl
    · obtain ⟨s, hs, rfl⟩ := List.mem_map.1 hl
      have := M.seat s hs
      simp only [Ln.ok]; omega
    · rcases List.mem_append.1 hl with hl | hl
      · obtain ⟨k, hk, rfl⟩ := List.mem_map.1 hl
        have hkb := M.kill k hk
        have hmem : seatAt v k ∈ v.seats := by
          unfold seatAt
          rw [List.getD_eq_getElem?_getD, List.getElem?_eq_getElem (by omega), Option.getD_some]
          exact List.getElem_mem _
        have := M.seat _ hmem
        simp only [Ln.ok]; omega
      · obtain ⟨p, hp, rfl⟩ := List.mem_map.1 hl
        have := M.pole p hp
        simp only [Ln.ok]; omega
theorem made_Ri {i : Nat} {v : VenR} {row x : Int} (M : Made i v row x) : Ri v.kills := by
  have key : ∀ (d j : Nat) (a b : Int), v.kills[j]? = some a → v.kills[j + d + 1]? = some b → a < b := by
    intro d
    induction d with
    | zero => exact M.kup
    | succ d ih =>
      intro j a b q1 q2
      have hlt := (List.getElem?_eq_some_iff.mp q2).1
      have q3 : v.kills[j + d + 1]? = some v.kills[j + d + 1] := List.getElem?_eq_getElem (by omega)
      have r1 := ih j a _ q1 q3
      have r2 := M.kup _ _ _ q3 (by rw [show j + d + 1 + 1 = j + (d + 1) + 1 by omega]; exact q2)
      omega
  unfold Ri
  rw [List.pairwise_iff_getElem]
  intro a b ha hb hab
  exact key (b - a - 1) a _ _ (List.getElem?_eq_getElem ha) (by rw [show a + (b - a - 1) + 1 = b by omega]; exact List.getElem?_eq_getElem hb)
theorem made_so {i : Nat} {v : VenR} {row x : Int} (M : Made i v row x) : SortedS v.seats := by
  intro a b s t hab hs ht
  have := V.made_sorted M a (b - a - 1) s t hs (by rw [show a + (b - a - 1) + 1 = b by omega]; exact ht)
  rw [← Bool.not_eq_true, V.lessS_iff]
  rw [V.lessS_iff] at this
  omega
theorem back_law {i : Nat} {v : VenR} {row x : Int} (M : Made i v row x) (hi : i ≤ 24) (rot : List Ln) (hrot : rot.Perm (linesV v)) :
    (parO (joinL (backL v rot))).1 = none ∧ Normed (parO (joinL (backL v rot))).2 v := by
  obtain ⟨A, hA⟩ : ∃ A, A = rot.filter isN ++ (linesV v).filter isP := ⟨_, rfl⟩
  have hperm : A.Perm (linesV v) := by
    rw [hA]
    refine ((hrot.filter isN).append_right _).trans ?_
    refine List.perm_append_comm.trans ?_
    exact List.filter_append_perm isP (linesV v)
  have hlen := M.len
  have hkl := M.klen
  have hpl := M.plen
  have pg : (gapsOf A).Perm [v.gap] := by rw [← gaps_V]; exact hperm.filterMap _
  have pr : (radsOf A).Perm [v.radius] := by rw [← rads_V]; exact hperm.filterMap _
  have ps : (seatsOf A).Perm v.seats := by have := hperm.filterMap seatO; rw [← seats_V v]; exact this
  have pk : (killsOf A).Perm (v.kills.map (fun k => ((seatAt v k).row, (seatAt v k).x))) := by rw [← kills_V]; exact hperm.filterMap _
  have pp : polesOf A = v.poles := by
    rw [hA]
    show (rot.filter isN ++ (linesV v).filter isP).filterMap poleO = _
    rw [List.filterMap_append]
    show polesOf (rot.filter isN) ++ polesOf ((linesV v).filter isP) = _
    rw [poles_N, poles_P, poles_V]; rfl
  have eg : gapsOf A = [v.gap] := List.perm_singleton.1 pg
  have er : radsOf A = [v.radius] := List.perm_singleton.1 pr
  have hpw := V.made_pw M
  have hdist : v.seats.Pairwise (fun a b => ¬ (a.row = b.row ∧ a.x = b.x)) := hpw.imp (fun {a b} q => by rw [V.lessS_iff] at q; omega)
  have G : Glob A := by
    refine ⟨fun l hl => made_lines M hi l (hperm.subset hl), by rw [eg]; simp, by rw [er]; simp, ?_, by rw [ps.length_eq]; omega, by rw [pk.length_eq, List.length_map]; omega, by rw [pp]; omega⟩
    exact (ps.pairwise_iff (R := fun a b => ¬ (a.row = b.row ∧ a.x = b.x)) (fun {a b} h q => h ⟨q.1.symm, q.2.symm⟩)).2 hdist
  have qn : no10 [] := fun c hc => by cases hc
  have qt : no10 T.tailB := by unfold no10; decide
  -- the lines are well
  have hgood : ∀ b ∈ backL v rot, goodB b := by
    intro b hb
    unfold backL at hb
    rcases List.mem_append.1 hb with hb | hb
    · simp only [List.mem_cons, List.not_mem_nil, or_false] at hb
      rcases hb with rfl | rfl
      · exact goodB_of (by kernel_rfl)
      · exact goodB_of (by kernel_rfl)
    · rcases List.mem_append.1 hb with hb | hb
      · obtain ⟨l, hl, rfl⟩ := List.mem_map.1 hb
        exact good_put 2 T.tailB T.quiet_tail qt l (G.ok l (by rw [hA]; exact List.mem_append_left _ hl))
      · obtain ⟨l, hl, rfl⟩ := List.mem_map.1 hb
        exact good_put 0 [] T.quiet_nil qn l (G.ok l (by rw [hA]; exact List.mem_append_right _ hl))
  -- the reader
  have hq0 := T.quiet_rem headB (by kernel_rfl)
  have hf0 : foldS [headB, []] 1 rd0 = (rd0, none) := by kernel_rfl
  have G' : Glob ([] ++ (rot.filter isN ++ (linesV v).filter isP)) := by rw [List.nil_append, ← hA]; exact G
  have G1 : Glob ([] ++ rot.filter isN) := by rw [List.nil_append] at G' ⊢; exact G'.prefix
  obtain ⟨r1, f1, R1⟩ := fold_put 2 T.tailB T.quiet_tail (rot.filter isN) [] rd0 (1 + ([headB, []] : List (List UInt8)).length) rl0 G1
  obtain ⟨r, f2, R⟩ := fold_put 0 [] T.quiet_nil ((linesV v).filter isP) ([] ++ rot.filter isN) r1 (1 + ([headB, []] : List (List UInt8)).length + ((rot.filter isN).map wrapB).length) R1 (by rw [List.nil_append] at G' ⊢; exact G')
  have hR : RL A r := by rw [hA]; rw [List.nil_append] at R; exact R
  have hfold : foldS (backL v rot) 1 rd0 = (r, none) := by
    unfold backL
    have f1' : foldS ((rot.filter isN).map wrapB) (1 + ([headB, []] : List (List UInt8)).length) rd0 = (r1, none) := f1
    rw [foldS_app _ _ 1 rd0 rd0 hf0, foldS_app _ _ _ rd0 r1 f1']
    exact f2
  obtain ⟨Z1, Z2, Z3, Z4, Z5, Z6⟩ := hR
  rw [eg] at Z2
  rw [er] at Z4
  have hsne : r.seats ≠ [] := by
    intro q
    have := ps.length_eq
    rw [← Z1, q] at this
    simp at this; omega
  have hgne : r.gap ≠ 0 := by rw [Z2]; show v.gap ≠ 0; rw [M.gap]; decide
  have hkd : (r.kills.map coK).Nodup := by
    show (r.kills.map (fun k => (k.row, k.x))).Nodup
    rw [Z5]
    refine pk.nodup_iff.2 ?_
    have hri := made_Ri M
    refine List.pairwise_map.2 ?_
    refine List.Pairwise.imp_of_mem (R := fun a b => a < b) (fun {a b} ha hb hab q => ?_) hri
    have ka := M.kill a ha
    have kb := M.kill b hb
    have q3 := V.made_find M (a := a.toNat) (by omega)
    have q4 := V.made_find M (a := b.toNat) (by omega)
    have e : atS (v.seats.getD a.toNat default) = atS (v.seats.getD b.toNat default) := by
      simp only [Prod.mk.injEq, seatAt] at q
      funext z
      unfold atS
      rw [q.1, q.2]
    rw [e, q4] at q3
    omega
  obtain ⟨ks, e1, e2⟩ := killsF_all r.seats r.kills [] (fun k hk => by
      have hk2 : (k.row, k.x) ∈ killsOf A := by rw [← Z5]; exact List.mem_map_of_mem (f := fun k : KillR => (k.row, k.x)) hk
      obtain ⟨a, ha, q⟩ := List.mem_map.1 (pk.subset hk2)
      have ka := M.kill a ha
      refine ⟨seatAt v a, ?_, by simp only [Prod.mk.injEq] at q; exact q⟩
      rw [Z1]
      refine ps.symm.subset ?_
      unfold seatAt
      rw [List.getD_eq_getElem?_getD, List.getElem?_eq_getElem (by omega), Option.getD_some]
      exact List.getElem_mem _) hkd (fun k _ i hi => by cases hi)
  have hw : ∀ el ec, wholeR r el ec = (ks, none) := by
    intro el ec
    unfold wholeR
    rw [if_neg (by rintro (q | q); exact hsne q; exact hgne q), e1]; rfl
  have hpar : parO (joinL (backL v rot)) = (none, venOf r ks) := by
    rw [parO_join _ hgood, hfold]
    simp only
    rw [hw]
  rw [hpar]
  refine ⟨rfl, ?_, made_so M, made_Ri M, ?_, ?_, ?_, ?_, V.made_may M (by omega)⟩
  · show v.seats.Perm r.seats
    rw [Z1]; exact ps.symm
  · intro z
    have s1 := V.self_killed M
    have hfa : ∀ s : SeatR, findA (atS s) v.seats = findA (fun t : SeatR => decide (t.row = (s.row, s.x).1) && decide (t.x = (s.row, s.x).2)) v.seats := fun s => rfl
    obtain ⟨fA, hfA⟩ : ∃ fA : Int × Int → Int, ∀ c, fA c = findA (fun t : SeatR => decide (t.row = c.1) && decide (t.x = c.2)) v.seats := ⟨_, fun _ => rfl⟩
    have l1 : (killedL (venOf r ks)).map (fun s => findA (atS s) v.seats) = (killsOf A).map fA := by
      rw [← Z5]
      show _ = (r.kills.map coK).map fA
      rw [← e2]
      show (ks.map (fun k => r.seats.getD k.toNat default)).map _ = _
      rw [List.map_map, List.map_map]
      refine List.map_congr_left (fun k _ => ?_)
      simp only [Function.comp]
      rw [hfa, hfA]; rfl
    have l2 : (v.kills.map (fun k => ((seatAt v k).row, (seatAt v k).x))).map fA = v.kills := by
      have l3 : (v.kills.map (fun k => ((seatAt v k).row, (seatAt v k).x))).map fA = (killedL v).map (fun s => findA (atS s) v.seats) := by
        unfold killedL
        rw [List.map_map, List.map_map]
        refine List.map_congr_left (fun k _ => ?_)
        simp only [Function.comp]
        rw [hfa, hfA]; rfl
      rw [l3]; exact s1
    rw [l1]
    constructor
    · intro hz
      rw [← l2] at hz
      exact ((pk.map fA).mem_iff).2 hz
    · intro hz
      rw [← l2]
      exact ((pk.map fA).mem_iff).1 hz
  · show v.gap = r.gap
    rw [Z2]; rfl
  · show v.radius = r.radius
    rw [Z4]; rfl
  · show v.poles = r.poles
    rw [Z6, pp]
end Go.Proofs.Yph
/- The reference's print of a venue. -/
namespace Go.Proofs.Yph
open Go Go.Am
set_option maxRecDepth 20000
set_option linter.constructorNameAsVariable false
set_option maxHeartbeats 4000000
open T (numsB)
open V (SeatR PoleR VenR seatC poleC intC seatV mayV)
theorem word_ok (k : Int) (h : Heap) : ACalls PP 71 [.int .i64 k] h (fun v h' => h' = h ∧ v = .string (B (wordK k))) := by
  refine acalls_of_vc mix fn71 bodyEq71 rfl (by show 1 ≤ 10; decide) ok71 ?_
  simp only [body71, Tryz.f71]
  unfold wordK wSeat wWheel wComp
  by_cases h0 : k = 0
  · simp -implicitDefEqProofs [h0]
  · by_cases h1 : k = 1
    · simp -implicitDefEqProofs [h1]
    · by_cases h2 : k = 2
      · simp -implicitDefEqProofs [h2]
      · simp -implicitDefEqProofs [h0, h1, h2]
theorem itoa_len {n : Int} (h : 0 ≤ n ∧ n ≤ 2147483647) : (Lib.itoa n).length ≤ 20 := by
  rw [T.itoa_nat h.1]
  exact F.dec_len20 (by omega)
theorem seatT_ok (s : SeatR) (hs : (Ln.seat s).ok) (h : Heap) : ACalls PP 38 [seatV s] h (fun v h' => h' = h ∧ v = .string (B (Ln.seat s).bytes)) := by
  refine acalls_of_vc mix fn38 bodyEq38 rfl (by show 1 ≤ 21; decide) ok38 ?_
  simp only [body38, Tryz.f38]
  simp only [Ln.ok] at hs
  have l1 := itoa_len (n := s.row) (by omega)
  have l2 := itoa_len (n := s.x) (by omega)
  have l3 := itoa_len (n := s.y) (by omega)
  have l0 : (wordK s.kind).length ≤ 9 := by
    rcases (by omega : s.kind = 0 ∨ s.kind = 1 ∨ s.kind = 2) with q | q | q <;> rw [q] <;> decide
  have d1 := fun H => F.decimal_ok s.row (by omega) H
  have d2 := fun H => F.decimal_ok s.x (by omega) H
  have d3 := fun H => F.decimal_ok s.y (by omega) H
  have dw := fun H => word_ok s.kind H
  have hb : (Ln.seat s).bytes = wordK s.kind ++ (32 :: (Lib.itoa s.row ++ (32 :: (Lib.itoa s.x ++ (32 :: Lib.itoa s.y))))) := by
    simp [Ln.bytes, Ln.word, Ln.nums, numsB]
  rw [hb]
  obtain ⟨w0, hw0⟩ : ∃ w, w = wordK s.kind := ⟨_, rfl⟩
  obtain ⟨w1, hw1⟩ : ∃ w, w = Lib.itoa s.row := ⟨_, rfl⟩
  obtain ⟨w2, hw2⟩ : ∃ w, w = Lib.itoa s.x := ⟨_, rfl⟩
  obtain ⟨w3, hw3⟩ : ∃ w, w = Lib.itoa s.y := ⟨_, rfl⟩
  rw [← hw0] at l0 dw ⊢
  rw [← hw1] at l1 d1 ⊢
  rw [← hw2] at l2 d2 ⊢
  rw [← hw3] at l3 d3 ⊢
  have f0 : w0.length ≤ 9223372036854775806 := by omega
  simp -implicitDefEqProofs [seatV, seatC]
  refine (dw h).mono ?_
  rintro v h1 ⟨rfl, rfl⟩
  simp -implicitDefEqProofs [callP, f0]
  intro _
  refine (d1 h1).mono ?_
  rintro v h2 ⟨rfl, rfl⟩
  have g1 : w0.length + 1 + w1.length ≤ 9223372036854775807 := by omega
  have g2 : w0.length + (w1.length + 1) ≤ 9223372036854775806 := by omega
  simp -implicitDefEqProofs [callP, f0, g1, g2]
  intro _
  refine (d2 h2).mono ?_
  rintro v h3 ⟨rfl, rfl⟩
  have g3 : w0.length + (w1.length + 1 + 1) + w2.length ≤ 9223372036854775807 := by omega
  have g4 : w0.length + (w1.length + (w2.length + 1) + 1) ≤ 9223372036854775806 := by omega
  simp -implicitDefEqProofs [callP, f0, g1, g2, g3, g4]
  intro _
  refine (d3 h3).mono ?_
  rintro v h4 ⟨rfl, rfl⟩
  have g5 : w0.length + (w1.length + (w2.length + 1 + 1) + 1) + w3.length ≤ 9223372036854775807 := by omega
  simp -implicitDefEqProofs [callP, f0, g1, g2, g3, g4, g5]
end Go.Proofs.Yph
/- The reference's print of a venue, whole. -/
namespace Go.Proofs.Yph
open Go Go.Am
set_option maxRecDepth 20000
set_option linter.constructorNameAsVariable false
set_option maxHeartbeats 4000000
open T (numsB)
open V (SeatR PoleR VenR seatC poleC intC seatV mayV)
def joinB (L : List Ln) : List UInt8 := joinL (L.map Ln.bytes)
theorem bytes_len (l : Ln) (h : l.ok) : l.bytes.length ≤ 99 := by
  cases l with
  | gap g =>
    simp only [Ln.ok] at h
    have := itoa_len (n := g) (by omega)
    simp [Ln.bytes, Ln.word, Ln.nums, numsB, wGap]; omega
  | rad g =>
    simp only [Ln.ok] at h
    have := itoa_len (n := g) (by omega)
    simp [Ln.bytes, Ln.word, Ln.nums, numsB, wRad]; omega
  | kill a b =>
    simp only [Ln.ok] at h
    have h1 := itoa_len (n := a) (by omega)
    have h2 := itoa_len (n := b) (by omega)
    simp [Ln.bytes, Ln.word, Ln.nums, numsB, wKill]; omega
  | pole p =>
    simp only [Ln.ok] at h
    have h1 := itoa_len (n := p.x) (by omega)
    have h2 := itoa_len (n := p.y) (by omega)
    have h3 := itoa_len (n := p.r) (by omega)
    simp [Ln.bytes, Ln.word, Ln.nums, numsB, wPole]; omega
  | seat s =>
    simp only [Ln.ok] at h
    have h1 := itoa_len (n := s.row) (by omega)
    have h2 := itoa_len (n := s.x) (by omega)
    have h3 := itoa_len (n := s.y) (by omega)
    have l0 : (wordK s.kind).length ≤ 9 := by
      rcases (by omega : s.kind = 0 ∨ s.kind = 1 ∨ s.kind = 2) with q | q | q <;> rw [q] <;> decide
    simp [Ln.bytes, Ln.word, Ln.nums, numsB]; omega
theorem joinB_len : ∀ (L : List Ln), (∀ l ∈ L, l.ok) → (joinB L).length ≤ 100 * L.length := by
  intro L
  induction L with
  | nil => intro _; simp [joinB, joinL]
  | cons l L ih =>
    intro h
    have h1 := bytes_len l (h l List.mem_cons_self)
    have h2 := ih (fun l hl => h l (List.mem_cons_of_mem _ hl))
    have e : joinB (l :: L) = l.bytes ++ 10 :: joinB L := by simp [joinB, joinL]
    rw [e]
    simp; omega
theorem joinB_app (A B : List Ln) : joinB (A ++ B) = joinB A ++ joinB B := by simp [joinB, joinL]
theorem joinB_one (l : Ln) : joinB [l] = l.bytes ++ [10] := by simp [joinB, joinL]
theorem joinB_next {pre xs : List Ln} {i : Nat} {l : Ln} (h : xs[i]? = some l) : joinB (pre ++ xs.take (i + 1)) = joinB (pre ++ xs.take i) ++ (l.bytes ++ [10]) := by
  rw [List.take_add_one, h, ← List.append_assoc, joinB_app, Option.toList_some, joinB_one]
def JPr (ti : Nat) (cs : List Value) (pre xs : List Ln) (m : Nat) (h : Heap) (n : Nat) (σ : St) : Prop := ∃ i : Nat, n = m - i ∧ i ≤ m ∧ σ.m.h = h ∧ σ.t.get 1 = some (.pointer (some ⟨1, 0, some 0⟩)) ∧ σ.t.get 4 = some (.string (B (joinB (pre ++ xs.take i)))) ∧ σ.t.get ti = some (.int .i64 (i : Nat)) ∧ σ.m.x.look 1 = some (33, cs)
theorem print_ok (v : VenR) (cs : List Value) (hv : v.seats.length ≤ 1000 ∧ v.kills.length ≤ 1000 ∧ v.poles.length ≤ 1000) (hok : ∀ l ∈ linesV v, l.ok) (hm : mayV v = true) (hk : ∀ k ∈ v.kills, 0 ≤ k ∧ k < v.seats.length) (h : Heap) (H : V.VenC h v cs) :
    ACalls PP 20 [.agg ⟨cs⟩] h (fun r h' => h' = h ∧ r = .tuple #[.string (B (joinB (linesV v))), .int .i64 0]) := by
  refine acalls_of_vc mix fn20 bodyEq20 rfl (by show 1 ≤ 97; decide) ok20 ?_
  simp only [body20, Tryz.f20]
  have rm := V.rmay_ok v cs ⟨by omega, by omega, by omega⟩ h H
  rw [hm] at rm
  obtain ⟨s, k, p, rfl, h1, h2, h3⟩ := H
  obtain ⟨ad1, c1, e1⟩ := h1.shape
  obtain ⟨ad2, c2, e2⟩ := h2.shape
  obtain ⟨ad3, c3, e3⟩ := h3.shape
  subst e1; subst e2; subst e3
  obtain ⟨ms, hms⟩ : ∃ m, m = v.seats.length := ⟨_, rfl⟩
  obtain ⟨mk, hmk⟩ : ∃ m, m = v.kills.length := ⟨_, rfl⟩
  obtain ⟨mp, hmp⟩ : ∃ m, m = v.poles.length := ⟨_, rfl⟩
  rw [← hms] at h1 rm hk ⊢
  rw [← hmk] at h2 rm ⊢
  rw [← hmp] at h3 rm ⊢
  obtain ⟨g, hg⟩ : ∃ g, g = v.gap := ⟨_, rfl⟩
  obtain ⟨r, hr⟩ : ∃ r, r = v.radius := ⟨_, rfl⟩
  have og := hok (.gap v.gap) (by simp [linesV])
  have orr := hok (.rad v.radius) (by simp [linesV])
  simp only [Ln.ok] at og orr
  rw [← hg] at og rm ⊢
  rw [← hr] at orr rm ⊢
  have dg := fun H => F.decimal_ok g (by omega) H
  have dr := fun H => F.decimal_ok r (by omega) H
  have lg := itoa_len (n := g) (by omega)
  have lr := itoa_len (n := r) (by omega)
  obtain ⟨wg, hwg⟩ : ∃ w, w = Lib.itoa g := ⟨_, rfl⟩
  obtain ⟨wr, hwr⟩ : ∃ w, w = Lib.itoa r := ⟨_, rfl⟩
  rw [← hwg] at dg lg
  rw [← hwr] at dr lr
  have p1 : 4 + wg.length ≤ 9223372036854775807 := by omega
  have p2 : wg.length ≤ 9223372036854775795 := by omega
  simp -implicitDefEqProofs
  refine rm.mono ?_
  rintro v h0 ⟨rfl, rfl⟩
  simp -implicitDefEqProofs [callQ]
  intro _
  refine (dg h0).mono ?_
  rintro v h1' ⟨rfl, rfl⟩
  simp -implicitDefEqProofs [callP, p1, p2]
  intro _
  refine (dr h1').mono ?_
  rintro v2 h2' ⟨rfl, rfl⟩
  have p3 : wg.length + 8 + 1 + 1 + 1 + 1 + wr.length ≤ 9223372036854775807 := by omega
  have p4 : wg.length + (wr.length + 8) ≤ 9223372036854775802 := by omega
  have p5 : wg.length + (wr.length + 1 + 1 + 1 + 1 + 1 + 1 + 1 + 1) ≤ 9223372036854775802 := by omega
  simp -implicitDefEqProofs [callP, p1, p2, p3, p4, p5]
  intro _
  clear p1 p2 p3 p4 p5 dg dr rm
  obtain ⟨L0, hL0⟩ : ∃ L, L = [Ln.gap g, Ln.rad r] := ⟨_, rfl⟩
  have hpre : 103 :: 97 :: 112 :: 32 :: (wg ++ 10 :: 114 :: 97 :: 100 :: 105 :: 117 :: 115 :: 32 :: (wr ++ [10])) = joinB L0 := by
    rw [hL0]
    simp [joinB, joinL, Ln.bytes, Ln.word, Ln.nums, numsB, wGap, wRad, hwg, hwr]
  obtain ⟨X1, hX1⟩ : ∃ X, X = v.seats.map Ln.seat := ⟨_, rfl⟩
  obtain ⟨X2, hX2⟩ : ∃ X, X = v.kills.map (fun k => Ln.kill (seatAt v k).row (seatAt v k).x) := ⟨_, rfl⟩
  obtain ⟨X3, hX3⟩ : ∃ X, X = v.poles.map Ln.pole := ⟨_, rfl⟩
  have hall : linesV v = L0 ++ (X1 ++ (X2 ++ X3)) := by rw [hL0, hX1, hX2, hX3, hg, hr]; rfl
  have hlen : ∀ (A B : List Ln), linesV v = A ++ B → (joinB A).length ≤ 310000 := fun A B e => by
    have h1 := joinB_len A (fun l hl => hok l (by rw [e]; exact List.mem_append_left _ hl))
    have h2 : (linesV v).length ≤ 3002 := by rw [hall, hL0, hX1, hX2, hX3]; simp; omega
    rw [e, List.length_append] at h2
    omega
  have hl1 : X1.length = ms := by rw [hX1, hms]; simp
  have hl2 : X2.length = mk := by rw [hX2, hmk]; simp
  have hl3 : X3.length = mp := by rw [hX3, hmp]; simp
  obtain ⟨cs, hcs⟩ : ∃ cs, cs = [Value.slice ad1 ms c1, Value.int IntKind.i64 g, Value.int IntKind.i64 r, Value.slice ad2 mk c2, Value.slice ad3 mp c3] := ⟨_, rfl⟩
  rw [hpre, ← hcs]
  refine vc_loop (JPr 5 cs L0 X1 ms h2') ms ⟨0, by omega, by omega, rfl, by simp, by simp, by simp, by simp⟩ ?_
  rintro n0 ⟨T0, ⟨x0', H0⟩⟩ ⟨i, rfl, hi, hH, g1, g4, gi, x1⟩
  simp at hH g1 g4 gi x1
  subst hH
  rw [hcs] at x1
  simp -implicitDefEqProofs [g1, g4, gi, x1]
  refine condQ_of (fun hc => ?_) (fun hc => ?_) <;> simp only [decide_eq_true_eq, decide_eq_false_iff_not] at hc
  · have hil : i < ms := by omega
    have hti : v.seats[i]? = some v.seats[i] := List.getElem?_eq_getElem (by omega)
    obtain ⟨t, ht⟩ : ∃ t, t = v.seats[i] := ⟨_, rfl⟩
    rw [← ht] at hti
    obtain ⟨_, b, o, wb, cb, rb, rfl, hb, hd, hlc, _⟩ := h1.at 4 V.seatC_len hti
    have hlc' : o + i * 4 + 4 ≤ cb.length := hlc
    have hxi : X1[i]? = some (Ln.seat t) := by rw [hX1, List.getElem?_map, hti]; rfl
    have hnx := joinB_next (pre := L0) hxi
    have ok := hok (Ln.seat t) (by rw [hall]; exact List.mem_append_right _ (List.mem_append_left _ (List.mem_of_getElem? hxi)))
    have lS := hlen (L0 ++ X1.take i) (X1.drop i ++ (X2 ++ X3)) (by rw [hall, List.append_assoc, ← List.append_assoc (X1.take i), List.take_append_drop])
    have lb := bytes_len _ ok
    obtain ⟨S, hS⟩ : ∃ S, S = joinB (L0 ++ X1.take i) := ⟨_, rfl⟩
    rw [← hS] at lS g4 hnx ⊢
    have st := fun H => seatT_ok t ok H
    obtain ⟨w, hw⟩ : ∃ w, w = (Ln.seat t).bytes := ⟨_, rfl⟩
    rw [← hw] at st lb hnx
    obtain ⟨i1, hi1⟩ : ∃ i1, i1 = i + 1 := ⟨_, rfl⟩
    have w1 : IntKind.wrap .i64 ((i : Int) + 1) = (i1 : Int) := by rw [i64wrap (by omega)]; omega
    have f1 : S.length + w.length ≤ 9223372036854775807 := by omega
    have f2 : S.length + w.length ≤ 9223372036854775806 := by omega
    simp -implicitDefEqProofs [g1, g4, gi, x1, hil, hb, hd, hlc', seatC]
    refine (st H0).mono ?_
    rintro v1 h1x ⟨rfl, rfl⟩
    simp -implicitDefEqProofs [callQ, f1, f2, w1, g1, x1]
    intro _
    exact ⟨ms - i1, by omega, i1, rfl, by omega, rfl, by simp, by rw [hi1, hnx]; simp, by simp, by simp [hcs]⟩
  · have him : i = ms := by omega
    rw [him, List.take_of_length_le (by omega)] at g4
    rw [him, List.take_of_length_le (by omega)]
    simp -implicitDefEqProofs [g1, g4, x1]
    obtain ⟨L1, hL1⟩ : ∃ L, L = L0 ++ X1 := ⟨_, rfl⟩
    rw [← hL1, ← hcs]
    clear him gi hc hi g1 g4 x1
    refine vc_loop (JPr 6 cs L1 X2 mk H0) mk ⟨0, by omega, by omega, rfl, by simp, by simp, by simp, by simp⟩ ?_
    rintro n1 ⟨T1, ⟨x1', H1⟩⟩ ⟨i, rfl, hi, hH, g1, g4, gi, x1⟩
    simp at hH g1 g4 gi x1
    subst hH
    rw [hcs] at x1
    simp -implicitDefEqProofs [g1, g4, gi, x1]
    refine condQ_of (fun hc => ?_) (fun hc => ?_) <;> simp only [decide_eq_true_eq, decide_eq_false_iff_not] at hc
    · have hil : i < mk := by omega
      have hki : v.kills[i]? = some v.kills[i] := List.getElem?_eq_getElem (by omega)
      obtain ⟨k, hkk⟩ : ∃ t, t = v.kills[i] := ⟨_, rfl⟩
      rw [← hkk] at hki
      have hkb := hk k (List.mem_of_getElem? hki)
      obtain ⟨kn, hkn⟩ : ∃ kn : Nat, k = kn := ⟨k.toNat, by omega⟩
      have hkms : kn < ms := by omega
      have hti : v.seats[kn]? = some v.seats[kn] := List.getElem?_eq_getElem (by omega)
      obtain ⟨t, ht⟩ : ∃ t, t = v.seats[kn] := ⟨_, rfl⟩
      rw [← ht] at hti
      have hse : seatAt v k = t := by unfold seatAt; rw [hkn, Int.toNat_natCast, List.getD_eq_getElem?_getD, hti]; rfl
      obtain ⟨_, b, o, wb, cb, rb, rfl, hb, hd, hlc, _⟩ := h1.at 4 V.seatC_len hti
      have hlc' : o + kn * 4 + 4 ≤ cb.length := hlc
      obtain ⟨_, b2, o2, wb2, cb2, rb2, rfl, hb2, hd2, hlc2, _⟩ := h2.at 1 V.intC_len hki
      have hlc2' : o2 + i + 1 ≤ cb2.length := by omega
      rw [Nat.mul_one, hkn] at hd2
      have hxi : X2[i]? = some (Ln.kill t.row t.x) := by rw [hX2, List.getElem?_map, hki, Option.map_some, hse]
      have hnx := joinB_next (pre := L1) hxi
      have ok := hok (Ln.kill t.row t.x) (by rw [hall]; exact List.mem_append_right _ (List.mem_append_right _ (List.mem_append_left _ (List.mem_of_getElem? hxi))))
      have lS := hlen (L1 ++ X2.take i) (X2.drop i ++ X3) (by rw [hall, hL1, List.append_assoc, List.append_assoc, ← List.append_assoc (X2.take i), List.take_append_drop])
      simp only [Ln.ok] at ok
      have la := itoa_len (n := t.row) (by omega)
      have lb := itoa_len (n := t.x) (by omega)
      have da := fun H => F.decimal_ok t.row (by omega) H
      have db := fun H => F.decimal_ok t.x (by omega) H
      obtain ⟨S, hS⟩ : ∃ S, S = joinB (L1 ++ X2.take i) := ⟨_, rfl⟩
      rw [← hS] at lS g4 hnx ⊢
      have hby : (Ln.kill t.row t.x).bytes = [107, 105, 108, 108, 32] ++ (Lib.itoa t.row ++ 32 :: Lib.itoa t.x) := by simp [Ln.bytes, Ln.word, Ln.nums, numsB, wKill]
      rw [hby] at hnx
      obtain ⟨wa, hwa⟩ : ∃ w, w = Lib.itoa t.row := ⟨_, rfl⟩
      obtain ⟨wb, hwb⟩ : ∃ w, w = Lib.itoa t.x := ⟨_, rfl⟩
      rw [← hwa] at la da hnx
      rw [← hwb] at lb db hnx
      obtain ⟨i1, hi1⟩ : ∃ i1, i1 = i + 1 := ⟨_, rfl⟩
      have w1 : IntKind.wrap .i64 ((i : Int) + 1) = (i1 : Int) := by rw [i64wrap (by omega)]; omega
      have f1 : S.length ≤ 9223372036854775802 := by omega
      have f2 : S.length + 5 + wa.length ≤ 9223372036854775807 := by omega
      have f3 : S.length + (wa.length + 5) ≤ 9223372036854775806 := by omega
      simp -implicitDefEqProofs [g1, g4, gi, x1, hil, hb, hd, hlc', hb2, hd2, hlc2', hkms, seatC, intC, f1]
      refine (da H1).mono ?_
      rintro v1 h1x ⟨rfl, rfl⟩
      have f4 : S.length + (wa.length + 1 + 5) + wb.length ≤ 9223372036854775807 := by omega
      have f5 : S.length + (wa.length + (wb.length + 1) + 5) ≤ 9223372036854775806 := by omega
      simp -implicitDefEqProofs [callP, f1, f2, f3, w1, g1, x1]
      intro _
      refine (db h1x).mono ?_
      rintro v2 h2x ⟨rfl, rfl⟩
      simp -implicitDefEqProofs [callP, f1, f2, f3, f4, f5, w1, g1, x1]
      intro _
      exact ⟨mk - i1, by omega, i1, rfl, by omega, rfl, by simp, by rw [hi1, hnx]; simp, by simp, by simp [hcs]⟩
    · have him : i = mk := by omega
      rw [him, List.take_of_length_le (by omega)] at g4
      rw [him, List.take_of_length_le (by omega)]
      simp -implicitDefEqProofs [g1, g4, x1]
      obtain ⟨L2, hL2⟩ : ∃ L, L = L1 ++ X2 := ⟨_, rfl⟩
      rw [← hL2, ← hcs]
      clear him gi hc hi g1 g4 x1
      refine vc_loop (JPr 8 cs L2 X3 mp H1) mp ⟨0, by omega, by omega, rfl, by simp, by simp, by simp, by simp⟩ ?_
      rintro n2 ⟨T2, ⟨x2', H2⟩⟩ ⟨i, rfl, hi, hH, g1, g4, gi, x1⟩
      simp at hH g1 g4 gi x1
      subst hH
      rw [hcs] at x1
      simp -implicitDefEqProofs [g1, g4, gi, x1]
      refine condQ_of (fun hc => ?_) (fun hc => ?_) <;> simp only [decide_eq_true_eq, decide_eq_false_iff_not] at hc
      · have hil : i < mp := by omega
        have hti : v.poles[i]? = some v.poles[i] := List.getElem?_eq_getElem (by omega)
        obtain ⟨t, ht⟩ : ∃ t, t = v.poles[i] := ⟨_, rfl⟩
        rw [← ht] at hti
        obtain ⟨_, b, o, wb, cb, rb, rfl, hb, hd, hlc, _⟩ := h3.at 3 V.poleC_len hti
        have hlc' : o + i * 3 + 3 ≤ cb.length := hlc
        have hxi : X3[i]? = some (Ln.pole t) := by rw [hX3, List.getElem?_map, hti]; rfl
        have hnx := joinB_next (pre := L2) hxi
        have ok := hok (Ln.pole t) (by rw [hall]; exact List.mem_append_right _ (List.mem_append_right _ (List.mem_append_right _ (List.mem_of_getElem? hxi))))
        have lS := hlen (L2 ++ X3.take i) (X3.drop i) (by rw [hall, hL2, hL1, List.append_assoc, List.append_assoc, List.append_assoc, List.take_append_drop])
        simp only [Ln.ok] at ok
        have la := itoa_len (n := t.x) (by omega)
        have lb := itoa_len (n := t.y) (by omega)
        have lc := itoa_len (n := t.r) (by omega)
        have da := fun H => F.decimal_ok t.x (by omega) H
        have db := fun H => F.decimal_ok t.y (by omega) H
        have dc := fun H => F.decimal_ok t.r (by omega) H
        obtain ⟨S, hS⟩ : ∃ S, S = joinB (L2 ++ X3.take i) := ⟨_, rfl⟩
        rw [← hS] at lS g4 hnx ⊢
        have hby : (Ln.pole t).bytes = [112, 111, 108, 101, 32] ++ (Lib.itoa t.x ++ 32 :: (Lib.itoa t.y ++ 32 :: Lib.itoa t.r)) := by simp [Ln.bytes, Ln.word, Ln.nums, numsB, wPole]
        rw [hby] at hnx
        obtain ⟨wa, hwa⟩ : ∃ w, w = Lib.itoa t.x := ⟨_, rfl⟩
        obtain ⟨wb, hwb⟩ : ∃ w, w = Lib.itoa t.y := ⟨_, rfl⟩
        obtain ⟨wc, hwc⟩ : ∃ w, w = Lib.itoa t.r := ⟨_, rfl⟩
        rw [← hwa] at la da hnx
        rw [← hwb] at lb db hnx
        rw [← hwc] at lc dc hnx
        obtain ⟨i1, hi1⟩ : ∃ i1, i1 = i + 1 := ⟨_, rfl⟩
        have w1 : IntKind.wrap .i64 ((i : Int) + 1) = (i1 : Int) := by rw [i64wrap (by omega)]; omega
        have f1 : S.length ≤ 9223372036854775802 := by omega
        have f2 : S.length + 5 + wa.length ≤ 9223372036854775807 := by omega
        have f3 : S.length + (wa.length + 5) ≤ 9223372036854775806 := by omega
        have f4 : S.length + (wa.length + 1 + 5) + wb.length ≤ 9223372036854775807 := by omega
        have f5 : S.length + (wa.length + (wb.length + 1) + 5) ≤ 9223372036854775806 := by omega
        have f6 : S.length + (wa.length + (wb.length + 1 + 1) + 5) + wc.length ≤ 9223372036854775807 := by omega
        have f7 : S.length + (wa.length + (wb.length + (wc.length + 1) + 1) + 5) ≤ 9223372036854775806 := by omega
        simp -implicitDefEqProofs [g1, g4, gi, x1, hil, hb, hd, hlc', poleC, f1]
        refine (da H2).mono ?_
        rintro v1 h1x ⟨rfl, rfl⟩
        simp -implicitDefEqProofs [callP, f1, f2, f3, w1, g1, x1]
        intro _
        refine (db h1x).mono ?_
        rintro v2 h2x ⟨rfl, rfl⟩
        simp -implicitDefEqProofs [callP, f1, f2, f3, f4, f5, w1, g1, x1]
        intro _
        refine (dc h2x).mono ?_
        rintro v2 h3x ⟨rfl, rfl⟩
        simp -implicitDefEqProofs [callP, f1, f2, f3, f4, f5, f6, f7, w1, g1, x1]
        intro _
        exact ⟨mp - i1, by omega, i1, rfl, by omega, rfl, by simp, by rw [hi1, hnx]; simp, by simp, by simp [hcs]⟩
      · have him : i = mp := by omega
        rw [him, List.take_of_length_le (by omega)] at g4
        rw [him, List.take_of_length_le (by omega)]
        have hfin : L2 ++ X3 = linesV v := by rw [hall, hL2, hL1]; simp
        rw [hfin] at g4 ⊢
        simp -implicitDefEqProofs [g1, g4, x1]
end Go.Proofs.Yph
/- The parser's laws: what is read may be; what it says is what the document says. -/
namespace Go.Proofs.Yph
open Go Go.Am
set_option maxRecDepth 20000
set_option maxHeartbeats 4000000
open T (Tok tokC tokV spotV TokS allV allL nextV)
open V (SeatR PoleR VenR seatC poleC intC inB IntS lessS lessS_iff SortedS Ri killedL findA atS mayV wrongV seatsOK pairOK killsOK)
open F (FR ChA GlobOK)
def lins : List (List UInt8) := [[115, 101, 97, 116, 32, 48, 32, 48, 32, 48], [115, 101, 97, 116, 32, 48, 32, 49, 48, 32, 48], [115, 101, 97, 116, 32, 48, 32, 50, 48, 32, 48], [119, 104, 101, 101, 108, 32, 49, 32, 48, 32, 49, 48], [99, 111, 109, 112, 97, 110, 105, 111, 110, 32, 49, 32, 49, 48, 32, 49, 48], [115, 101, 97, 116, 32, 49, 32, 50, 48, 32, 49, 48], [103, 97, 112, 32, 49, 48], [103, 97, 112, 32, 49, 48], [114, 97, 100, 105, 117, 115, 32, 53], [107, 105, 108, 108, 32, 48, 32, 49, 48], [107, 105, 108, 108, 32, 48, 32, 48], [112, 111, 108, 101, 32, 51, 32, 52, 32, 53], [], [35, 32, 114, 101, 109, 97, 114, 107], [115, 101, 97, 116, 32, 50, 32, 53], [115, 101, 97, 116, 32, 50, 32, 53, 32, 53, 32, 53], [107, 105, 108, 108, 32, 57, 32, 57], [112, 111, 108, 101, 32, 49, 32, 49, 32, 48], [114, 97, 100, 105, 117, 115, 32, 45, 49], [115, 101, 97, 116, 32, 49, 48, 48, 48, 32, 48, 32, 48], [115, 101, 97, 116, 32, 48, 32, 49, 48, 52, 56, 53, 55, 55, 32, 48], [103, 97, 112, 32, 120], [99, 104, 97, 105, 114, 32, 49, 32, 49, 32, 49], [53, 32, 115, 101, 97, 116], [115, 101, 97, 116, 32, 51, 32, 48, 32, 48, 32, 35, 32, 120], [32, 32, 115, 101, 97, 116, 32, 52, 32, 48, 32, 48, 32, 32], [115, 101, 97, 116, 32, 53, 32, 48, 32, 48, 59], [114, 97, 100, 105, 117, 115, 32, 48], [115, 101, 97, 116, 32, 50, 32, 45, 55, 32, 51], [119, 104, 101, 101, 108, 32, 50, 32, 56, 32, 51]]
def lin (x : Int) : List UInt8 := lins.getD (T.pieceN x) []
def linesL (l : List Int) : List UInt8 := l.flatMap fun x => lin x ++ [10]
theorem lin_len (x : Int) : (lin x).length ≤ 20 := by
  have h : ∀ n, n < 30 → (lins.getD n []).length ≤ 20 := by decide
  exact h _ (by unfold T.pieceN; omega)
theorem linesL_len (l : List Int) : (linesL l).length ≤ 21 * l.length := by
  induction l with
  | nil => simp [linesL]
  | cons x r ih => simp only [linesL, List.flatMap_cons, List.length_append, List.length_cons, List.length_nil] at ih ⊢; have := lin_len x; omega
def J10p (s0 : Value) (l : List Int) (most : Nat) (h : Heap) (n : Nat) (σ : St) : Prop := ∃ i : Nat, n = l.length - i ∧ i ≤ l.length ∧ i ≤ most ∧ σ.t.get 0 = some s0 ∧ σ.t.get 1 = some (.int .i64 most) ∧ σ.t.get 5 = some (.slice (some ⟨h.n, 0, none⟩) 30 30) ∧
  σ.t.get 6 = some (.string (B (linesL (l.take i)))) ∧ σ.t.get 7 = some (.int .i64 i) ∧ Ext h σ.m.h ∧ σ.m.h.f h.n = .row true 9 (lins.map fun p => .string (B p)) ∧ h.n < σ.m.h.n
theorem ptext_ok (s : Value) (l : List Int) (most : Nat) (hm : most ≤ 1000) (hl : l.length ≤ 1152921504606846976) (h : Heap) (hs : IntsA h s l) :
    ACalls PP 10 [s, .int .i64 most] h (fun v h' => Ext h h' ∧ v = .string (B (linesL (l.take most)))) := by
  refine acalls_of_vc mix fn10 bodyEq10 rfl (by show 2 ≤ 36; decide) ok10 ?_
  simp only [body10, Tryz.f10]
  have hnl : noLoc s = true := by obtain ⟨ad, c, rfl, _⟩ := hs; rfl
  obtain ⟨ad, c, rfl, hz⟩ := hs
  simp [opBuildSlice, T.hr30]
  refine vc_loop (J10p (.slice ad l.length c) l most h) _ ⟨0, rfl, by omega, by omega, by simp, by simp, by simp, by simp [linesL], by simp, Ext.new _ _, by simp [lins], by simp⟩ ?_
  rintro n ⟨Tf, ⟨x, H⟩⟩ ⟨i, rfl, hi, him, g0, g1, g5, g6, g7, hE, hrow, hn⟩
  simp at g0 g1 g5 g6 g7 hE hn
  have hrow : H.f h.n = .row true 9 (lins.map fun p => .string (B p)) := hrow
  simp [g0, g1, g5, g6, g7]
  by_cases h1 : i < l.length
  · by_cases h2 : i < most
    · obtain ⟨b, w, cs, rfl, hb, hbn⟩ : ∃ b w cs, ad = some (⟨b, 0, none⟩ : Addr) ∧ h.f b = .row w 3 (l.map (Value.int .i64) ++ cs) ∧ b < h.n := by
        rcases hz with rfl | z
        · simp at h1
        · exact z
      have hb2 : H.f b = .row w 3 (l.map (Value.int .i64) ++ cs) := by rw [hE.f b hbn, hb]
      have hx : l[i]? = some l[i] := List.getElem?_eq_getElem h1
      obtain ⟨rest, hd⟩ : ∃ rest, (l.map (Value.int .i64) ++ cs).drop i = .int .i64 l[i] :: rest := by
        refine ⟨(l.drop (i + 1)).map (Value.int .i64) ++ cs, ?_⟩
        rw [List.drop_append_of_le_length (by simp; omega), ← List.map_drop, List.drop_eq_getElem_cons h1]; rfl
      obtain ⟨cells, hcells⟩ : ∃ cells, cells = l.map (Value.int .i64) ++ cs := ⟨_, rfl⟩
      have hcl : i + 1 ≤ cells.length := by rw [hcells]; simp; omega
      rw [← hcells] at hb2 hd
      obtain ⟨R, hR⟩ : ∃ R, R = lins.map fun p => Value.string (B p) := ⟨_, rfl⟩
      have hRl : R.length = 30 := by rw [hR]; rfl
      obtain ⟨r, hr⟩ : ∃ r, r = T.pieceN l[i] := ⟨_, rfl⟩
      have hr30 : r < 30 := by rw [hr]; unfold T.pieceN; omega
      obtain ⟨rest2, hd2⟩ : ∃ rest2, R.drop r = .string (B (lin l[i])) :: rest2 := by
        refine ⟨R.drop (r + 1), ?_⟩
        rw [List.drop_eq_getElem_cons (by omega)]
        congr 1
        subst hR
        rw [List.getElem_map, lin, ← hr, List.getD_eq_getElem?_getD, List.getElem?_eq_getElem (by simpa using hRl ▸ hr30)]
        rfl
      rw [← hR] at hrow
      obtain ⟨q, hq⟩ : ∃ q : Int, q = l[i] % 18446744073709551616 := ⟨_, rfl⟩
      have e1 : IntKind.wrap .u64 l[i] = q := by rw [u64wrap_mod, hq]
      have e2 : q.tmod 30 = (r : Int) := by
        rw [Int.tmod_eq_emod_of_nonneg (by omega), hr, T.pieceN, ← hq]; omega
      have e3 : IntKind.wrap .u64 30 = 30 := by rw [u64wrap (by omega)]
      have e4 : IntKind.wrap .i64 ((i : Int) + 1) = ((i + 1 : Nat) : Int) := by rw [i64wrap (by omega)]; omega
      have hlen : (linesL (l.take i)).length ≤ 21 * i := by have := linesL_len (l.take i); rw [List.length_take] at this; omega
      have hpl := lin_len l[i]
      have hfit : (linesL (l.take i)).length + (lin l[i]).length ≤ 9223372036854775807 := by omega
      have hfit2 : (linesL (l.take i)).length + (lin l[i]).length + 1 ≤ 9223372036854775807 := by omega
      have hsn : linesL (l.take (i + 1)) = linesL (l.take i) ++ (lin l[i] ++ [10]) := by rw [List.take_add_one, hx, linesL, linesL, List.flatMap_append]; simp
      have hl2 : r + 1 ≤ 30 := by omega
      have hr31 : (r : Int) < 30 := by omega
      simp [h1, h2, g0, g1, g5, g6, g7, hb2, hd, hcl, hx, e1, e2, e3, hrow, hRl, hd2, hr30, hr31, hl2, hfit, hfit2, e4]
      exact ⟨l.length - (i + 1), by omega, i + 1, rfl, by omega, by omega, by simp [g0], by simp [g1], by simp [g5], by rw [hsn]; simp, by simp, hE, hR ▸ hrow, hn⟩
    · have : i = most := by omega
      subst this
      simp [h1, g0, g1, g5, g6, g7]
      exact hE
  · have : l.take most = l.take i := by rw [List.take_of_length_le (by omega), List.take_of_length_le (by omega)]
    simp [h1, g0, g1, g5, g6, g7, this]
    exact hE
end Go.Proofs.Yph
/- What is read may be. -/
namespace Go.Proofs.Yph
open Go Go.Am
set_option maxRecDepth 20000
set_option linter.constructorNameAsVariable false
set_option maxHeartbeats 4000000
open T (Tok tokC tokV spotV TokS allV allL nextV)
open V (SeatR PoleR VenR seatC poleC intC inB IntS lessS lessS_iff SortedS Ri killedL findA atS mayV wrongV seatsOK pairOK killsOK)
open F (FR ChA GlobOK)
def gap10 : List UInt8 := [103, 97, 112, 32, 49, 48, 10]
theorem may_small {w : VenR} (h : mayV w = true) : V.venSmall w := by
  have h1 := may_seats h
  have h2 := may_kills h
  refine ⟨?_, by omega, ?_⟩
  · unfold seatsOK at h1; simp at h1; omega
  · cases q : V.polesOK w.poles with
    | true => unfold V.polesOK at q; simp at q; omega
    | false =>
      unfold mayV wrongV at h
      rw [decide_eq_true_eq] at h
      split at h
      · cases h
      split at h
      · cases h
      split at h
      · cases h
      split at h
      · cases h
      cases h
theorem pmay_ok (s : List UInt8) (lv : Value) (l : List Int) (hl : l.length ≤ 1152921504606846976) (h : Heap) (G : GlobOK h) (hi : IntsA h lv l) :
    ACalls PP 4 [.string (B s), lv] h (fun v h' => Ext h h' ∧ v = .bool true) := by
  refine acalls_of_vc mix fn4 bodyEq4 rfl (by show 2 ≤ 61; decide) ok4 ?_
  simp only [body4, Tryz.f4]
  obtain ⟨ad, c, rfl, _⟩ := id hi
  obtain ⟨n, hn⟩ : ∃ n, n = s.length := ⟨_, rfl⟩
  by_cases h3 : 300 < s.length
  · have h3' : (300 : Int) < (s.length : Int) := by omega
    simp -implicitDefEqProofs [h3, h3']
    refine (told_ok h G).mono ?_
    rintro v H1 ⟨E1, rfl⟩
    simp -implicitDefEqProofs [callQ]
    intro _
    exact E1
  · have h3' : ¬ (300 : Int) < (s.length : Int) := by omega
    simp -implicitDefEqProofs [h3, h3']
    refine (venue_ok s (by omega) h).mono ?_
    rintro v H1 ⟨E1, hV⟩
    have fin : ∀ (sv : List Value) (Ev : Value) (b : Bool), True := fun _ _ _ => trivial
    have htx := fun H E => T.IntsA.ext (h := h) (h' := H) hi E
    obtain ⟨u, hu⟩ : ∃ u, u = linesL (l.take 20) := ⟨_, rfl⟩
    have hul : u.length ≤ 420 := by rw [hu]; have := linesL_len (l.take 20); have h2 : (l.take 20).length ≤ 20 := by rw [List.length_take]; omega
                                    omega
    have tx := fun H E => ptext_ok _ l 20 (by omega) hl H (htx H E)
    rw [← hu] at tx
    have hgl : (gap10 ++ u).length ≤ 1048576 := by rw [List.length_append]; have : gap10.length = 7 := rfl; omega
    cases hp : (parO s).1 with
    | none =>
      rw [hp] at hV
      obtain ⟨w, co, hw, hc, rfl⟩ := hV
      obtain ⟨s', k', p', rfl, v1, v2, v3⟩ := id hc
      obtain ⟨ad1, cc1, rfl⟩ := v1.shape
      obtain ⟨ad2, cc2, rfl⟩ := v2.shape
      obtain ⟨ad3, cc3, rfl⟩ := v3.shape
      have hmw : mayV w = true := hw.2.2.2.2.2.2.2
      simp -implicitDefEqProofs [callQ]
      intro _
      refine (tx H1 E1).mono ?_
      rintro v H2 ⟨E2, rfl⟩
      have hfit : 7 + u.length ≤ 9223372036854775807 := by omega
      simp -implicitDefEqProofs [callQ, hfit]
      intro _
      refine (venue_ok (gap10 ++ u) hgl H2).mono ?_
      rintro v H3 ⟨E3, hU⟩
      have hcw := (hc.ext E2).ext E3
      have rm := V.rmay_ok w _ (may_small hmw) H3 hcw
      rw [hmw] at rm
      cases hq : (parO (gap10 ++ u)).1 with
      | none =>
        rw [hq] at hU
        obtain ⟨w2, co2, hw2, hc2, rfl⟩ := hU
        obtain ⟨s', k', p', rfl, u1, u2, u3⟩ := id hc2
        obtain ⟨ad1', cc1', rfl⟩ := u1.shape
        obtain ⟨ad2', cc2', rfl⟩ := u2.shape
        obtain ⟨ad3', cc3', rfl⟩ := u3.shape
        have hmw2 : mayV w2 = true := hw2.2.2.2.2.2.2.2
        have rm2 := V.rmay_ok w2 _ (may_small hmw2) H3 hc2
        rw [hmw2] at rm2
        simp -implicitDefEqProofs [callQ]
        intro _
        refine rm.mono ?_
        rintro r H4 ⟨e, rfl⟩
        replace e := e.symm
        subst e
        simp -implicitDefEqProofs [callQ]
        intro _
        refine rm2.mono ?_
        rintro r H4 ⟨e, rfl⟩
        replace e := e.symm
        subst e
        simp -implicitDefEqProofs [callQ]
        intro _
        refine (told_ok H3 (((G.ext E1).ext E2).ext E3)).mono ?_
        rintro v H5 ⟨E5, rfl⟩
        simp -implicitDefEqProofs [callQ]
        intro _
        exact ((E1.trans E2).trans E3).trans E5
      | some e =>
        rw [hq] at hU
        obtain ⟨E, rfl, hE⟩ := hU
        obtain ⟨be, rfl⟩ := err_shape (h := H3) (a := e.1) (b := e.2) ⟨Ext.rfl' _, hE⟩
        simp -implicitDefEqProofs [callQ, V.zVen]
        intro _
        refine rm.mono ?_
        rintro r H4 ⟨e, rfl⟩
        replace e := e.symm
        subst e
        simp -implicitDefEqProofs [callQ]
        intro _
        refine (told_ok H3 (((G.ext E1).ext E2).ext E3)).mono ?_
        rintro v H5 ⟨E5, rfl⟩
        simp -implicitDefEqProofs [callQ]
        intro _
        exact ((E1.trans E2).trans E3).trans E5
    | some e0 =>
      rw [hp] at hV
      obtain ⟨E0, rfl, hE0⟩ := hV
      obtain ⟨be0, rfl⟩ := err_shape (h := H1) (a := e0.1) (b := e0.2) ⟨Ext.rfl' _, hE0⟩
      simp -implicitDefEqProofs [callQ, V.zVen]
      intro _
      refine (tx H1 E1).mono ?_
      rintro v H2 ⟨E2, rfl⟩
      have hfit : 7 + u.length ≤ 9223372036854775807 := by omega
      simp -implicitDefEqProofs [callQ, hfit]
      intro _
      refine (venue_ok (gap10 ++ u) hgl H2).mono ?_
      rintro v H3 ⟨E3, hU⟩
      have hcd : F.codeL (errL e0.1 e0.2) = 2 := rfl
      cases hq : (parO (gap10 ++ u)).1 with
      | none =>
        rw [hq] at hU
        obtain ⟨w2, co2, hw2, hc2, rfl⟩ := hU
        obtain ⟨s', k', p', rfl, u1, u2, u3⟩ := id hc2
        obtain ⟨ad1', cc1', rfl⟩ := u1.shape
        obtain ⟨ad2', cc2', rfl⟩ := u2.shape
        obtain ⟨ad3', cc3', rfl⟩ := u3.shape
        have hmw2 : mayV w2 = true := hw2.2.2.2.2.2.2.2
        have rm2 := V.rmay_ok w2 _ (may_small hmw2) H3 hc2
        rw [hmw2] at rm2
        simp -implicitDefEqProofs [callQ]
        intro _
        refine rm2.mono ?_
        rintro r H4 ⟨e, rfl⟩
        replace e := e.symm
        subst e
        simp -implicitDefEqProofs [callQ]
        intro _
        refine (told_ok H3 (((G.ext E1).ext E2).ext E3)).mono ?_
        rintro v H5 ⟨E5, rfl⟩
        simp -implicitDefEqProofs [callQ]
        intro _
        refine (F.code_ok _ _ H5 ((((G.ext E1).ext E2).ext E3).ext E5) (hE0.ext ((E2.trans E3).trans E5))).mono ?_
        rintro v H6 ⟨E6, rfl⟩
        simp -implicitDefEqProofs [callQ, hcd]
        intro _
        exact (((E1.trans E2).trans E3).trans E5).trans E6
      | some e =>
        rw [hq] at hU
        obtain ⟨E, rfl, hE⟩ := hU
        obtain ⟨be, rfl⟩ := err_shape (h := H3) (a := e.1) (b := e.2) ⟨Ext.rfl' _, hE⟩
        simp -implicitDefEqProofs [callQ, V.zVen]
        intro _
        refine (told_ok H3 (((G.ext E1).ext E2).ext E3)).mono ?_
        rintro v H5 ⟨E5, rfl⟩
        simp -implicitDefEqProofs [callQ]
        intro _
        refine (F.code_ok _ _ H5 ((((G.ext E1).ext E2).ext E3).ext E5) (hE0.ext ((E2.trans E3).trans E5))).mono ?_
        rintro v H6 ⟨E6, rfl⟩
        simp -implicitDefEqProofs [callQ, hcd]
        intro _
        exact (((E1.trans E2).trans E3).trans E5).trans E6
end Go.Proofs.Yph
/- A made venue, printed and turned about, is read as it was: the walk. -/
namespace Go.Proofs.Yph
open Go Go.Am
set_option maxRecDepth 20000
set_option linter.constructorNameAsVariable false
set_option maxHeartbeats 4000000
open T (numsB no10)
open V (SeatR PoleR VenR seatC poleC intC seatV mayV Made VenO VenC IntS)
def modU (x : Int) (m : Nat) : Nat := ((x % 18446744073709551616) % (m : Int)).toNat
def strC (b : List UInt8) : List Value := [.string (B b)]
theorem strC_len (b : List UInt8) : (strC b).length = 1 := rfl
theorem line_no10 (l : Ln) (h : l.ok) : no10 l.bytes := by
  have := (good_put 0 [] T.quiet_nil (fun c hc => by cases hc) l h).1
  simpa using this
theorem line_head (l : Ln) (h : l.ok) : ∃ c r, l.bytes = c :: r ∧ (c.toNat = 112 ↔ isP l = true) := by
  cases l with
  | gap g => exact ⟨103, _, rfl, by show _ ↔ false = true; decide⟩
  | rad g => exact ⟨114, _, rfl, by show _ ↔ false = true; decide⟩
  | kill a b => exact ⟨107, _, rfl, by show _ ↔ false = true; decide⟩
  | pole p => exact ⟨112, _, rfl, by show _ ↔ true = true; decide⟩
  | seat s =>
    simp only [Ln.ok] at h
    have e : ∀ k : Int, (Ln.seat s).bytes = wordK s.kind ++ numsB (Ln.seat s).nums := fun _ => rfl
    rw [e 0]
    rcases (by omega : s.kind = 0 ∨ s.kind = 1 ∨ s.kind = 2) with q | q | q <;> rw [q]
    · exact ⟨115, _, rfl, by show _ ↔ false = true; decide⟩
    · exact ⟨119, _, rfl, by show _ ↔ false = true; decide⟩
    · exact ⟨99, _, rfl, by show _ ↔ false = true; decide⟩
theorem joinB_split {L : List Ln} {j : Nat} {l : Ln} (h : L[j]? = some l) : joinB L = joinB (L.take j) ++ (l.bytes ++ 10 :: joinB (L.drop (j + 1))) := by
  have hd : L.drop j = l :: L.drop (j + 1) := by
    have hlt := (List.getElem?_eq_some_iff.mp h).1
    rw [List.drop_eq_getElem_cons hlt]
    congr 1
    rw [List.getElem?_eq_getElem hlt] at h
    exact Option.some.inj h
  conv => lhs; rw [← List.take_append_drop j L]
  rw [joinB_app, hd]
  have : joinB (l :: L.drop (j + 1)) = l.bytes ++ 10 :: joinB (L.drop (j + 1)) := by simp [joinB, joinL]
  rw [this]
/-- the lines that are cut off, so far -/
def J5a (LL : List Ln) (cs : List Value) (S : List UInt8) (at_ : Int) (h1 : Heap) (n : Nat) (σ : St) : Prop := ∃ (j q : Nat) (o : Option Nat) (lv : Value), n = S.length - ((joinB (LL.take j)).length + q) ∧ j ≤ LL.length ∧
  (q = 0 ∨ ∃ l, LL[j]? = some l ∧ q ≤ l.bytes.length) ∧ Ext h1 σ.m.h ∧ V.OwO 9 strC h1 σ.m.h o ((LL.take j).map Ln.bytes) lv ∧ σ.t.get 1 = some (.int .i64 at_) ∧ σ.t.get 5 = some (.pointer (some ⟨5, 0, some 0⟩)) ∧ σ.m.x.look 5 = some (33, cs) ∧
  σ.t.get 6 = some (.string (B S)) ∧ σ.t.get 8 = some lv ∧ σ.t.get 9 = some (.int .i64 (joinB (LL.take j)).length) ∧ σ.t.get 10 = some (.int .i64 ((joinB (LL.take j)).length + q : Nat))
theorem joinL_len (c : Nat) : ∀ (L : List (List UInt8)), (∀ b ∈ L, b.length ≤ c) → (joinL L).length ≤ (c + 1) * L.length := by
  intro L
  induction L with
  | nil => intro _; simp [joinL]
  | cons b L ih =>
    intro h
    have h1 := h b List.mem_cons_self
    have h2 := ih (fun b hb => h b (List.mem_cons_of_mem _ hb))
    have e : joinL (b :: L) = b ++ 10 :: joinL L := by simp [joinL]
    rw [e, List.length_append, List.length_cons, List.length_cons, Nat.mul_add]
    omega
theorem joinL_app (A B : List (List UInt8)) : joinL (A ++ B) = joinL A ++ joinL B := by simp [joinL]
theorem joinL_one (b : List UInt8) : joinL [b] = b ++ [10] := by simp [joinL]
theorem wrapB_eq (l : Ln) : wrapB l = 32 :: 32 :: (l.bytes ++ [9, 35, 32, 108, 105, 110, 101, 13]) := rfl
theorem bareB_eq (l : Ln) : bareB l = l.bytes := by show [] ++ (l.bytes ++ []) = _; simp
def txtR (rot : List Ln) (i : Nat) : List UInt8 := 35 :: 32 :: 97 :: 32 :: 118 :: 101 :: 110 :: 117 :: 101 :: 10 :: 10 :: joinL (((rot.take i).filter isN).map wrapB)
theorem txtR_P {rot : List Ln} {i : Nat} {l : Ln} (h : rot[i]? = some l) (hp : isP l = true) : txtR rot (i + 1) = txtR rot i := by
  unfold txtR
  rw [List.take_add_one, h, Option.toList_some, List.filter_append]
  have : [l].filter isN = [] := by simp [isN, hp]
  rw [this, List.append_nil]
theorem txtR_N {rot : List Ln} {i : Nat} {l : Ln} (h : rot[i]? = some l) (hp : isP l = false) : txtR rot (i + 1) = txtR rot i ++ (32 :: 32 :: (l.bytes ++ [9, 35, 32, 108, 105, 110, 101, 13, 10])) := by
  unfold txtR
  rw [List.take_add_one, h, Option.toList_some, List.filter_append]
  have : [l].filter isN = [l] := by simp [isN, hp]
  rw [this, List.map_append, joinL_app, List.map_cons, List.map_nil, joinL_one, wrapB_eq]
  simp
theorem txtR_len {rot : List Ln} (h : ∀ l ∈ rot, l.ok) (i : Nat) (hi : rot.length ≤ 80) : (txtR rot i).length ≤ 9000 := by
  unfold txtR
  have h1 := joinL_len 109 (((rot.take i).filter isN).map wrapB) (fun b hb => by
    obtain ⟨l, hl, rfl⟩ := List.mem_map.1 hb
    have := bytes_len l (h l (List.mem_of_mem_take (List.mem_filter.1 hl).1))
    rw [wrapB_eq]; simp; omega)
  have h2 : (((rot.take i).filter isN).map wrapB).length ≤ rot.length := by
    rw [List.length_map]
    have := List.length_filter_le isN (rot.take i)
    have := List.length_take_le i rot
    have := List.length_take (i := i) (l := rot)
    omega
  simp only [List.length_cons]
  omega
def txtP (rot LL : List Ln) (i : Nat) : List UInt8 := txtR rot rot.length ++ joinL (((LL.take i).filter isP).map bareB)
theorem txtP_N {rot LL : List Ln} {i : Nat} {l : Ln} (h : LL[i]? = some l) (hp : isP l = false) : txtP rot LL (i + 1) = txtP rot LL i := by
  unfold txtP
  rw [List.take_add_one, h, Option.toList_some, List.filter_append]
  have : [l].filter isP = [] := by simp [hp]
  rw [this, List.append_nil]
theorem txtP_P {rot LL : List Ln} {i : Nat} {l : Ln} (h : LL[i]? = some l) (hp : isP l = true) : txtP rot LL (i + 1) = txtP rot LL i ++ (l.bytes ++ [10]) := by
  unfold txtP
  rw [List.take_add_one, h, Option.toList_some, List.filter_append]
  have : [l].filter isP = [l] := by simp [hp]
  rw [this, List.map_append, joinL_app, List.map_cons, List.map_nil, joinL_one, bareB_eq]
  simp
theorem txtP_len {rot LL : List Ln} (h : ∀ l ∈ rot, l.ok) (h' : ∀ l ∈ LL, l.ok) (i : Nat) (hi : rot.length ≤ 80) (hi' : LL.length ≤ 80) : (txtP rot LL i).length ≤ 18000 := by
  unfold txtP
  have h0 := txtR_len h rot.length hi
  have h1 := joinL_len 99 (((LL.take i).filter isP).map bareB) (fun b hb => by
    obtain ⟨l, hl, rfl⟩ := List.mem_map.1 hb
    have := bytes_len l (h' l (List.mem_of_mem_take (List.mem_filter.1 hl).1))
    rw [bareB_eq]; exact this)
  have h2 : (((LL.take i).filter isP).map bareB).length ≤ LL.length := by
    rw [List.length_map]
    have := List.length_filter_le isP (LL.take i)
    have := List.length_take (i := i) (l := LL)
    omega
  rw [List.length_append]
  omega
theorem flat_str (L : List Ln) : (L.map Ln.bytes).flatMap strC = L.map (fun l => Value.string (B l.bytes)) := by
  induction L with
  | nil => rfl
  | cons a r ih => rw [List.map_cons, List.flatMap_cons, ih]; rfl
theorem rot_get {LL : List Ln} {k i n : Nat} (hn : LL.length = n) (hk : k < n) (hi : i < n) : (LL.drop k ++ LL.take k)[i]? = LL[(i + k) % n]? := by
  rcases Nat.lt_or_ge (i + k) n with z | z
  · rw [Nat.mod_eq_of_lt z, List.getElem?_append_left (by rw [List.length_drop]; omega), List.getElem?_drop]
    congr 1; omega
  · have e : (i + k) % n = i + k - n := by rw [Nat.mod_eq_sub_mod z, Nat.mod_eq_of_lt (by omega)]
    rw [e, List.getElem?_append_right (by rw [List.length_drop]; omega), List.length_drop, List.getElem?_take, if_pos (by omega)]
    congr 1; omega
def J5b (rot : List Ln) (cs : List Value) (bl n k : Nat) (H : Heap) (m : Nat) (σ : St) : Prop := ∃ i : Nat, m = n - i ∧ i ≤ n ∧ σ.m.h = H ∧ σ.t.get 5 = some (.pointer (some ⟨5, 0, some 0⟩)) ∧ σ.m.x.look 5 = some (33, cs) ∧
  σ.t.get 8 = some (.slice (some ⟨bl, 0, none⟩) n n) ∧ σ.t.get 11 = some (.int .i64 (k : Nat)) ∧ σ.t.get 12 = some (.string (B (txtR rot i))) ∧ σ.t.get 13 = some (.int .i64 (i : Nat))
def J5c (rot LL : List Ln) (cs : List Value) (bl n : Nat) (H : Heap) (m : Nat) (σ : St) : Prop := ∃ i : Nat, m = n - i ∧ i ≤ n ∧ σ.m.h = H ∧ σ.t.get 5 = some (.pointer (some ⟨5, 0, some 0⟩)) ∧ σ.m.x.look 5 = some (33, cs) ∧
  σ.t.get 8 = some (.slice (some ⟨bl, 0, none⟩) n n) ∧ σ.t.get 12 = some (.string (B (txtP rot LL i))) ∧ σ.t.get 15 = some (.int .i64 (i : Nat))
theorem pback_ok (lv : Value) (l : List Int) (at_ : Int) (hl : l.length ≤ 1152921504606846976) (h : Heap) (G : F.GlobOK h) (hi : IntS h lv l) :
    ACalls PP 5 [lv, .int .i64 at_] h (fun v h' => Ext h h' ∧ v = .bool true) := by
  refine acalls_of_vc mix fn5 bodyEq5 rfl (by show 2 ≤ 110; decide) ok5 ?_
  simp only [body5, Tryz.f5]
  obtain ⟨ad, cap, rfl⟩ := hi.shape
  have mk := V.make_ok _ l 25 (by omega) (by omega) h hi
  simp -implicitDefEqProofs
  refine mk.mono ?_
  rintro rv h1 ⟨E1, i0, v, row, x, oa, ob, oc, cs, hi25, M, ha, hO, rfl⟩
  have hV := hO.ven
  have hlen := M.len
  have hkl := M.klen
  have hpl := M.plen
  have hok := made_lines M (by omega)
  have pr := print_ok v cs (by omega) hok (V.made_may M (by omega)) (fun k hk => by have := M.kill k hk; omega) h1 hV
  obtain ⟨sv, kv, pv, hcs, ⟨rfl, o1⟩, ⟨rfl, o2⟩, ⟨rfl, o3⟩, ap⟩ := id hO
  rw [hcs] at pr
  rw [hcs]
  simp -implicitDefEqProofs [callQ]
  intro _
  refine pr.mono ?_
  rintro rv h2 ⟨rfl, rfl⟩
  simp -implicitDefEqProofs [callQ]
  intro _
  rw [← hcs]
  obtain ⟨LL, hLL⟩ : ∃ LL, LL = linesV v := ⟨_, rfl⟩
  rw [← hLL] at hok ⊢
  have hn : LL.length ≤ 80 ∧ 2 ≤ LL.length := by rw [hLL]; unfold linesV; simp; omega
  obtain ⟨S, hS⟩ : ∃ S, S = joinB LL := ⟨_, rfl⟩
  rw [← hS]
  have hSl : S.length ≤ 8000 := by have := joinB_len LL hok; rw [hS]; omega
  refine vc_loop (J5a LL cs S at_ h2) S.length ⟨0, 0, none, _, by simp [joinB, joinL], by omega, .inl rfl, Ext.rfl' _, V.OwO.nil, by simp, by simp, by simp, by simp, by simp, by simp [joinB, joinL], by simp [joinB, joinL]⟩ ?_
  rintro nn ⟨T0, ⟨x0, H0⟩⟩ ⟨j, q, o, lv, rfl, hj, hq, EH, hOw, g1, g5, x5, g6, g8, g9, g10⟩
  simp at EH hOw g1 g5 x5 g6 g8 g9 g10
  obtain ⟨A, hA⟩ : ∃ A, A = joinB (LL.take j) := ⟨_, rfl⟩
  obtain ⟨a, haA⟩ : ∃ a, a = A.length := ⟨_, rfl⟩
  rw [← hA, ← haA] at g9 g10 ⊢
  obtain ⟨i, hia⟩ : ∃ i, i = a + q := ⟨_, rfl⟩
  have g10' : T0.get 10 = some (.int .i64 (i : Nat)) := by rw [hia]; simpa using g10
  rw [← hia]
  clear g10
  simp -implicitDefEqProofs [g1, g5, x5, g6, g8, g9, g10']
  refine condQ_of (fun hc => ?_) (fun hc => ?_) <;> simp only [decide_eq_true_eq, decide_eq_false_iff_not] at hc
  · have hjl : j < LL.length := by
      rcases Nat.lt_or_ge j LL.length with z | z
      · exact z
      · exfalso
        have e1 : LL.take j = LL := List.take_of_length_le z
        rcases hq with q0 | ⟨l, ql, _⟩
        · rw [e1, ← hS] at hA
          rw [hA] at haA
          omega
        · rw [List.getElem?_eq_none z] at ql; cases ql
    obtain ⟨ln, hln⟩ : ∃ ln, LL[j]? = some ln := ⟨_, List.getElem?_eq_getElem hjl⟩
    have hsp := joinB_split hln
    rw [← hS, ← hA] at hsp
    obtain ⟨w, hw⟩ : ∃ w, w = ln.bytes := ⟨_, rfl⟩
    obtain ⟨Z, hZ⟩ : ∃ Z, Z = joinB (LL.drop (j + 1)) := ⟨_, rfl⟩
    rw [← hw, ← hZ] at hsp
    have hlok := hok ln (List.mem_of_getElem? hln)
    have hw10 := line_no10 ln hlok
    have hwl := bytes_len ln hlok
    rw [← hw] at hw10 hwl
    have hql : q ≤ w.length := by
      rcases hq with q0 | ⟨l', ql, q2⟩
      · omega
      · rw [hln] at ql; obtain rfl := Option.some.inj ql; rw [hw]; exact q2
    have hSi : S[i]? = (w ++ 10 :: Z)[q]? := by
      rw [hsp, hia, haA, List.getElem?_append_right (by omega)]; congr 1; omega
    obtain ⟨i1, hi1⟩ : ∃ i1, i1 = i + 1 := ⟨_, rfl⟩
    have w1 : IntKind.wrap .i64 ((i : Int) + 1) = (i1 : Int) := by rw [i64wrap (by omega)]; omega
    by_cases hqw : q < w.length
    · have hsi : S[i]? = some w[q] := by rw [hSi, List.getElem?_append_left hqw, List.getElem?_eq_getElem hqw]
      obtain ⟨c, hcc⟩ : ∃ c, c = w[q] := ⟨_, rfl⟩
      have hc10 := hw10 w[q] (List.getElem_mem hqw)
      rw [← hcc] at hsi hc10
      have hc10' : ¬ (c.toNat : Int) = 10 := by omega
      simp -implicitDefEqProofs [g1, g5, x5, g6, g8, g9, g10', hsi, hc10, hc10', w1]
      exact ⟨S.length - i1, by omega, j, q + 1, o, lv, by rw [← hA]; omega, hj, .inr ⟨ln, hln, by rw [← hw]; omega⟩, EH, by rw [List.map_take]; exact hOw, by simp, by simp, by simp, by simp, by simp, by rw [← hA, ← haA]; simp, by rw [← hA, ← haA]; simp; omega⟩
    · have hqe : q = w.length := by omega
      have hsi : S[i]? = some 10 := by rw [hSi, hqe]; simp
      have hsl : (S.take i).drop a = w := by
        rw [hsp, hia, haA, hqe, List.take_append, List.drop_append]
        simp
      have hai : a ≤ i := by omega
      have hiS : i ≤ S.length := by omega
      have hr1 : List.range 1 = [0] := rfl
      have htk : LL.take (j + 1) = LL.take j ++ [ln] := by rw [List.take_add_one, hln]; rfl
      have hnx : (joinB (LL.take (j + 1))).length = i1 := by
        rw [htk, joinB_app, joinB_one, ← hA, ← hw]
        simp; omega
      obtain ⟨rfl, oz⟩ := id hOw
      cases o with
      | none =>
        simp -implicitDefEqProofs [g1, g5, x5, g6, g8, g9, g10', hsi, hsl, hai, hiS, hr1, opAppend, srcCells, opBuildSlice, maxA, w1, oz]
        have hj0 : j = 0 := by
          have e : (List.take j (List.map Ln.bytes LL)).length = 0 := by rw [show List.take j (List.map Ln.bytes LL) = [] from oz]; rfl
          rw [List.length_take, List.length_map] at e; omega
        have hxs : (LL.take (j + 1)).map Ln.bytes = [w] := by rw [htk, hj0]; simp [hw]
        exact ⟨S.length - i1, by omega, j + 1, 0, some (H0.n + 1), _, by rw [hnx]; omega, by omega, .inl rfl, (EH.newOf _).newOf _, by rw [hxs]; exact V.OwO.push0 EH.n _ _ rfl, by simp, by simp, by simp, by simp, by simp, by rw [hnx]; simp, by rw [hnx]; simp⟩
      | some bk =>
        obtain ⟨o21, o22, o23⟩ := oz
        obtain ⟨FK, hFK⟩ : ∃ F, F = (List.take j (LL.map Ln.bytes)).flatMap strC := ⟨_, rfl⟩
        have hFKl : FK.length = j := by have := flatA_len 1 strC_len (List.take j (LL.map Ln.bytes)); rw [← hFK] at this; simp at this; omega
        rw [← hFK] at o21
        have hmk : (j + 1) * 16 ≤ 140737488355328 := by omega
        have hjj : ((LL.take j).map Ln.bytes).length = j := by simp; omega
        have hjj2 : min j LL.length = j := by omega
        have e9 : FK.take j = FK := List.take_of_length_le (by omega)
        have hbk : ¬ bk = H0.n := by omega
        simp -implicitDefEqProofs [g1, g5, x5, g6, g8, g9, g10', hsi, hsl, hai, hiS, hr1, opAppend, srcCells, opBuildSlice, maxA, w1, o21, hFKl, hmk, e9, hbk, hjj2]
        have hpu := V.OwO.push hOw (.row true 9 [.string (B w)]) w (cells := FK ++ [.string (B w)]) (by rw [hFK]; simp [strC])
        have hxl : (List.take j (LL.map Ln.bytes)).length = j := by rw [List.length_take, List.length_map]; omega
        have hxs : (LL.take (j + 1)).map Ln.bytes = List.take j (LL.map Ln.bytes) ++ [w] := by rw [htk, List.map_append, List.map_take, hw]; rfl
        rw [hxl] at hpu
        exact ⟨S.length - i1, by omega, j + 1, 0, some (H0.n + 1), _, by rw [hnx]; omega, by omega, .inl rfl, V.ext_push EH o22 _ _ _, by rw [hxs]; exact hpu, by simp, by simp, by simp, by simp, by simp, by rw [hnx]; simp, by rw [hnx]; simp⟩
  · have hje : j = LL.length := by
      rcases Nat.lt_or_ge j LL.length with z | z
      · exfalso
        have hsp := joinB_split (List.getElem?_eq_getElem z)
        rw [← hS, ← hA] at hsp
        have hl := congrArg List.length hsp
        simp only [List.length_append, List.length_cons] at hl
        rcases hq with q0 | ⟨l', ql, q2⟩
        · omega
        · rw [List.getElem?_eq_getElem z] at ql
          obtain rfl := Option.some.inj ql
          omega
      · omega
    obtain ⟨n, hnn⟩ : ∃ n, n = LL.length := ⟨_, rfl⟩
    have hxs : List.take j (LL.map Ln.bytes) = LL.map Ln.bytes := List.take_of_length_le (by rw [List.length_map]; omega)
    rw [hxs] at hOw
    have hSL := hOw.own.sl
    obtain ⟨bl, rfl⟩ : ∃ b, o = some b := by
      cases o with
      | some b => exact ⟨b, rfl⟩
      | none =>
        have e : (LL.map Ln.bytes).length = 0 := by rw [show LL.map Ln.bytes = [] from hOw.2]; rfl
        rw [List.length_map] at e; omega
    obtain ⟨rfl, oz1, oz2, oz3⟩ := id hOw
    have hLn : LL.length = n := hnn.symm
    have hml : (LL.map Ln.bytes).length = n := by rw [List.length_map, hnn]
    rw [hml] at g8 hSL
    clear g10' g9 hc hq
    obtain ⟨k, hk⟩ : ∃ k, k = modU at_ n := ⟨_, rfl⟩
    obtain ⟨qa, hqa⟩ : ∃ q : Int, q = at_ % 18446744073709551616 := ⟨_, rfl⟩
    have hkn : k < n := by
      rw [hk]; unfold modU
      have := Int.emod_lt_of_pos (at_ % 18446744073709551616) (show (0 : Int) < (n : Int) by omega)
      have := Int.emod_nonneg (at_ % 18446744073709551616) (show (n : Int) ≠ 0 by omega)
      omega
    have a1 : IntKind.wrap .u64 at_ = qa := by rw [u64wrap_mod, hqa]
    have a2 : qa.tmod (n : Int) = (k : Int) := by
      rw [Int.tmod_eq_emod_of_nonneg (by omega), hk, modU, ← hqa]
      have := Int.emod_nonneg qa (show (n : Int) ≠ 0 by omega)
      omega
    have a3 : IntKind.wrap .i64 (k : Int) = (k : Int) := by rw [i64wrap (by omega)]
    have a4 : IntKind.wrap .u64 (k : Int) = (k : Int) := u64wrap (by omega)
    have a5 : IntKind.wrap .u64 (n : Int) = (n : Int) := u64wrap (by omega)
    have n0 : ¬ n = 0 := by omega
    have n0' : ¬ (n : Int) = 0 := by omega
    simp -implicitDefEqProofs [g1, g5, x5, g6, g8, a1, a2, a3, a4, a5, n0, n0', hLn]
    obtain ⟨rot, hrot⟩ : ∃ rot, rot = LL.drop k ++ LL.take k := ⟨_, rfl⟩
    have hrl : rot.length = n := by rw [hrot]; simp; omega
    have hrp : rot.Perm LL := by
      rw [hrot]
      have := (List.perm_append_comm (l₁ := LL.drop k) (l₂ := LL.take k))
      rwa [List.take_append_drop] at this
    have hrok : ∀ l ∈ rot, l.ok := fun l hl => hok l (hrp.subset hl)
    obtain ⟨FK, hFK⟩ : ∃ F, F = (LL.map Ln.bytes).flatMap strC := ⟨_, rfl⟩
    have hFKl : FK.length = n := by have := flatA_len 1 strC_len (LL.map Ln.bytes); rw [← hFK, hml] at this; omega
    rw [← hFK] at oz1
    have hFKd : ∀ (j : Nat) (ln : Ln), LL[j]? = some ln → FK.drop j = .string (B ln.bytes) :: FK.drop (j + 1) := by
      intro j ln hln
      have e : FK = LL.map (fun l => Value.string (B l.bytes)) := by rw [hFK]; exact flat_str LL
      rw [e]
      have hlt : j < (LL.map (fun l => Value.string (B l.bytes))).length := by rw [List.length_map]; exact (List.getElem?_eq_some_iff.mp hln).1
      rw [List.drop_eq_getElem_cons hlt, List.getElem_map]
      congr 3
      exact (List.getElem?_eq_some_iff.mp hln).2 ▸ rfl
    clear a1 a2 a4 a5 g1 g5 x5 g6 g8 hqa
    refine vc_loop (J5b rot cs bl n k H0) n ⟨0, by omega, by omega, rfl, by simp, by simp, by simp, by simp, by simp [txtR, joinL], by simp⟩ ?_
    rintro nn ⟨T1, ⟨x1, H1⟩⟩ ⟨i, rfl, hi', hH, g5, x5, g8, g11, g12, g13⟩
    simp at hH g5 x5 g8 g11 g12 g13
    replace hH := hH.symm
    subst hH
    simp -implicitDefEqProofs [g5, x5, g8, g11, g12, g13]
    refine condQ_of (fun hc => ?_) (fun hc => ?_) <;> simp only [decide_eq_true_eq, decide_eq_false_iff_not] at hc
    · have hin : i < n := by omega
      have hget := rot_get hLn hkn hin
      rw [← hrot] at hget
      obtain ⟨jn, hjn⟩ : ∃ jn, jn = (i + k) % n := ⟨_, rfl⟩
      have hjlt : jn < n := by rw [hjn]; exact Nat.mod_lt _ (by omega)
      rw [← hjn] at hget
      obtain ⟨ln, hln⟩ : ∃ ln, LL[jn]? = some ln := ⟨_, List.getElem?_eq_getElem (by omega)⟩
      rw [hln] at hget
      have hlok := hok ln (List.mem_of_getElem? hln)
      have hd := hFKd jn ln hln
      have hwl := bytes_len ln hlok
      have hSl2 := txtR_len hrok i (by omega)
      have hP := txtR_P hget
      have hN := txtR_N hget
      obtain ⟨c, r, hcr, hcp⟩ := line_head ln hlok
      obtain ⟨w, hw⟩ : ∃ w, w = ln.bytes := ⟨_, rfl⟩
      rw [← hw] at hd hwl hN hcr
      have hw0 : w[0]? = some c := by rw [hcr]; rfl
      obtain ⟨ik, hik⟩ : ∃ ik, ik = i + k := ⟨_, rfl⟩
      have e1 : IntKind.wrap .i64 ((i : Int) + (k : Int)) = (ik : Int) := by rw [i64wrap (by omega)]; omega
      have e2 : (ik : Int).tmod (n : Int) = (jn : Int) := by rw [Int.tmod_eq_emod_of_nonneg (by omega), hjn, hik]; exact (Int.natCast_emod _ _).symm
      have e3 : IntKind.wrap .i64 (jn : Int) = (jn : Int) := by rw [i64wrap (by omega)]
      obtain ⟨i1, hi1⟩ : ∃ i1, i1 = i + 1 := ⟨_, rfl⟩
      have w1 : IntKind.wrap .i64 ((i : Int) + 1) = (i1 : Int) := by rw [i64wrap (by omega)]; omega
      obtain ⟨X, hX⟩ : ∃ X, X = txtR rot i := ⟨_, rfl⟩
      rw [← hX] at hP hN hSl2 g12 ⊢
      have j1 : jn + 1 ≤ n := hjlt
      have f1 : X.length ≤ 9223372036854775805 := by omega
      have f2 : X.length + 2 + w.length ≤ 9223372036854775807 := by omega
      have f3 : X.length + (w.length + 2) ≤ 9223372036854775798 := by omega
      have f4 : X.length + (w.length + 1 + 1) ≤ 9223372036854775798 := by omega
      simp -implicitDefEqProofs [g5, x5, g8, g11, g12, g13, e1, e2, e3, oz1, hFKl, hd, hjlt, j1, n0, n0', hw0, f1, f2, f3, f4, w1]
      refine condQ_of (fun hz => ?_) (fun hz => ?_) <;> simp only [decide_eq_true_eq, decide_eq_false_iff_not] at hz
      · have hp := hcp.1 (by omega)
        simp -implicitDefEqProofs [g5, x5, g8, g11, g12, g13, w1]
        exact ⟨n - i1, by omega, i1, rfl, by omega, rfl, by simp, by simp, by simp, by simp, by rw [hi1, hP hp]; simp, by simp⟩
      · have hp : isP ln = false := by
          cases q : isP ln with
          | false => rfl
          | true => have := hcp.2 q; omega
        simp -implicitDefEqProofs [g5, x5, g8, g11, g12, g13, f1, f2, f3, f4, w1]
        exact ⟨n - i1, by omega, i1, rfl, by omega, rfl, by simp, by simp, by simp, by simp, by rw [hi1, hN hp]; simp, by simp⟩
    · have hie : i = n := by omega
      rw [hie] at g12
      rw [hie]
      simp -implicitDefEqProofs [g5, x5, g8, g11, g12, g13]
      clear hc hi' hie g5 x5 g8 g11 g12 g13
      refine vc_loop (J5c rot LL cs bl n H0) n ⟨0, by omega, by omega, rfl, by simp, by simp, by simp, by simp [txtP, joinL, hrl], by simp⟩ ?_
      rintro nn ⟨T2, ⟨x2, H2⟩⟩ ⟨i, rfl, hi', hH, g5, x5, g8, g12, g15⟩
      simp at hH g5 x5 g8 g12 g15
      replace hH := hH.symm
      subst hH
      simp -implicitDefEqProofs [g5, x5, g8, g12, g15]
      refine condQ_of (fun hc => ?_) (fun hc => ?_) <;> simp only [decide_eq_true_eq, decide_eq_false_iff_not] at hc
      · have hin : i < n := by omega
        obtain ⟨ln, hln⟩ : ∃ ln, LL[i]? = some ln := ⟨_, List.getElem?_eq_getElem (by omega)⟩
        have hlok := hok ln (List.mem_of_getElem? hln)
        have hd := hFKd i ln hln
        have hwl := bytes_len ln hlok
        have hSl2 := txtP_len hrok hok i (by omega) (by omega)
        have hP := txtP_P (rot := rot) hln
        have hN := txtP_N (rot := rot) hln
        obtain ⟨c, r, hcr, hcp⟩ := line_head ln hlok
        obtain ⟨w, hw⟩ : ∃ w, w = ln.bytes := ⟨_, rfl⟩
        rw [← hw] at hd hwl hP hcr
        have hw0 : w[0]? = some c := by rw [hcr]; rfl
        obtain ⟨i1, hi1⟩ : ∃ i1, i1 = i + 1 := ⟨_, rfl⟩
        have w1 : IntKind.wrap .i64 ((i : Int) + 1) = (i1 : Int) := by rw [i64wrap (by omega)]; omega
        obtain ⟨X, hX⟩ : ∃ X, X = txtP rot LL i := ⟨_, rfl⟩
        rw [← hX] at hP hN hSl2 g12 ⊢
        have j1 : i + 1 ≤ n := hin
        have f1 : X.length + w.length ≤ 9223372036854775807 := by omega
        have f2 : X.length + w.length ≤ 9223372036854775806 := by omega
        simp -implicitDefEqProofs [g5, x5, g8, g12, g15, oz1, hFKl, hd, hin, j1, hw0, w1]
        refine condQ_of (fun hz => ?_) (fun hz => ?_) <;> simp only [decide_eq_true_eq, decide_eq_false_iff_not] at hz
        · have hp := hcp.1 (by omega)
          simp -implicitDefEqProofs [g5, x5, g8, g12, g15, oz1, hFKl, hd, hin, j1, f1, f2, w1]
          exact ⟨n - i1, by omega, i1, rfl, by omega, rfl, by simp, by simp, by simp, by rw [hi1, hP hp]; simp, by simp⟩
        · have hp : isP ln = false := by
            cases q : isP ln with
            | false => rfl
            | true => have := hcp.2 q; omega
          simp -implicitDefEqProofs [g5, x5, g8, g12, g15, w1]
          exact ⟨n - i1, by omega, i1, rfl, by omega, rfl, by simp, by simp, by simp, by rw [hi1, hN hp]; simp, by simp⟩
      · have hie : i = n := by omega
        have htx : txtP rot LL n = joinL (backL v rot) := by
          have k1 : rot.take rot.length = rot := List.take_length
          have k2 : LL.take n = LL := List.take_of_length_le (by omega)
          unfold txtP txtR backL
          rw [joinL_app, joinL_app, k1, k2, hLL, show joinL [headB, []] = [35, 32, 97, 32, 118, 101, 110, 117, 101, 10, 10] from rfl]
          simp
        have hTl := txtP_len hrok hok n (by omega) (by omega)
        rw [hie, htx] at g12
        rw [htx] at hTl
        rw [hie, htx]
        obtain ⟨t1, t2⟩ := back_law M (by omega) rot (by rw [← hLL]; exact hrp)
        obtain ⟨Q, hQ⟩ : ∃ Q, Q = joinL (backL v rot) := ⟨_, rfl⟩
        rw [← hQ] at t1 t2 hTl g12 ⊢
        simp -implicitDefEqProofs [g5, x5, g8, g12, g15]
        refine (venue_ok Q (by omega) H0).mono ?_
        rintro rv K1 ⟨F1, hVe⟩
        rw [t1] at hVe
        obtain ⟨w, co, hw, hco, rfl⟩ := hVe
        obtain rfl := normed_eq hw t2
        have GK := ((G.ext E1).ext EH).ext F1
        have hvK := (hV.ext EH).ext F1
        have sm := V.rsame_ok w w co cs ⟨by omega, by omega, by omega⟩
        obtain ⟨s', k', p', hco', v1, v2, v3⟩ := id hco
        obtain ⟨ad1, cc1, rfl⟩ := v1.shape
        obtain ⟨ad2, cc2, rfl⟩ := v2.shape
        obtain ⟨ad3, cc3, rfl⟩ := v3.shape
        rw [hco']
        simp -implicitDefEqProofs [callQ]
        intro _
        refine (told_ok K1 GK).mono ?_
        rintro rv K2 ⟨F2, rfl⟩
        have sv : V.sameV w w = true := by simp [V.sameV]
        have smK := sm K2 (hco.ext F2) (hvK.ext F2)
        rw [sv, hco', hcs] at smK
        rw [hcs]
        simp -implicitDefEqProofs [callP]
        intro _
        refine smK.mono ?_
        rintro rv K3 ⟨rfl, rfl⟩
        simp -implicitDefEqProofs [callP]
        intro _
        exact ((E1.trans EH).trans F1).trans F2
end Go.Proofs.Yph
namespace Go.Proofs.YthglohpeijfcfaaGreatDoor.AmParseBack
open Go Go.Am Go.RowKit
theorem flat_int (zs : List Int) : zs.map (Value.int .i64) = zs.flatMap Yph.V.intC := by
  induction zs with
  | nil => rfl
  | cons a r ih => rw [List.map_cons, List.flatMap_cons, ih]; rfl
theorem row_sl {h : Heap} {v : Value} {len : Nat} {zs : List Int} (H : RowA 3 h v len zs) (hl : zs.length = len) : SlA 3 Yph.V.intC h v zs := by
  obtain ⟨ad, c, rfl, hc, z⟩ := H
  refine ⟨ad, c, by rw [hl], hc, ?_⟩
  rcases z with z | ⟨b, cs, rfl, h2, h3⟩
  · exact .inl (List.length_eq_zero_iff.1 (by omega))
  · refine .inr ⟨b, 0, false, _, cs, rfl, h2, ?_, by omega, h3⟩
    rw [List.drop_zero]
    congr 1
    exact flat_int zs
theorem walk {W : World} (L : Yph.isLaid W) {a : Option Addr} {len cap : Nat} {zs : List Int} (w : IntsW W a len cap zs ∧ ∀ z ∈ zs, (Lit.int .i64 z).wf = true) (y : len * 8 ≤ 140737488351232) (t : Int) (wt : (Lit.int .i64 t).wf = true) :
    Calls Tryz.prog 5 #[.slice a len cap, .int .i64 t] W (fun e w' => e = .returned (.bool true) ∧ Below W.heap.size W w') := by
  obtain ⟨h, ρ, L0, G⟩ := Yph.start_of L
  obtain ⟨h1, v, ρ1, L1, E1, M1, V1, R1, N1⟩ := glue_addG (e := 3) (sz := 1) Yph.co3 (by decide) L0 w.1.row
  rw [Nat.mul_one] at R1 N1
  rw [← Yph.PP_eq]
  exact law_walkG L1 (Yph.pback_ok v _ t (by omega) h1 (G.ext E1) (row_sl R1 N1)) ⟨rfl, fun i u hi => by
    match i, hi with
    | 0, hi => simp at hi; subst hi; exact ⟨_, rfl, V1⟩
    | 1, hi => simp at hi; subst hi; exact ⟨_, rfl, .int _ _⟩
    | i + 2, hi => simp at hi⟩
end Go.Proofs.YthglohpeijfcfaaGreatDoor.AmParseBack
