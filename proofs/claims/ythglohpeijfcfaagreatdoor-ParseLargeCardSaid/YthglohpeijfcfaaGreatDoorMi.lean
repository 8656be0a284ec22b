import Derived.Test.YthglohpeijfcfaaGreatDoorMh
import Derived.ChangeShapes
set_option linter.unusedVariables false
set_option linter.unusedSimpArgs false
set_option linter.unusedSectionVars false
set_option linter.constructorNameAsVariable false
/- Tokens, line by line: the plain law. -/
namespace Go.Proofs.Yph.T
open Go Go.Am
set_option maxRecDepth 20000
set_option maxHeartbeats 2000000
theorem take_drop_shift {α : Type} (l : List α) (a n m : Nat) : ((l.drop a).take n).drop m = (l.take (a + n)).drop (a + m) := by
  rw [← List.drop_drop (i := m) (j := a)]
  conv => rhs; rw [List.drop_take, show a + n - a = n by omega]
theorem numV_drop (l : List UInt8) (a k : Nat) : numV l (a + k) = ⟨(numV (l.drop a) k).n, a + (numV (l.drop a) k).to, (numV (l.drop a) k).ok⟩ := by
  have hg : ∀ j, l[a + j]? = (l.drop a)[j]? := fun j => by rw [List.getElem?_drop]
  have hm : numM l (a + k) = numM (l.drop a) k := by
    unfold numM
    rw [List.getD_eq_getElem?_getD, List.getD_eq_getElem?_getD, hg]
  have ht : numT l (a + k) = numT (l.drop a) k := by
    unfold numT
    rw [hm, List.drop_drop, Nat.add_assoc]
  have hn : numN l (a + k) = numN (l.drop a) k := by
    unfold numN
    rw [hm, ht, List.drop_drop, Nat.add_assoc]
  unfold numV numV'
  rw [hm, ht, hn]
  split
  · rfl
  · have e : a + k + numM (l.drop a) k + numT (l.drop a) k = a + (k + numM (l.drop a) k + numT (l.drop a) k) := by omega
    rw [e, hg]
theorem endOk_drop (l : List UInt8) (a k : Nat) : endOk l (a + k) = endOk (l.drop a) k := by
  unfold endOk
  rw [List.getElem?_drop]
theorem nextV_drop (l : List UInt8) (a : Nat) (ln col : Int) : nextV l a ln col = ⟨(nextV (l.drop a) 0 ln col).tok, a + (nextV (l.drop a) 0 ln col).to, (nextV (l.drop a) 0 ln col).ln, (nextV (l.drop a) 0 ln col).col, (nextV (l.drop a) 0 ln col).code⟩ := by
  unfold nextV
  rw [List.drop_zero, Nat.zero_add]
  generalize hk : skipL false (l.drop a) = k
  unfold nextV'
  have hg : l[a + k]? = (l.drop a)[k]? := by rw [List.getElem?_drop]
  have hc : ∀ j : Nat, col + ((a + j : Nat) : Int) - (a : Int) = col + (j : Int) - ((0 : Nat) : Int) := fun j => by omega
  rw [hg]
  cases hx : (l.drop a)[k]? with
  | none => simp only [hc]
  | some c =>
    dsimp only
    by_cases h3 : kindV c.toNat = 3
    · simp only [h3, if_true, hc]
      rfl
    · simp only [h3, if_false]
      by_cases h4 : kindV c.toNat = 4
      · simp only [h4, if_true]
        have e1 : runL 4 (l.drop (a + k)) = runL 4 ((l.drop a).drop k) := by rw [List.drop_drop]
        have e2 : a + k + runL 4 ((l.drop a).drop k) = a + (k + runL 4 ((l.drop a).drop k)) := by omega
        rw [e1, e2, endOk_drop]
        split
        · simp only [hc, ← take_drop_shift]
        · simp only [hc, Nat.add_zero]
      · simp only [h4, if_false]
        by_cases h5 : kindV c.toNat = 6 ∨ kindV c.toNat = 5
        · simp only [h5, if_true]
          rw [numV_drop]
          dsimp only
          split
          · simp only [hc, ← take_drop_shift]
          · simp only [hc, Nat.add_zero]
        · simp only [h5, if_false, hc, Nat.add_zero]
theorem allL_drop (l : List UInt8) : ∀ (n a : Nat) (ln col : Int), allL l n a ln col = allL (l.drop a) n 0 ln col := by
  intro n
  induction n generalizing l with
  | zero => intro a ln col; rfl
  | succ n ih =>
    intro a ln col
    rw [allL, allL, nextV_drop l a]
    dsimp only
    have e : ∀ (ln' col' : Int), allL l n (a + (nextV (l.drop a) 0 ln col).to) ln' col' = allL (l.drop a) n (nextV (l.drop a) 0 ln col).to ln' col' := fun ln' col' => by
      rw [ih l, ih (l.drop a), List.drop_drop]
    rw [e]
theorem nextV_to (l : List UInt8) (ln col : Int) : (nextV l 0 ln col).to = (nextV l 0 1 1).to ∧ (nextV l 0 ln col).code = (nextV l 0 1 1).code := by
  unfold nextV nextV'
  generalize 0 + skipL false (l.drop 0) = k
  cases l[k]? with
  | none => exact ⟨rfl, rfl⟩
  | some c =>
    dsimp only
    (repeat' split) <;> exact ⟨rfl, rfl⟩
theorem nextV_step {l : List UInt8} {ln col : Int} (hc : (nextV l 0 ln col).code = 0) : 0 < (nextV l 0 ln col).to ∧ (nextV l 0 ln col).to ≤ l.length := by
  rw [(nextV_to l ln col).2] at hc
  rw [(nextV_to l ln col).1]
  have := nextV_go (l := l) (a := 0) (ln := 1) (col := 1) (by omega) (by omega) (by omega) hc
  exact ⟨this.1, this.2.1⟩
theorem allL_fuel' : ∀ (n m : Nat) (t : List UInt8) (ln col : Int), t.length < n → t.length < m → allL t n 0 ln col = allL t m 0 ln col := by
  intro n
  induction n with
  | zero => intro m t ln col h; omega
  | succ n ih =>
    intro m t ln col h1 h2
    cases m with
    | zero => omega
    | succ m =>
      rw [allL, allL]
      by_cases hc : (nextV t 0 ln col).code = 0
      · have hs := nextV_step hc
        simp only [hc, if_true]
        have hl : (t.drop (nextV t 0 ln col).to).length = t.length - (nextV t 0 ln col).to := List.length_drop
        rw [allL_drop t n, allL_drop t m, ih m _ _ _ (by omega) (by omega)]
      · simp only [hc, if_false]
/-- the tokens of a text from a place on -/
def lexT (t : List UInt8) (ln col : Int) : AllR := allL t (t.length + 1) 0 ln col
theorem lexT_all (l : List UInt8) : allV l = lexT l 1 1 := rfl
theorem lexT_next (t : List UInt8) (ln col : Int) : lexT t ln col =
    if (nextV t 0 ln col).code = 0 then ⟨(nextV t 0 ln col).tok :: (lexT (t.drop (nextV t 0 ln col).to) (nextV t 0 ln col).ln (nextV t 0 ln col).col).ts, (lexT (t.drop (nextV t 0 ln col).to) (nextV t 0 ln col).ln (nextV t 0 ln col).col).ln,
      (lexT (t.drop (nextV t 0 ln col).to) (nextV t 0 ln col).ln (nextV t 0 ln col).col).col, (lexT (t.drop (nextV t 0 ln col).to) (nextV t 0 ln col).ln (nextV t 0 ln col).col).code⟩
    else if (nextV t 0 ln col).code = 4 then ⟨[], (nextV t 0 ln col).ln, (nextV t 0 ln col).col, 0⟩ else ⟨[], (nextV t 0 ln col).ln, (nextV t 0 ln col).col, (nextV t 0 ln col).code⟩ := by
  unfold lexT
  rw [allL]
  by_cases hc : (nextV t 0 ln col).code = 0
  · have hs := nextV_step hc
    have hl : (t.drop (nextV t 0 ln col).to).length = t.length - (nextV t 0 ln col).to := List.length_drop
    simp only [hc, if_true]
    rw [allL_drop t, allL_fuel' t.length ((t.drop (nextV t 0 ln col).to).length + 1) _ _ _ (by omega) (by omega)]
  · simp only [hc, if_false]
def no10 (b : List UInt8) : Prop := ∀ c ∈ b, c.toNat ≠ 10
theorem no10_drop {b : List UInt8} (h : no10 b) (k : Nat) : no10 (b.drop k) := fun c hc => h c (List.mem_of_mem_drop hc)
theorem skipL_cat (post : List UInt8) : ∀ (b : List UInt8) (f : Bool), no10 b → skipL f (b ++ 10 :: post) = skipL f b := by
  intro b
  induction b with
  | nil =>
    intro f _
    cases f with
    | true => rw [List.nil_append, skipL]; rfl
    | false => rw [List.nil_append, skipL]; rfl
  | cons c r ih =>
    intro f h
    have hr : no10 r := fun x hx => h x (List.mem_cons_of_mem _ hx)
    cases f with
    | true => rw [List.cons_append, skipL, skipL, ih _ hr]
    | false => rw [List.cons_append, skipL, skipL, ih _ hr, ih _ hr]
theorem runL_cat (post : List UInt8) (k : Nat) (hk : k ≠ 3) : ∀ (b : List UInt8), runL k (b ++ 10 :: post) = runL k b := by
  intro b
  induction b with
  | nil =>
    have h3 : ¬ kindV (10 : UInt8).toNat = k := by show ¬ (3 : Nat) = k; omega
    rw [List.nil_append]
    show (if kindV (10 : UInt8).toNat = k then runL k post + 1 else 0) = 0
    rw [if_neg h3]
  | cons c r ih => rw [List.cons_append, runL, runL, ih]
theorem getD_cat {b post : List UInt8} {k : Nat} (h : k < b.length) : (b ++ 10 :: post)[k]? = b[k]? := List.getElem?_append_left h
theorem get_end {b post : List UInt8} : (b ++ 10 :: post)[b.length]? = some 10 := by simp
theorem numV_cat {b post : List UInt8} {k : Nat} (hk : k < b.length) : numV (b ++ 10 :: post) k = numV b k := by
  have hm : numM (b ++ 10 :: post) k = numM b k := by
    unfold numM
    rw [List.getD_eq_getElem?_getD, List.getD_eq_getElem?_getD, getD_cat hk]
  have hm1 : numM b k ≤ 1 := by unfold numM; split <;> omega
  have hd : (b ++ 10 :: post).drop (k + numM b k) = b.drop (k + numM b k) ++ 10 :: post := List.drop_append_of_le_length (by omega)
  have ht : numT (b ++ 10 :: post) k = numT b k := by
    unfold numT
    rw [hm, hd, runL_cat post 5 (by decide)]
  have htl : numT b k ≤ (b.drop (k + numM b k)).length := runL_le 5 _
  have hn : numN (b ++ 10 :: post) k = numN b k := by
    unfold numN
    rw [hm, ht, hd, List.take_append_of_le_length htl]
  unfold numV numV'
  rw [hm, ht, hn]
  split
  · rfl
  · rw [List.length_drop] at htl
    congr 1
    rcases Nat.lt_or_ge (k + numM b k + numT b k) b.length with z | z
    · rw [getD_cat z]
    · have e : k + numM b k + numT b k = b.length := by omega
      rw [e, get_end, List.getElem?_eq_none (Nat.le_refl _)]
      rfl
theorem endOk_cat {b post : List UInt8} {k : Nat} (hk : k ≤ b.length) : endOk (b ++ 10 :: post) k = endOk b k := by
  unfold endOk
  rcases Nat.lt_or_ge k b.length with z | z
  · rw [getD_cat z]
  · have e : k = b.length := by omega
    rw [e, get_end, List.getElem?_eq_none (Nat.le_refl _)]
    rfl
theorem take_cat {b post : List UInt8} {n : Nat} (h : n ≤ b.length) : (b ++ 10 :: post).take n = b.take n := List.take_append_of_le_length h
theorem nextV_cat {b : List UInt8} (post : List UInt8) (hb : no10 b) (ln col : Int) :
    ((nextV b 0 ln col).code ≠ 4 → nextV (b ++ 10 :: post) 0 ln col = nextV b 0 ln col) ∧
    ((nextV b 0 ln col).code = 4 → nextV (b ++ 10 :: post) 0 ln col = ⟨⟨3, 0, ln, (nextV b 0 ln col).col, []⟩, b.length + 1, ln + 1, 1, 0⟩) ∧ (nextV b 0 ln col).ln = ln := by
  unfold nextV
  rw [List.drop_zero, List.drop_zero, Nat.zero_add, Nat.zero_add, skipL_cat post b false hb]
  have hkl := skipL_le false b
  revert hkl
  generalize skipL false b = k
  intro hkl
  unfold nextV'
  rcases Nat.lt_or_ge k b.length with z | z
  · rw [getD_cat z]
    have hx : b[k]? = some b[k] := List.getElem?_eq_getElem z
    have h10 := hb b[k] (List.getElem_mem z)
    generalize b[k] = c at hx h10
    rw [hx]
    dsimp only
    have h3 : ¬ kindV c.toNat = 3 := by
      intro q
      unfold kindV at q
      (repeat' split at q) <;> omega
    simp only [h3, if_false]
    by_cases h4 : kindV c.toNat = 4
    · simp only [h4, if_true]
      have e1 : runL 4 ((b ++ 10 :: post).drop k) = runL 4 (b.drop k) := by rw [List.drop_append_of_le_length hkl, runL_cat post 4 (by decide)]
      have hle : k + runL 4 (b.drop k) ≤ b.length := by have := runL_le 4 (b.drop k); rw [List.length_drop] at this; omega
      rw [e1, endOk_cat hle, take_cat hle]
      split
      · exact ⟨fun _ => rfl, fun q => by exfalso; revert q; dsimp only; omega, rfl⟩
      · exact ⟨fun _ => rfl, fun q => by exfalso; revert q; dsimp only; omega, rfl⟩
    · simp only [h4, if_false]
      by_cases h5 : kindV c.toNat = 6 ∨ kindV c.toNat = 5
      · simp only [h5, if_true]
        rw [numV_cat z]
        have hle := numV_le b k hkl
        rw [take_cat hle]
        split
        · exact ⟨fun _ => rfl, fun q => by exfalso; revert q; dsimp only; omega, rfl⟩
        · exact ⟨fun _ => rfl, fun q => by exfalso; revert q; dsimp only; omega, rfl⟩
      · simp only [h5, if_false]
        exact ⟨fun _ => trivial, fun q => by exfalso; revert q; omega, trivial⟩
  · have e : k = b.length := by omega
    subst e
    rw [get_end, List.getElem?_eq_none (Nat.le_refl _)]
    refine ⟨fun q => absurd rfl q, fun _ => ?_, rfl⟩
    rfl
theorem lexT_cat (post : List UInt8) : ∀ (n : Nat) (b : List UInt8) (ln col : Int), b.length < n → no10 b →
    lexT (b ++ 10 :: post) ln col = (if (lexT b ln col).code = 0 then ⟨(lexT b ln col).ts ++ ⟨3, 0, ln, (lexT b ln col).col, []⟩ :: (lexT post (ln + 1) 1).ts, (lexT post (ln + 1) 1).ln, (lexT post (ln + 1) 1).col, (lexT post (ln + 1) 1).code⟩ else lexT b ln col) ∧ (lexT b ln col).ln = ln ∧ ∀ t ∈ (lexT b ln col).ts, t.kind ≠ 3 := by
  intro n
  induction n with
  | zero => intro b ln col h; omega
  | succ n ih =>
    intro b ln col hn hb
    obtain ⟨c1, c2, c3⟩ := nextV_cat post hb ln col
    rw [lexT_next (b ++ 10 :: post), lexT_next b]
    by_cases h0 : (nextV b 0 ln col).code = 0
    · have hs := nextV_step h0
      rw [c1 (by rw [h0]; decide)]
      simp only [h0, if_true]
      have hd : (b ++ 10 :: post).drop (nextV b 0 ln col).to = b.drop (nextV b 0 ln col).to ++ 10 :: post := List.drop_append_of_le_length hs.2
      have hl : (b.drop (nextV b 0 ln col).to).length = b.length - (nextV b 0 ln col).to := List.length_drop
      obtain ⟨i1, i2, i3⟩ := ih (b.drop (nextV b 0 ln col).to) (nextV b 0 ln col).ln (nextV b 0 ln col).col (by omega) (no10_drop hb _)
      rw [hd, i1]
      refine ⟨?_, by rw [i2, c3], fun t ht => ?_⟩
      · split
        · rw [c3]; rfl
        · rfl
      · rcases List.mem_cons.1 ht with rfl | q
        · revert h0
          unfold nextV nextV'
          generalize 0 + skipL false (b.drop 0) = k
          cases hx : b[k]? with
          | none => intro q; exfalso; revert q; dsimp only; omega
          | some c =>
            have h10 := hb c (List.mem_of_getElem? hx)
            have h3 : ¬ kindV c.toNat = 3 := by
              intro q
              unfold kindV at q
              (repeat' split at q) <;> omega
            dsimp only
            simp only [h3, if_false]
            (repeat' split) <;> intro q <;> first | (exfalso; revert q; dsimp only; omega) | (dsimp only; omega)
        · exact i3 t q
    · by_cases h4 : (nextV b 0 ln col).code = 4
      · rw [c2 h4]
        simp only [h4, if_true, h0, if_false]
        have hd : (b ++ 10 :: post).drop (b.length + 1) = post := by
          rw [← List.drop_drop]; simp
        rw [hd]
        refine ⟨by simp, c3, fun t ht => by cases ht⟩
      · rw [c1 h4]
        simp only [h0, h4, if_false]
        exact ⟨trivial, c3, fun t ht => by cases ht⟩
end Go.Proofs.Yph.T
/- Lines, one by one: the plain law of the reader. -/
namespace Go.Proofs.Yph
open Go Go.Am
set_option maxRecDepth 20000
set_option maxHeartbeats 2000000
open T (Tok lexT no10 allV)
open V (SeatR PoleR VenR)
def lineR (r : Rd) (row : List Tok) (bl bc : Int) : Rd × Option (Int × Int) := match row with
  | [] => (r, none)
  | t0 :: rest => match lineErr (t0 :: rest) bl bc with
    | some e => (r, some e)
    | none => if (addR r t0 rest).2 then ((addR r t0 rest).1, none) else ((addR r t0 rest).1, some (t0.line, t0.col))
def notEnd (t : Tok) : Bool := decide (t.kind ≠ 3)
def linesD (el ec : Int) : Nat → List Tok → Rd → Rd × Option (Int × Int)
  | 0, _, r => (r, none)
  | f + 1, ts, r => if ts = [] then (r, none) else match lineR r (ts.takeWhile notEnd) (behAt (ts.dropWhile notEnd) el ec 0).1 (behAt (ts.dropWhile notEnd) el ec 0).2 with
    | (r', some e) => (r', some e)
    | (r', none) => linesD el ec f (ts.dropWhile notEnd).tail r'
theorem tw_dw (ts : List Tok) : ts = ts.takeWhile notEnd ++ ts.dropWhile notEnd := (List.takeWhile_append_dropWhile).symm
theorem linesR_D (ts : List Tok) (el ec : Int) : ∀ (f a : Nat) (r : Rd), linesR ts el ec f a r = linesD el ec f (ts.drop a) r := by
  intro f
  induction f with
  | zero => intro a r; rfl
  | succ f ih =>
    intro a r
    by_cases ha : a < ts.length
    · have hne : ts.drop a ≠ [] := by
        intro q
        have := congrArg List.length q
        rw [List.length_drop] at this
        simp at this; omega
      obtain ⟨n, hn⟩ : ∃ n, n = T.lineN (ts.drop a) := ⟨_, rfl⟩
      have hnl : n = ((ts.drop a).takeWhile notEnd).length := hn
      have hd : ts.drop a = (ts.drop a).takeWhile notEnd ++ (ts.drop a).dropWhile notEnd := tw_dw _
      have hrow : rowAt ts a = (ts.drop a).takeWhile notEnd := by
        unfold rowAt
        rw [← hn, List.drop_take, show a + n - a = n by omega]
        conv => lhs; rw [hd]
        rw [hnl, List.take_left]
      have hdw : ts.drop (a + n) = (ts.drop a).dropWhile notEnd := by
        rw [← List.drop_drop]
        conv => lhs; rw [hd]
        rw [hnl, List.drop_left]
      have hbeh : behAt ts el ec (a + n) = behAt ((ts.drop a).dropWhile notEnd) el ec 0 := by
        unfold behAt
        rw [← hdw, List.getElem?_drop, Nat.add_zero]
      have hnext : ts.drop (nextAt ts a) = ((ts.drop a).dropWhile notEnd).tail := by
        unfold nextAt
        rw [← hn, ← hdw, List.tail_drop]
        split
        · rfl
        · rw [List.drop_length, List.drop_of_length_le (by omega)]
      rw [linesD, if_neg hne, ← hrow, ← hbeh, ← hnext]
      have hrl : (rowAt ts a).length = n := by rw [hrow, hnl]
      cases hr : rowAt ts a with
      | nil => rw [linesR_nil ha hr]; exact ih _ _
      | cons t0 rest =>
        have hl : a + (rest.length + 1) = a + n := by rw [hr] at hrl; simp at hrl; omega
        rw [linesR_cons ha hr, hl]
        unfold lineR
        simp only
        cases hle : lineErr (t0 :: rest) (behAt ts el ec (a + n)).1 (behAt ts el ec (a + n)).2 with
        | some e => rfl
        | none =>
          simp only
          cases hok : (addR r t0 rest).2 with
          | true => simp only [if_true]; exact ih _ _
          | false => rfl
    · have hne : ts.drop a = [] := List.drop_of_length_le (by omega)
      rw [linesR, if_neg ha, linesD, if_pos hne]
theorem linesD_row (el ec : Int) (f : Nat) (row more : List Tok) (e : Tok) (r : Rd) (hr : ∀ t ∈ row, t.kind ≠ 3) (he : e.kind = 3) : linesD el ec (f + 1) (row ++ e :: more) r = match lineR r row e.line e.col with
    | (r', some e) => (r', some e)
    | (r', none) => linesD el ec f more r' := by
  have h1 : ∀ t ∈ row, notEnd t = true := fun t ht => by unfold notEnd; simp [hr t ht]
  have h2 : notEnd e = false := by unfold notEnd; simp [he]
  have htw : (row ++ e :: more).takeWhile notEnd = row := by
    rw [List.takeWhile_append_of_pos h1, List.takeWhile_cons, h2]; simp
  have hdw : (row ++ e :: more).dropWhile notEnd = e :: more := by
    rw [List.dropWhile_append_of_pos h1, List.dropWhile_cons, h2]; simp
  rw [linesD, if_neg (by simp), htw, hdw]
  rfl
def joinL (L : List (List UInt8)) : List UInt8 := L.flatMap fun b => b ++ [10]
def goodB (b : List UInt8) : Prop := no10 b ∧ ∀ ln, (lexT b ln 1).code = 0
def toksL : List (List UInt8) → Int → List Tok
  | [], _ => []
  | b :: bs, ln => (lexT b ln 1).ts ++ ⟨3, 0, ln, (lexT b ln 1).col, []⟩ :: toksL bs (ln + 1)
def foldS : List (List UInt8) → Int → Rd → Rd × Option (Int × Int)
  | [], _, r => (r, none)
  | b :: bs, ln, r => match lineR r (lexT b ln 1).ts ln (lexT b ln 1).col with
    | (r', some e) => (r', some e)
    | (r', none) => foldS bs (ln + 1) r'
theorem lex_nil (ln col : Int) : lexT [] ln col = ⟨[], ln, col, 0⟩ := by
  unfold lexT T.allL
  simp [T.nextV, T.nextV', T.skipL]
theorem lex_join : ∀ (L : List (List UInt8)) (ln : Int), (∀ b ∈ L, goodB b) → lexT (joinL L) ln 1 = ⟨toksL L ln, ln + L.length, 1, 0⟩ := by
  intro L
  induction L with
  | nil => intro ln _; show lexT [] ln 1 = _; rw [lex_nil]; simp [toksL]
  | cons b bs ih =>
    intro ln h
    obtain ⟨h1, h2⟩ := h b List.mem_cons_self
    have e : joinL (b :: bs) = b ++ 10 :: joinL bs := by simp [joinL]
    obtain ⟨c1, _, _⟩ := T.lexT_cat (joinL bs) (b.length + 1) b ln 1 (by omega) h1
    rw [e, c1, if_pos (h2 ln), ih (ln + 1) (fun b hb => h b (List.mem_cons_of_mem _ hb))]
    simp only [toksL, List.length_cons]
    congr 1
    omega
theorem fold_lines (el ec : Int) : ∀ (L : List (List UInt8)) (ln : Int) (r : Rd) (f : Nat), (∀ b ∈ L, goodB b) → L.length < f → linesD el ec f (toksL L ln) r = foldS L ln r := by
  intro L
  induction L with
  | nil =>
    intro ln r f _ hf
    obtain ⟨f, rfl⟩ : ∃ k, f = k + 1 := ⟨f - 1, by omega⟩
    rw [linesD, if_pos (show toksL [] ln = [] from rfl), foldS]
  | cons b bs ih =>
    intro ln r f h hf
    obtain ⟨f, rfl⟩ : ∃ k, f = k + 1 := ⟨f - 1, by omega⟩
    obtain ⟨h1, h2⟩ := h b List.mem_cons_self
    obtain ⟨_, _, c3⟩ := T.lexT_cat [] (b.length + 1) b ln 1 (by omega) h1
    rw [toksL, linesD_row el ec f _ _ _ r c3 rfl, foldS]
    simp only
    cases hl : lineR r (lexT b ln 1).ts ln (lexT b ln 1).col with
    | mk r' o =>
      cases o with
      | some e => rfl
      | none => exact ih _ _ _ (fun b hb => h b (List.mem_cons_of_mem _ hb)) (by simp at hf; omega)
theorem toks_len : ∀ (L : List (List UInt8)) (ln : Int), L.length ≤ (toksL L ln).length := by
  intro L
  induction L with
  | nil => intro ln; simp
  | cons b bs ih => intro ln; have := ih (ln + 1); simp [toksL]; omega
theorem parO_join (L : List (List UInt8)) (h : ∀ b ∈ L, goodB b) : parO (joinL L) = match foldS L 1 rd0 with
    | (_, some e) => (some e, ⟨[], 0, 0, [], []⟩)
    | (r, none) => match wholeR r (1 + L.length) 1 with
      | (_, some e) => (some e, ⟨[], 0, 0, [], []⟩)
      | (ks, none) => (none, venOf r ks) := by
  have hx : allV (joinL L) = ⟨toksL L 1, 1 + L.length, 1, 0⟩ := by rw [T.lexT_all, lex_join L 1 h]
  unfold parO
  rw [hx]
  simp only
  rw [if_neg (by simp), linesR_D, List.drop_zero, fold_lines _ _ L 1 rd0 _ h (by have := toks_len L 1; omega)]
  generalize foldS L 1 rd0 = X
  obtain ⟨r, o⟩ := X
  cases o with
  | some e => rfl
  | none =>
    simp only
    generalize wholeR r (1 + L.length) 1 = Y
    obtain ⟨ks, o⟩ := Y
    cases o <;> rfl
/-- the reader, a line and then more -/
theorem foldS_ok {b : List UInt8} {bs : List (List UInt8)} {ln : Int} {r r' : Rd} (h : lineR r (lexT b ln 1).ts ln (lexT b ln 1).col = (r', none)) : foldS (b :: bs) ln r = foldS bs (ln + 1) r' := by rw [foldS, h]
theorem foldS_bad {b : List UInt8} {bs : List (List UInt8)} {ln : Int} {r r' : Rd} {e : Int × Int} (h : lineR r (lexT b ln 1).ts ln (lexT b ln 1).col = (r', some e)) : foldS (b :: bs) ln r = (r', some e) := by rw [foldS, h]
theorem foldS_app : ∀ (A B : List (List UInt8)) (ln : Int) (r r' : Rd), foldS A ln r = (r', none) → foldS (A ++ B) ln r = foldS B (ln + A.length) r' := by
  intro A
  induction A with
  | nil => intro B ln r r' h; simp only [foldS, Prod.mk.injEq, and_true] at h; subst h; simp
  | cons b bs ih =>
    intro B ln r r' h
    rw [foldS] at h
    cases hl : lineR r (lexT b ln 1).ts ln (lexT b ln 1).col with
    | mk r1 o =>
      rw [hl] at h
      cases o with
      | some e => cases h
      | none =>
        simp only at h
        rw [List.cons_append, foldS_ok hl, ih B _ _ _ h]
        congr 1
        simp; omega
end Go.Proofs.Yph
/- The first wrong line: the plain law. -/
namespace Go.Proofs.Yph
open Go Go.Am
set_option maxRecDepth 20000
set_option maxHeartbeats 2000000
open T (Tok lexT no10 allV nextV)
open V (SeatR PoleR VenR)
theorem lex_code : ∀ (n : Nat) (b : List UInt8) (ln col ln' col' : Int), b.length < n → (lexT b ln col).code = (lexT b ln' col').code := by
  intro n
  induction n with
  | zero => intro b ln col ln' col' h; omega
  | succ n ih =>
    intro b ln col ln' col' hn
    rw [T.lexT_next b ln col, T.lexT_next b ln' col']
    have h1 := T.nextV_to b ln col
    have h2 := T.nextV_to b ln' col'
    have e1 : (nextV b 0 ln col).code = (nextV b 0 ln' col').code := by rw [h1.2, h2.2]
    have e2 : (nextV b 0 ln col).to = (nextV b 0 ln' col').to := by rw [h1.1, h2.1]
    rw [← e1, ← e2]
    by_cases h0 : (nextV b 0 ln col).code = 0
    · have hs := T.nextV_step h0
      have hl : (b.drop (nextV b 0 ln col).to).length = b.length - (nextV b 0 ln col).to := List.length_drop
      simp only [h0, if_true]
      exact ih _ _ _ _ _ (by omega)
    · simp only [h0, if_false]
      split <;> rfl
def goodC (b : List UInt8) : Bool := b.all (fun c => decide (c.toNat ≠ 10)) && decide ((lexT b 1 1).code = 0)
theorem goodB_of {b : List UInt8} (h : goodC b = true) : goodB b := by
  unfold goodC at h
  rw [Bool.and_eq_true, List.all_eq_true, decide_eq_true_eq] at h
  refine ⟨fun c hc => by simpa using h.1 c hc, fun ln => ?_⟩
  rw [lex_code (b.length + 1) b ln 1 1 1 (by omega)]
  exact h.2
theorem foldS_stop : ∀ (A B : List (List UInt8)) (ln : Int) (r r' : Rd) (e : Int × Int), foldS A ln r = (r', some e) → foldS (A ++ B) ln r = (r', some e) := by
  intro A
  induction A with
  | nil => intro B ln r r' e h; simp [foldS] at h
  | cons b bs ih =>
    intro B ln r r' e h
    rw [foldS] at h
    cases hl : lineR r (lexT b ln 1).ts ln (lexT b ln 1).col with
    | mk r1 o =>
      rw [hl] at h
      cases o with
      | some e2 =>
        simp only at h
        rw [List.cons_append, foldS_bad hl]
        exact h
      | none =>
        simp only at h
        rw [List.cons_append, foldS_ok hl]
        exact ih _ _ _ _ _ h
theorem check_bad {L : List (List UInt8)} (h : ∀ b ∈ L, goodB b) {r : Rd} {e : Int × Int} (hf : foldS L 1 rd0 = (r, some e)) : (parO (joinL L)).1 = some e := by
  rw [parO_join L h, hf]
def digB : List UInt8 := [48, 49, 50, 51, 52, 53, 54, 55, 56, 57]
def sdB (c i : Nat) : List UInt8 := [115, 101, 97, 116, 32, 48 + UInt8.ofNat c, 32] ++ ((digB.take (i + 1)).drop i ++ [32, 48])
def gapL : List UInt8 := [103, 97, 112, 32, 49, 48]
def seatL : List UInt8 := [115, 101, 97, 116, 32, 48, 32, 48, 32, 48]
def qL : List UInt8 := [113]
def wrongs : List (List UInt8) := [[99, 104, 97, 105, 114, 32, 49, 32, 49, 32, 49], [103, 97, 112, 32, 49, 48], [115, 101, 97, 116, 32, 48, 32, 48, 32, 48], [115, 101, 97, 116, 32, 49], [115, 101, 97, 116, 32, 49, 32, 120, 32, 50], [115, 101, 97, 116, 32, 49, 32, 49, 32, 49, 32, 49], [115, 101, 97, 116, 32, 45, 49, 32, 48, 32, 48], [114, 97, 100, 105, 117, 115, 32, 48, 32, 48], [112, 111, 108, 101, 32, 49, 32, 49, 32, 48], [53]]
def colsF : List Int := [1, 1, 1, 7, 8, 12, 6, 10, 10, 1]
def preF (k : Nat) : List (List UInt8) := gapL :: seatL :: (List.range k).map (sdB 2)
def sufF (m : Nat) : List (List UInt8) := (List.range m).flatMap fun i => [sdB 3 i, qL]
theorem first_all : ((List.range 11).all fun k => (List.range 10).all fun w => decide ((foldS (preF k ++ [wrongs.getD w []]) 1 rd0).2 = some ((k : Int) + 3, colsF.getD w 0))) = true := by kernel_rfl
theorem good_all : (goodC gapL && goodC seatL && goodC qL && (List.range 10).all (fun i => goodC (sdB 2 i)) && (List.range 10).all (fun i => goodC (sdB 3 i)) && wrongs.all goodC) = true := by kernel_rfl
theorem first_law {k w m : Nat} (hk : k ≤ 10) (hw : w < 10) (hm : m ≤ 5) : checkV (joinL (preF k ++ [wrongs.getD w []] ++ sufF m)) = (2, (k : Int) + 3, colsF.getD w 0) := by
  have h1 := first_all
  rw [List.all_eq_true] at h1
  have h2 := h1 k (List.mem_range.2 (by omega))
  rw [List.all_eq_true] at h2
  have h3 := h2 w (List.mem_range.2 hw)
  rw [decide_eq_true_eq] at h3
  obtain ⟨X, hX⟩ : ∃ X, X = foldS (preF k ++ [wrongs.getD w []]) 1 rd0 := ⟨_, rfl⟩
  rw [← hX] at h3
  obtain ⟨r, o⟩ := X
  simp only at h3
  subst h3
  have hst := foldS_stop _ (sufF m) _ _ _ _ hX.symm
  have g := good_all
  simp only [Bool.and_eq_true, List.all_eq_true, List.mem_range] at g
  obtain ⟨⟨⟨⟨⟨g1, g2⟩, g3⟩, g4⟩, g5⟩, g6⟩ := g
  have hg : ∀ b ∈ preF k ++ [wrongs.getD w []] ++ sufF m, goodB b := by
    intro b hb
    apply goodB_of
    rcases List.mem_append.1 hb with hb | hb
    · rcases List.mem_append.1 hb with hb | hb
      · unfold preF at hb
        rcases List.mem_cons.1 hb with rfl | hb
        · exact g1
        rcases List.mem_cons.1 hb with rfl | hb
        · exact g2
        obtain ⟨i, hi, rfl⟩ := List.mem_map.1 hb
        exact g4 i (by have := List.mem_range.1 hi; omega)
      · obtain rfl := List.mem_singleton.1 hb
        apply g6
        rw [List.getD_eq_getElem?_getD, List.getElem?_eq_getElem (show w < wrongs.length from hw)]
        exact List.getElem_mem _
    · unfold sufF at hb
      obtain ⟨i, hi, hb⟩ := List.mem_flatMap.1 hb
      have := List.mem_range.1 hi
      rcases List.mem_cons.1 hb with rfl | hb
      · exact g5 i (by omega)
      · obtain rfl := List.mem_singleton.1 hb
        exact g3
  unfold checkV
  rw [check_bad hg hst]
end Go.Proofs.Yph
/- Kills, ahead of their seats and behind: the plain law. -/
namespace Go.Proofs.Yph
open Go Go.Am
set_option maxRecDepth 20000
set_option maxHeartbeats 4000000
open T (Tok lexT no10 allV nextV)
open V (SeatR PoleR VenR lessS SortedS Ri killedL findA atS mayV)
def numsK : List (List UInt8) := [[48], [49, 48], [50, 48], [51, 48]]
def killB (k : Nat) : List UInt8 := [107, 105, 108, 108, 32, 48, 32] ++ numsK.getD k []
def gap1 : List UInt8 := [103, 97, 112, 32, 49]
def seats3L : List (List UInt8) := [[115, 101, 97, 116, 32, 48, 32, 48, 32, 48], [115, 101, 97, 116, 32, 48, 32, 49, 48, 32, 48], [115, 101, 97, 116, 32, 48, 32, 50, 48, 32, 48]]
def seats3 : List SeatR := [⟨0, 0, 0, 0⟩, ⟨0, 10, 0, 0⟩, ⟨0, 20, 0, 0⟩]
def killAt (k : Nat) (ln : Int) : KillR := ⟨0, 10 * (k : Int), ln, 1, ln, 6⟩
def killsAt : List Nat → Int → List KillR
  | [], _ => []
  | k :: ks, ln => killAt k ln :: killsAt ks (ln + 1)
theorem killsAt_len : ∀ (kk : List Nat) (ln : Int), (killsAt kk ln).length = kk.length := by
  intro kk
  induction kk with
  | nil => intro ln; rfl
  | cons k r ih => intro ln; simp [killsAt, ih]
def killToks (k : Nat) (ln : Int) : List Tok := [⟨1, 0, ln, 1, wKill⟩, ⟨2, 0, ln, 6, [48]⟩, ⟨2, 10 * (k : Int), ln, 8, numsK.getD k []⟩]
theorem lex_kill (k : Nat) (hk : k < 4) (ln : Int) : (lexT (killB k) ln 1).ts = killToks k ln := by
  rcases (by omega : k = 0 ∨ k = 1 ∨ k = 2 ∨ k = 3) with rfl | rfl | rfl | rfl <;> kernel_rfl
theorem line_kill (r : Rd) (k : Nat) (hk : k < 4) (ln bl bc : Int) (hr : r.kills.length < 200) : lineR r (killToks k ln) bl bc = ({ r with kills := r.kills ++ [killAt k ln] }, none) := by
  have hle : lineErr (killToks k ln) bl bc = none := by
    rcases (by omega : k = 0 ∨ k = 1 ∨ k = 2 ∨ k = 3) with rfl | rfl | rfl | rfl <;> kernel_rfl
  have hw1 : ¬ wKill = wGap := by decide
  have hw2 : ¬ wKill = wRad := by decide
  unfold lineR killToks
  simp only
  rw [show lineErr [⟨1, 0, ln, 1, wKill⟩, ⟨2, 0, ln, 6, [48]⟩, ⟨2, 10 * (k : Int), ln, 8, numsK.getD k []⟩] bl bc = none from hle]
  have ha : addR r ⟨1, 0, ln, 1, wKill⟩ [⟨2, 0, ln, 6, [48]⟩, ⟨2, 10 * (k : Int), ln, 8, numsK.getD k []⟩] = ({ r with kills := r.kills ++ [killAt k ln] }, true) := by
    simp [addR, hw1, hw2, killAt]
    omega
  simp only
  rw [ha]
  rfl
theorem fold_kills : ∀ (kk : List Nat) (ln : Int) (r : Rd), (∀ k ∈ kk, k < 4) → r.kills.length + kk.length ≤ 200 → foldS (kk.map killB) ln r = ({ r with kills := r.kills ++ killsAt kk ln }, none) := by
  intro kk
  induction kk with
  | nil => intro ln r _ _; simp [foldS, killsAt]
  | cons k ks ih =>
    intro ln r h hl
    rw [List.length_cons] at hl
    have hk := h k List.mem_cons_self
    rw [List.map_cons, foldS_ok (by rw [lex_kill k hk]; exact line_kill r k hk ln _ _ (by omega)), ih _ _ (fun k hk => h k (List.mem_cons_of_mem _ hk)) (by simp; omega)]
    simp [killsAt]
def rK (kk : List Nat) (ln : Int) : Rd := ⟨seats3, 1, 0, killsAt kk ln, [], false⟩
def linesK (ahead : Bool) (kk : List Nat) : List (List UInt8) := if ahead then [gap1] ++ seats3L ++ kk.map killB else [gap1] ++ kk.map killB ++ seats3L
def lnK (ahead : Bool) : Int := if ahead then 5 else 2
theorem fold_gap : foldS [gap1] 1 rd0 = (⟨[], 1, 0, [], [], false⟩, none) := by kernel_rfl
theorem fold_gapseats : foldS ([gap1] ++ seats3L) 1 rd0 = (⟨seats3, 1, 0, [], [], false⟩, none) := by kernel_rfl
theorem line_seat (i : Nat) (hi : i < 3) (ln bl bc : Int) (L : List KillR) : lineR ⟨seats3.take i, 1, 0, L, [], false⟩ (lexT (seats3L.getD i []) ln 1).ts bl bc = (⟨seats3.take (i + 1), 1, 0, L, [], false⟩, none) := by
  rcases (by omega : i = 0 ∨ i = 1 ∨ i = 2) with rfl | rfl | rfl <;> kernel_rfl
theorem fold_seats (ln : Int) (L : List KillR) : foldS seats3L ln ⟨[], 1, 0, L, [], false⟩ = (⟨seats3, 1, 0, L, [], false⟩, none) := by
  have e0 := line_seat 0 (by omega) ln ln (lexT (seats3L.getD 0 []) ln 1).col L
  have e1 := line_seat 1 (by omega) (ln + 1) (ln + 1) (lexT (seats3L.getD 1 []) (ln + 1) 1).col L
  have e2 := line_seat 2 (by omega) (ln + 1 + 1) (ln + 1 + 1) (lexT (seats3L.getD 2 []) (ln + 1 + 1) 1).col L
  show foldS [seats3L.getD 0 [], seats3L.getD 1 [], seats3L.getD 2 []] ln ⟨seats3.take 0, 1, 0, L, [], false⟩ = _
  rw [foldS_ok e0, foldS_ok e1, foldS_ok e2]
  rfl
theorem fold_linesK (ahead : Bool) (kk : List Nat) (h : ∀ k ∈ kk, k < 4) (hl : kk.length ≤ 6) : foldS (linesK ahead kk) 1 rd0 = (rK kk (lnK ahead), none) := by
  cases ahead with
  | true =>
    show foldS ([gap1] ++ seats3L ++ kk.map killB) 1 rd0 = _
    rw [foldS_app _ _ _ _ _ fold_gapseats, fold_kills kk _ _ h (by simp; omega)]
    rfl
  | false =>
    show foldS ([gap1] ++ kk.map killB ++ seats3L) 1 rd0 = _
    rw [List.append_assoc, foldS_app _ _ _ _ _ fold_gap, foldS_app _ _ _ _ _ (fold_kills kk _ _ h (by simp; omega)), fold_seats]
    rfl
theorem good_k : ((List.range 4).all (fun k => goodC (killB k)) && goodC gap1 && seats3L.all goodC) = true := by kernel_rfl
theorem good_linesK (ahead : Bool) (kk : List Nat) (h : ∀ k ∈ kk, k < 4) : ∀ b ∈ linesK ahead kk, goodB b := by
  have g := good_k
  simp only [Bool.and_eq_true, List.all_eq_true, List.mem_range] at g
  obtain ⟨⟨g1, g2⟩, g3⟩ := g
  have hk : ∀ b ∈ kk.map killB, goodC b = true := by
    intro b hb
    obtain ⟨k, hk, rfl⟩ := List.mem_map.1 hb
    exact g1 k (h k hk)
  have hg : ∀ b ∈ [gap1], goodC b = true := by
    intro b hb
    obtain rfl := List.mem_singleton.1 hb
    exact g2
  intro b hb
  apply goodB_of
  cases ahead with
  | true =>
    have hb : b ∈ [gap1] ++ seats3L ++ kk.map killB := hb
    rcases List.mem_append.1 hb with hb | hb
    · rcases List.mem_append.1 hb with hb | hb
      · exact hg b hb
      · exact g3 b hb
    · exact hk b hb
  | false =>
    have hb : b ∈ [gap1] ++ kk.map killB ++ seats3L := hb
    rcases List.mem_append.1 hb with hb | hb
    · rcases List.mem_append.1 hb with hb | hb
      · exact hg b hb
      · exact hk b hb
    · exact g3 b hb
/-- the first bad kill: which (from one on), and its column -/
def badK : List Nat → List Nat → Nat → Nat × Int
  | [], _, _ => (0, 0)
  | k :: r, seen, i => if k = 3 then (i + 1, 6) else if k ∈ seen then (i + 1, 1) else badK r (seen ++ [k]) (i + 1)
theorem badK_snoc : ∀ (kk : List Nat) (k : Nat) (seen : List Nat) (i : Nat), badK (kk ++ [k]) seen i = if (badK kk seen i).1 = 0 then (if k = 3 then (i + kk.length + 1, 6) else if k ∈ seen ++ kk then (i + kk.length + 1, 1) else (0, 0)) else badK kk seen i := by
  intro kk
  induction kk with
  | nil => intro k seen i; simp [badK]
  | cons a r ih =>
    intro k seen i
    rw [List.cons_append, badK, badK]
    by_cases h3 : a = 3
    · simp [h3]
    · simp only [h3, if_false]
      by_cases hm : a ∈ seen
      · simp [hm]
      · simp only [hm, if_false]
        rw [ih]
        simp only [List.append_assoc, List.cons_append, List.nil_append, List.length_cons]
        have e : i + 1 + r.length + 1 = i + (r.length + 1) + 1 := by omega
        rw [e]
theorem place3 (k : Nat) (hk : k < 4) : placeAt seats3 0 (10 * (k : Int)) = if k = 3 then none else some k := by
  match k, hk with
  | 0, _ => rfl
  | 1, _ => rfl
  | 2, _ => rfl
  | 3, _ => rfl
theorem kills_bad : ∀ (kk : List Nat) (seen : List Nat) (i : Nat) (ln : Int), (∀ k ∈ kk, k < 4) →
    ((badK kk seen i).1 = 0 → killsF seats3 (killsAt kk ln) (seen.map fun (k : Nat) => (k : Int)) = ((seen ++ kk).map (fun (k : Nat) => (k : Int)), none) ∧ ∀ k ∈ kk, k < 3) ∧
    ((badK kk seen i).1 ≠ 0 → i < (badK kk seen i).1 ∧ ∃ acc, killsF seats3 (killsAt kk ln) (seen.map fun (k : Nat) => (k : Int)) = (acc, some (ln + ((badK kk seen i).1 : Int) - 1 - i, (badK kk seen i).2))) := by
  intro kk
  induction kk with
  | nil => intro seen i ln _; simp [badK, killsAt, killsF]
  | cons a r ih =>
    intro seen i ln h
    have ha := h a List.mem_cons_self
    have hr := fun k hk => h k (List.mem_cons_of_mem a hk)
    rw [badK, killsAt]
    have hp : placeAt seats3 (killAt a ln).row (killAt a ln).x = if a = 3 then none else some a := place3 a ha
    by_cases h3 : a = 3
    · simp only [h3, if_true] at hp ⊢
      refine ⟨fun q => by simp at q, fun _ => ⟨by omega, seen.map (fun (k : Nat) => (k : Int)), ?_⟩⟩
      rw [killsF_none hp]
      simp only [killAt]
      congr 2
      simp; omega
    · simp only [h3, if_false] at hp ⊢
      by_cases hm : a ∈ seen
      · simp only [hm, if_true]
        refine ⟨fun q => by simp at q, fun _ => ⟨by omega, seen.map (fun (k : Nat) => (k : Int)), ?_⟩⟩
        rw [killsF_twice hp (List.mem_map.2 ⟨a, hm, rfl⟩)]
        simp only [killAt]
        congr 2
        simp; omega
      · simp only [hm, if_false]
        have hnm : ((a : Nat) : Int) ∉ seen.map fun (k : Nat) => (k : Int) := by
          intro q
          obtain ⟨b, hb, e⟩ := List.mem_map.1 q
          have : b = a := by omega
          exact hm (this ▸ hb)
        rw [killsF_go hp hnm]
        have e : (seen.map (fun (k : Nat) => (k : Int))) ++ [(a : Int)] = (seen ++ [a]).map fun (k : Nat) => (k : Int) := by simp
        rw [e]
        obtain ⟨i1, i2⟩ := ih (seen ++ [a]) (i + 1) (ln + 1) hr
        refine ⟨fun q => ?_, fun q => ?_⟩
        · obtain ⟨z1, z2⟩ := i1 q
          refine ⟨by rw [z1]; simp, fun k hk => ?_⟩
          rcases List.mem_cons.1 hk with rfl | z
          · omega
          · exact z2 k z
        · obtain ⟨z1, acc, z2⟩ := i2 q
          refine ⟨by omega, acc, ?_⟩
          rw [z2]
          congr 3
          omega
def venK (kk : List Nat) : VenR := ⟨seats3, 1, 0, ((List.range 3).filter fun k => decide (k ∈ kk)).map (fun (k : Nat) => (k : Int)), []⟩
theorem kills_law (ahead : Bool) (kk : List Nat) (h : ∀ k ∈ kk, k < 4) (hl : kk.length ≤ 6) :
    ((badK kk [] 0).1 = 0 → parO (joinL (linesK ahead kk)) = (none, venOf (rK kk (lnK ahead)) (kk.map fun (k : Nat) => (k : Int))) ∧ ∀ k ∈ kk, k < 3) ∧
    ((badK kk [] 0).1 ≠ 0 → (parO (joinL (linesK ahead kk))).1 = some (lnK ahead + ((badK kk [] 0).1 : Int) - 1, (badK kk [] 0).2)) := by
  have hj := parO_join _ (good_linesK ahead kk h)
  rw [fold_linesK ahead kk h hl] at hj
  have hw : wholeR (rK kk (lnK ahead)) (1 + (linesK ahead kk).length) 1 = killsF seats3 (killsAt kk (lnK ahead)) ([] : List Int) := by
    unfold wholeR
    rw [if_neg (by simp [rK, seats3])]
    rfl
  simp only [hw] at hj
  obtain ⟨k1, k2⟩ := kills_bad kk [] 0 (lnK ahead) h
  simp only [List.map_nil, List.nil_append] at k1 k2
  refine ⟨fun q => ?_, fun q => ?_⟩
  · obtain ⟨z1, z2⟩ := k1 q
    rw [z1] at hj
    exact ⟨hj, z2⟩
  · obtain ⟨z1, acc, z2⟩ := k2 q
    rw [z2] at hj
    rw [hj]
    simp
end Go.Proofs.Yph
/- The parser's laws: what is read may be; what it says is what the document says. -/
namespace Go.Proofs.Yph
open Go Go.Am
set_option maxRecDepth 20000
set_option maxHeartbeats 4000000
open T (Tok tokC tokV spotV TokS allV allL nextV)
open V (SeatR PoleR VenR seatC poleC intC inB IntS lessS lessS_iff SortedS Ri killedL findA atS mayV wrongV seatsOK pairOK killsOK)
open F (FR ChA GlobOK)
def lins : List (List UInt8) := [[115, 101, 97, 116, 32, 48, 32, 48, 32, 48], [115, 101, 97, 116, 32, 48, 32, 49, 48, 32, 48], [115, 101, 97, 116, 32, 48, 32, 50, 48, 32, 48], [119, 104, 101, 101, 108, 32, 49, 32, 48, 32, 49, 48], [99, 111, 109, 112, 97, 110, 105, 111, 110, 32, 49, 32, 49, 48, 32, 49, 48], [115, 101, 97, 116, 32, 49, 32, 50, 48, 32, 49, 48], [103, 97, 112, 32, 49, 48], [103, 97, 112, 32, 49, 48], [114, 97, 100, 105, 117, 115, 32, 53], [107, 105, 108, 108, 32, 48, 32, 49, 48], [107, 105, 108, 108, 32, 48, 32, 48], [112, 111, 108, 101, 32, 51, 32, 52, 32, 53], [], [35, 32, 114, 101, 109, 97, 114, 107], [115, 101, 97, 116, 32, 50, 32, 53], [115, 101, 97, 116, 32, 50, 32, 53, 32, 53, 32, 53], [107, 105, 108, 108, 32, 57, 32, 57], [112, 111, 108, 101, 32, 49, 32, 49, 32, 48], [114, 97, 100, 105, 117, 115, 32, 45, 49], [115, 101, 97, 116, 32, 49, 48, 48, 48, 32, 48, 32, 48], [115, 101, 97, 116, 32, 48, 32, 49, 48, 52, 56, 53, 55, 55, 32, 48], [103, 97, 112, 32, 120], [99, 104, 97, 105, 114, 32, 49, 32, 49, 32, 49], [53, 32, 115, 101, 97, 116], [115, 101, 97, 116, 32, 51, 32, 48, 32, 48, 32, 35, 32, 120], [32, 32, 115, 101, 97, 116, 32, 52, 32, 48, 32, 48, 32, 32], [115, 101, 97, 116, 32, 53, 32, 48, 32, 48, 59], [114, 97, 100, 105, 117, 115, 32, 48], [115, 101, 97, 116, 32, 50, 32, 45, 55, 32, 51], [119, 104, 101, 101, 108, 32, 50, 32, 56, 32, 51]]
def lin (x : Int) : List UInt8 := lins.getD (T.pieceN x) []
def linesL (l : List Int) : List UInt8 := l.flatMap fun x => lin x ++ [10]
theorem lin_len (x : Int) : (lin x).length ≤ 20 := by
  have h : ∀ n, n < 30 → (lins.getD n []).length ≤ 20 := by decide
  exact h _ (by unfold T.pieceN; omega)
theorem linesL_len (l : List Int) : (linesL l).length ≤ 21 * l.length := by
  induction l with
  | nil => simp [linesL]
  | cons x r ih => simp only [linesL, List.flatMap_cons, List.length_append, List.length_cons, List.length_nil] at ih ⊢; have := lin_len x; omega
def J10p (s0 : Value) (l : List Int) (most : Nat) (h : Heap) (n : Nat) (σ : St) : Prop := ∃ i : Nat, n = l.length - i ∧ i ≤ l.length ∧ i ≤ most ∧ σ.t.get 0 = some s0 ∧ σ.t.get 1 = some (.int .i64 most) ∧ σ.t.get 5 = some (.slice (some ⟨h.n, 0, none⟩) 30 30) ∧
  σ.t.get 6 = some (.string (B (linesL (l.take i)))) ∧ σ.t.get 7 = some (.int .i64 i) ∧ Ext h σ.m.h ∧ σ.m.h.f h.n = .row true 9 (lins.map fun p => .string (B p)) ∧ h.n < σ.m.h.n
theorem ptext_ok (s : Value) (l : List Int) (most : Nat) (hm : most ≤ 1000) (hl : l.length ≤ 1152921504606846976) (h : Heap) (hs : IntsA h s l) :
    ACalls PP 10 [s, .int .i64 most] h (fun v h' => Ext h h' ∧ v = .string (B (linesL (l.take most)))) := by
  refine acalls_of_vc mix fn10 bodyEq10 rfl (by show 2 ≤ 36; decide) ok10 ?_
  simp only [body10, Tryz.f10]
  have hnl : noLoc s = true := by obtain ⟨ad, c, rfl, _⟩ := hs; rfl
  obtain ⟨ad, c, rfl, hz⟩ := hs
  simp [opBuildSlice, T.hr30]
  refine vc_loop (J10p (.slice ad l.length c) l most h) _ ⟨0, rfl, by omega, by omega, by simp, by simp, by simp, by simp [linesL], by simp, Ext.new _ _, by simp [lins], by simp⟩ ?_
  rintro n ⟨Tf, ⟨x, H⟩⟩ ⟨i, rfl, hi, him, g0, g1, g5, g6, g7, hE, hrow, hn⟩
  simp at g0 g1 g5 g6 g7 hE hn
  have hrow : H.f h.n = .row true 9 (lins.map fun p => .string (B p)) := hrow
  simp [g0, g1, g5, g6, g7]
  by_cases h1 : i < l.length
  · by_cases h2 : i < most
    · obtain ⟨b, w, cs, rfl, hb, hbn⟩ : ∃ b w cs, ad = some (⟨b, 0, none⟩ : Addr) ∧ h.f b = .row w 3 (l.map (Value.int .i64) ++ cs) ∧ b < h.n := by
        rcases hz with rfl | z
        · simp at h1
        · exact z
      have hb2 : H.f b = .row w 3 (l.map (Value.int .i64) ++ cs) := by rw [hE.f b hbn, hb]
      have hx : l[i]? = some l[i] := List.getElem?_eq_getElem h1
      obtain ⟨rest, hd⟩ : ∃ rest, (l.map (Value.int .i64) ++ cs).drop i = .int .i64 l[i] :: rest := by
        refine ⟨(l.drop (i + 1)).map (Value.int .i64) ++ cs, ?_⟩
        rw [List.drop_append_of_le_length (by simp; omega), ← List.map_drop, List.drop_eq_getElem_cons h1]; rfl
      obtain ⟨cells, hcells⟩ : ∃ cells, cells = l.map (Value.int .i64) ++ cs := ⟨_, rfl⟩
      have hcl : i + 1 ≤ cells.length := by rw [hcells]; simp; omega
      rw [← hcells] at hb2 hd
      obtain ⟨R, hR⟩ : ∃ R, R = lins.map fun p => Value.string (B p) := ⟨_, rfl⟩
      have hRl : R.length = 30 := by rw [hR]; rfl
      obtain ⟨r, hr⟩ : ∃ r, r = T.pieceN l[i] := ⟨_, rfl⟩
      have hr30 : r < 30 := by rw [hr]; unfold T.pieceN; omega
      obtain ⟨rest2, hd2⟩ : ∃ rest2, R.drop r = .string (B (lin l[i])) :: rest2 := by
        refine ⟨R.drop (r + 1), ?_⟩
        rw [List.drop_eq_getElem_cons (by omega)]
        congr 1
        subst hR
        rw [List.getElem_map, lin, ← hr, List.getD_eq_getElem?_getD, List.getElem?_eq_getElem (by simpa using hRl ▸ hr30)]
        rfl
      rw [← hR] at hrow
      obtain ⟨q, hq⟩ : ∃ q : Int, q = l[i] % 18446744073709551616 := ⟨_, rfl⟩
      have e1 : IntKind.wrap .u64 l[i] = q := by rw [u64wrap_mod, hq]
      have e2 : q.tmod 30 = (r : Int) := by
        rw [Int.tmod_eq_emod_of_nonneg (by omega), hr, T.pieceN, ← hq]; omega
      have e3 : IntKind.wrap .u64 30 = 30 := by rw [u64wrap (by omega)]
      have e4 : IntKind.wrap .i64 ((i : Int) + 1) = ((i + 1 : Nat) : Int) := by rw [i64wrap (by omega)]; omega
      have hlen : (linesL (l.take i)).length ≤ 21 * i := by have := linesL_len (l.take i); rw [List.length_take] at this; omega
      have hpl := lin_len l[i]
      have hfit : (linesL (l.take i)).length + (lin l[i]).length ≤ 9223372036854775807 := by omega
      have hfit2 : (linesL (l.take i)).length + (lin l[i]).length + 1 ≤ 9223372036854775807 := by omega
      have hsn : linesL (l.take (i + 1)) = linesL (l.take i) ++ (lin l[i] ++ [10]) := by rw [List.take_add_one, hx, linesL, linesL, List.flatMap_append]; simp
      have hl2 : r + 1 ≤ 30 := by omega
      have hr31 : (r : Int) < 30 := by omega
      simp [h1, h2, g0, g1, g5, g6, g7, hb2, hd, hcl, hx, e1, e2, e3, hrow, hRl, hd2, hr30, hr31, hl2, hfit, hfit2, e4]
      exact ⟨l.length - (i + 1), by omega, i + 1, rfl, by omega, by omega, by simp [g0], by simp [g1], by simp [g5], by rw [hsn]; simp, by simp, hE, hR ▸ hrow, hn⟩
    · have : i = most := by omega
      subst this
      simp [h1, g0, g1, g5, g6, g7]
      exact hE
  · have : l.take most = l.take i := by rw [List.take_of_length_le (by omega), List.take_of_length_le (by omega)]
    simp [h1, g0, g1, g5, g6, g7, this]
    exact hE
end Go.Proofs.Yph
/- What is wrong is told at the first line that is wrong: the walk. -/
namespace Go.Proofs.Yph
open Go Go.Am
set_option maxRecDepth 20000
set_option linter.constructorNameAsVariable false
set_option maxHeartbeats 4000000
open T (Tok tokC tokV spotV TokS allV allL nextV)
open F (FR ChA GlobOK)
def modN (x : Int) (m : Nat) : Nat := ((x % 18446744073709551616) % (m : Int)).toNat
theorem dig_at (i : Nat) (hi : i < 10) : (digB.take (i + 1)).drop i = [UInt8.ofNat (48 + i)] := by
  have h : ∀ i, i < 10 → (digB.take (i + 1)).drop i = [UInt8.ofNat (48 + i)] := by decide
  exact h i hi
theorem preF_len (k : Nat) (hk : k ≤ 10) : (joinL (preF k)).length ≤ 200 := by
  have h : ∀ k, k ≤ 10 → (joinL (preF k)).length ≤ 200 := by decide
  exact h k hk
theorem preF_succ (i : Nat) : joinL (preF (i + 1)) = joinL (preF i) ++ (sdB 2 i ++ [10]) := by
  unfold preF joinL
  rw [List.range_succ]
  simp
theorem sufF_succ (i : Nat) (L : List (List UInt8)) : joinL (L ++ sufF (i + 1)) = joinL (L ++ sufF i) ++ (sdB 3 i ++ [10] ++ (qL ++ [10])) := by
  unfold sufF joinL
  rw [List.range_succ]
  simp
def J7a (k bp bc : Nat) (m wh : Int) (h : Heap) (n : Nat) (σ : St) : Prop := ∃ i : Nat, n = k - i ∧ i ≤ k ∧ σ.m.h = h ∧ σ.t.get 1 = some (.int .i64 m) ∧ σ.t.get 2 = some (.int .i64 wh) ∧ σ.t.get 7 = some (.slice (some ⟨bp, 0, none⟩) 10 10) ∧ σ.t.get 8 = some (.slice (some ⟨bc, 0, none⟩) 10 10) ∧
  σ.t.get 9 = some (.string (B (joinL (preF i)))) ∧ σ.t.get 10 = some (.int .i64 (k : Nat)) ∧ σ.t.get 11 = some (.int .i64 (i : Nat))
def J7b (A : List (List UInt8)) (k w bc M : Nat) (m : Int) (h : Heap) (n : Nat) (σ : St) : Prop := ∃ i : Nat, n = M - i ∧ i ≤ M ∧ σ.m.h = h ∧ σ.t.get 1 = some (.int .i64 m) ∧ σ.t.get 8 = some (.slice (some ⟨bc, 0, none⟩) 10 10) ∧
  σ.t.get 9 = some (.string (B (joinL (A ++ sufF i)))) ∧ σ.t.get 10 = some (.int .i64 (k : Nat)) ∧ σ.t.get 12 = some (.int .u64 (w : Nat)) ∧ σ.t.get 13 = some (.int .i64 (i : Nat))
theorem sufF_len (i : Nat) (hi : i ≤ 6) (A : List (List UInt8)) : (joinL (A ++ sufF i)).length ≤ (joinL A).length + 100 := by
  have h : ∀ i, i ≤ 6 → (joinL (sufF i)).length ≤ 100 := by decide
  have e : joinL (A ++ sufF i) = joinL A ++ joinL (sufF i) := by unfold joinL; simp
  rw [e, List.length_append]
  have := h i hi
  omega
theorem pfirst_ok (n m wh : Int) (h : Heap) (G : GlobOK h) : ACalls PP 7 [.int .i64 n, .int .i64 m, .int .i64 wh] h (fun v h' => Ext h h' ∧ v = .bool true) := by
  refine acalls_of_vc mix fn7 bodyEq7 rfl (by show 3 ≤ 84; decide) ok7 ?_
  simp only [body7, Tryz.f7]
  have hr10 : List.range 10 = [0, 1, 2, 3, 4, 5, 6, 7, 8, 9] := rfl
  obtain ⟨k, hk⟩ : ∃ k, k = modN n 11 := ⟨_, rfl⟩
  obtain ⟨w, hw⟩ : ∃ k, k = modN wh 10 := ⟨_, rfl⟩
  obtain ⟨M, hM⟩ : ∃ k, k = modN m 6 := ⟨_, rfl⟩
  have hk10 : k ≤ 10 := by rw [hk]; unfold modN; omega
  have hw10 : w < 10 := by rw [hw]; unfold modN; omega
  have hM5 : M ≤ 5 := by rw [hM]; unfold modN; omega
  obtain ⟨qn, hqn⟩ : ∃ q : Int, q = n % 18446744073709551616 := ⟨_, rfl⟩
  obtain ⟨qw, hqw⟩ : ∃ q : Int, q = wh % 18446744073709551616 := ⟨_, rfl⟩
  obtain ⟨qm, hqm⟩ : ∃ q : Int, q = m % 18446744073709551616 := ⟨_, rfl⟩
  have a1 : IntKind.wrap .u64 n = qn := by rw [u64wrap_mod, hqn]
  have a2 : qn.tmod 11 = (k : Int) := by rw [Int.tmod_eq_emod_of_nonneg (by omega), hk, modN, ← hqn]; omega
  have b1 : IntKind.wrap .u64 wh = qw := by rw [u64wrap_mod, hqw]
  have b2 : qw.tmod 10 = (w : Int) := by rw [Int.tmod_eq_emod_of_nonneg (by omega), hw, modN, ← hqw]; omega
  have c1 : IntKind.wrap .u64 m = qm := by rw [u64wrap_mod, hqm]
  have c2 : qm.tmod 6 = (M : Int) := by rw [Int.tmod_eq_emod_of_nonneg (by omega), hM, modN, ← hqm]; omega
  have a3 : IntKind.wrap .i64 (k : Int) = (k : Int) := by rw [i64wrap (by omega)]
  have a4 : IntKind.wrap .u64 (k : Int) = (k : Int) := u64wrap (by omega)
  have b4 : IntKind.wrap .u64 (w : Int) = (w : Int) := u64wrap (by omega)
  have c3 : IntKind.wrap .i64 (M : Int) = (M : Int) := by rw [i64wrap (by omega)]
  have c4 : IntKind.wrap .u64 (M : Int) = (M : Int) := u64wrap (by omega)
  simp -implicitDefEqProofs [opBuildSlice, hr10, a1, a2, a3, a4]
  obtain ⟨H, hH⟩ : ∃ H, H = (h.new (.row true 9 (wrongs.map fun p => .string (B p)))).new (.row true 3 (colsF.map (Value.int .i64))) := ⟨_, rfl⟩
  have EH : Ext h H := by rw [hH]; exact (Ext.new _ _).newOf _
  have hp : H.f h.n = .row true 9 (wrongs.map fun p => .string (B p)) := by rw [hH]; simp
  have hcs : H.f (h.n + 1) = .row true 3 (colsF.map (Value.int .i64)) := by rw [hH]; simp
  refine vc_loop (J7a k h.n (h.n + 1) m wh H) k ⟨0, by omega, by omega, by rw [hH]; simp [wrongs, colsF], by simp, by simp, by simp, by simp, by simp [preF, joinL, gapL, seatL], by simp, by simp⟩ ?_
  rintro nn ⟨Tf, ⟨x, H'⟩⟩ ⟨i, rfl, hi, hHH, g1, g2, g7, g8, g9, g10, g11⟩
  simp at hHH g1 g2 g7 g8 g9 g10 g11
  replace hHH := hHH.symm
  subst hHH
  simp -implicitDefEqProofs [g1, g2, g7, g8, g9, g10, g11]
  refine condQ_of (fun hc => ?_) (fun hc => ?_) <;> simp only [decide_eq_true_eq, decide_eq_false_iff_not] at hc
  · have hi10 : i < 10 := by omega
    have hl := preF_len i (by omega)
    obtain ⟨P, hP⟩ : ∃ P, P = joinL (preF i) := ⟨_, rfl⟩
    rw [← hP] at hl g9 ⊢
    have e1 : (i : Int).tmod 10 = (i : Int) := by rw [Int.tmod_eq_emod_of_nonneg (by omega)]; omega
    have e2 : IntKind.wrap .i64 (i : Int) = (i : Int) := by rw [i64wrap (by omega)]
    obtain ⟨i1, hi1⟩ : ∃ i1, i1 = i + 1 := ⟨_, rfl⟩
    have e3 : IntKind.wrap .i64 ((i : Int) + 1) = (i1 : Int) := by rw [i64wrap (by omega)]; omega
    have hd := dig_at i hi10
    rw [← hi1] at hd
    simp only [digB] at hd
    have q1 : i ≤ i1 := by omega
    have q2 : i1 ≤ 10 := by omega
    have f1 : P.length ≤ 9223372036854775800 := by omega
    have f2 : P.length ≤ 9223372036854775799 := by omega
    have f3 : P.length ≤ 9223372036854775796 := by omega
    have hs : joinL (preF i1) = P ++ ([115, 101, 97, 116, 32, 50, 32] ++ ([UInt8.ofNat (48 + i)] ++ [32, 48, 10])) := by
      rw [hi1, preF_succ, ← hP]
      unfold sdB
      rw [dig_at i hi10]
      simp
    simp -implicitDefEqProofs [g1, g2, g7, g8, g9, g10, g11, e1, e2, e3, hd, q1, q2, f1, f2, f3]
    exact ⟨k - i1, by omega, i1, rfl, by omega, rfl, by simp [g1], by simp [g2], by simp [g7], by simp [g8], by rw [hs]; simp, by simp [g10], by simp⟩
  · have hik : i = k := by omega
    rw [hik] at g9
    obtain ⟨W, hW⟩ : ∃ W, W = wrongs.map (fun p => Value.string (B p)) := ⟨_, rfl⟩
    have hWl : W.length = 10 := by rw [hW]; rfl
    obtain ⟨p, hpw⟩ : ∃ p, p = wrongs.getD w [] := ⟨_, rfl⟩
    have hWd : W.drop w = .string (B p) :: W.drop (w + 1) := by
      rw [List.drop_eq_getElem_cons (by omega)]
      congr 1
      subst hW
      rw [List.getElem_map, hpw, List.getD_eq_getElem?_getD, List.getElem?_eq_getElem (show w < wrongs.length from hw10)]
      rfl
    rw [← hW] at hp
    have hpl : p.length ≤ 20 := by
      have h : ∀ w, w < 10 → (wrongs.getD w []).length ≤ 20 := by decide
      rw [hpw]; exact h w hw10
    have hl := preF_len k hk10
    obtain ⟨P, hP⟩ : ∃ P, P = joinL (preF k) := ⟨_, rfl⟩
    rw [hik]
    rw [← hP] at hl g9 ⊢
    have f1 : P.length + p.length ≤ 9223372036854775807 := by omega
    have f2 : P.length + p.length ≤ 9223372036854775806 := by omega
    have hw1 : w + 1 ≤ 10 := by omega
    have hw2 : (w : Int) < 10 := by omega
    simp -implicitDefEqProofs [g1, g2, g7, g8, g9, g10, g11, b1, b2, b4, hp, hWl, hWd, hw1, hw2, hw10, f1, f2]
    have hA : joinL ((preF k ++ [p]) ++ sufF 0) = P ++ (p ++ [10]) := by
      rw [hP]; unfold joinL sufF; simp
    have hAl : (joinL (preF k ++ [p])).length ≤ 300 := by
      have e : joinL (preF k ++ [p]) = P ++ (p ++ [10]) := by rw [hP]; unfold joinL; simp
      rw [e]; simp; omega
    obtain ⟨A, hA0⟩ : ∃ A, A = preF k ++ [p] := ⟨_, rfl⟩
    rw [← hA0] at hA hAl
    refine vc_loop (J7b A k w (h.n + 1) M m H) M ⟨0, by omega, by omega, rfl, by simp, by simp, by rw [hA]; simp, by simp, by simp, by simp⟩ ?_
    clear g1 g2 g7 g8 g9 g10 g11
    rintro nn ⟨Tg, ⟨y, H'⟩⟩ ⟨j, rfl, hj, hHH, g1, g8, g9, g10, g12, g13⟩
    simp at hHH g1 g8 g9 g10 g12 g13
    replace hHH := hHH.symm
    subst hHH
    simp -implicitDefEqProofs [g1, g8, g9, g10, g12, g13, c1, c2, c3, c4]
    refine condQ_of (fun hc => ?_) (fun hc => ?_) <;> simp only [decide_eq_true_eq, decide_eq_false_iff_not] at hc
    · have hj10 : j < 10 := by omega
      have hl2 := sufF_len j (by omega) A
      obtain ⟨Q, hQ⟩ : ∃ Q, Q = joinL (A ++ sufF j) := ⟨_, rfl⟩
      rw [← hQ] at hl2 g9 ⊢
      obtain ⟨j1, hj1⟩ : ∃ j1, j1 = j + 1 := ⟨_, rfl⟩
      have e3 : IntKind.wrap .i64 ((j : Int) + 1) = (j1 : Int) := by rw [i64wrap (by omega)]; omega
      have hd := dig_at j hj10
      rw [← hj1] at hd
      simp only [digB] at hd
      have q1 : j ≤ j1 := by omega
      have q2 : j1 ≤ 10 := by omega
      have f1 : Q.length ≤ 9223372036854775800 := by omega
      have f2 : Q.length ≤ 9223372036854775799 := by omega
      have f3 : Q.length ≤ 9223372036854775794 := by omega
      have hs : joinL (A ++ sufF j1) = Q ++ ([115, 101, 97, 116, 32, 51, 32] ++ ([UInt8.ofNat (48 + j)] ++ [32, 48, 10, 113, 10])) := by
        rw [hj1, sufF_succ, ← hQ]
        unfold sdB
        rw [dig_at j hj10]
        simp [qL]
      simp -implicitDefEqProofs [g1, g8, g9, g10, g12, g13, e3, hd, q1, q2, f1, f2, f3]
      exact ⟨M - j1, by omega, j1, rfl, by omega, rfl, by simp [g1], by simp [g8], by rw [hs]; simp, by simp [g10], by simp [g12], by simp⟩
    · have hjM : j = M := by omega
      rw [hjM] at g9
      have hl2 := sufF_len M (by omega) A
      have law := first_law hk10 hw10 hM5
      rw [← hpw, ← hA0] at law
      obtain ⟨Q, hQ⟩ : ∃ Q, Q = joinL (A ++ sufF M) := ⟨_, rfl⟩
      rw [hjM]
      rw [← hQ] at hl2 g9 law ⊢
      obtain ⟨c, hc'⟩ : ∃ c, c = colsF.getD w 0 := ⟨_, rfl⟩
      rw [← hc'] at law
      obtain ⟨C, hC⟩ : ∃ C, C = colsF.map (Value.int .i64) := ⟨_, rfl⟩
      have hCl : C.length = 10 := by rw [hC]; rfl
      have hCd : C.drop w = .int .i64 c :: C.drop (w + 1) := by
        rw [List.drop_eq_getElem_cons (by omega)]
        congr 1
        subst hC
        rw [List.getElem_map, hc', List.getD_eq_getElem?_getD, List.getElem?_eq_getElem (show w < colsF.length from hw10)]
        rfl
      rw [← hC] at hcs
      simp -implicitDefEqProofs [g1, g8, g9, g10, g12, g13]
      refine (pcheck_ok Q (by omega) H (G.ext EH)).mono ?_
      rintro v K1 ⟨F1, rfl⟩
      have hcs1 : K1.f (h.n + 1) = .row true 3 C := by rw [F1.f _ (by rw [hH]; simp)]; exact hcs
      rw [law]
      simp -implicitDefEqProofs [callQ, spotV]
      intro _
      refine (told_ok K1 ((G.ext EH).ext F1)).mono ?_
      rintro v K2 ⟨F2, rfl⟩
      have hcs2 : K2.f (h.n + 1) = .row true 3 C := by rw [F2.f _ (Nat.lt_of_lt_of_le (by rw [hH]; simp) F1.n)]; exact hcs1
      have e5 : IntKind.wrap .i64 ((k : Int) + 3) = (k : Int) + 3 := by rw [i64wrap (by omega)]
      simp -implicitDefEqProofs [callP, e5, hcs2, hCl, hCd, hw1, hw2, hw10, b4]
      intro _
      exact (EH.trans F1).trans F2
end Go.Proofs.Yph
/- A text of more than a mebibyte is refused; of as much it is read. -/
namespace Go.Proofs.Yph
open Go Go.Am
set_option maxRecDepth 20000
set_option linter.constructorNameAsVariable false
set_option maxHeartbeats 4000000
open T (Tok tokC tokV spotV TokS allV allL nextV nextV' lexT no10)
open V (SeatR PoleR VenR)
open F (FR ChA GlobOK)
theorem skip_blank (m : Nat) : T.skipL false (List.replicate m (32 : UInt8)) = m := by
  induction m with
  | zero => rfl
  | succ m ih =>
    rw [List.replicate_succ]
    show (if T.kindV (32 : UInt8).toNat = 1 then T.skipL false (List.replicate m 32) + 1 else _) = m + 1
    rw [if_pos (by decide), ih]
theorem lex_blanks (m : Nat) (ln col : Int) : lexT (List.replicate m (32 : UInt8)) ln col = ⟨[], ln, col + m, 0⟩ := by
  have h : nextV (List.replicate m (32 : UInt8)) 0 ln col = ⟨T.zTok, m, ln, col + m - (0 : Nat), 4⟩ := by
    unfold nextV nextV'
    rw [List.drop_zero, skip_blank, Nat.zero_add, List.getElem?_eq_none (by simp)]
  rw [T.lexT_next, h]
  simp
theorem par_large (m : Nat) : (parO (joinL [gap1, seatL] ++ List.replicate m 32)).1 = none := by
  obtain ⟨tl, htl⟩ : ∃ t, t = List.replicate m (32 : UInt8) := ⟨_, rfl⟩
  have g1 : goodB gap1 := goodB_of (by kernel_rfl)
  have g2 : goodB seatL := goodB_of (by kernel_rfl)
  have e : joinL [gap1, seatL] ++ tl = gap1 ++ 10 :: (seatL ++ 10 :: tl) := by simp [joinL]
  obtain ⟨c1, _, _⟩ := T.lexT_cat (seatL ++ 10 :: tl) (gap1.length + 1) gap1 1 1 (by omega) g1.1
  obtain ⟨c2, _, _⟩ := T.lexT_cat tl (seatL.length + 1) seatL (1 + 1) 1 (by omega) g2.1
  have hx : allV (joinL [gap1, seatL] ++ tl) = ⟨toksL [gap1, seatL] 1, 3, 1 + m, 0⟩ := by
    rw [T.lexT_all, e, c1, if_pos (g1.2 1), c2, if_pos (g2.2 _), htl, lex_blanks]
    rfl
  rw [← htl]
  unfold parO
  rw [hx]
  simp only
  have hf : linesD 3 (1 + m) ((toksL [gap1, seatL] 1).length + 1) (toksL [gap1, seatL] 1) rd0 = foldS [gap1, seatL] 1 rd0 := by
    refine fold_lines _ _ _ _ _ _ (fun b hb => ?_) (by have := toks_len [gap1, seatL] 1; omega)
    rcases List.mem_cons.1 hb with rfl | hb
    · exact g1
    · obtain rfl := List.mem_singleton.1 hb
      exact g2
  have hfold : foldS [gap1, seatL] 1 rd0 = (⟨[⟨0, 0, 0, 0⟩], 1, 0, [], [], false⟩, none) := by kernel_rfl
  rw [if_neg (by simp), linesR_D, List.drop_zero, hf, hfold]
  simp [wholeR, killsF]
/-! too large -/
theorem all_big (l : List UInt8) (hl : 1048576 < l.length) (h : Heap) : ACalls PP 23 [.string (B l)] h (fun v h' => h' = h ∧ v = .tuple #[.slice none 0 0, spotV 0 0, .int .i64 3]) := by
  refine acalls_of_vc mix fn23 bodyEq23 rfl (by show 1 ≤ 42; decide) ok23 ?_
  simp only [body23, Tryz.f23]
  have c1 : (1048576 : Int) < (l.length : Int) := by omega
  simp -implicitDefEqProofs [c1, spotV]
def bigL : List FR := [⟨3, 0, 0⟩]
theorem venue_big (l : List UInt8) (hl : 1048576 < l.length) (h : Heap) : ACalls PP 13 [.string (B l)] h (fun v h' => Ext h h' ∧ ∃ E, v = .tuple #[.agg ⟨V.zVen⟩, E] ∧ ChA h' h'.n E bigL) := by
  refine acalls_of_vc mix fn13 bodyEq13 rfl (by show 1 ≤ 60; decide) ok13 ?_
  simp only [body13, Tryz.f13]
  simp -implicitDefEqProofs
  refine (all_big l hl h).mono ?_
  rintro v h' ⟨e, rfl⟩
  replace e := e.symm
  subst e
  simp -implicitDefEqProofs [callQ, spotV]
  intro _
  refine (F.new_ok 3 0 0 h).mono ?_
  rintro v H1 ⟨E1, C1⟩
  rw [if_neg (by decide)] at C1
  have C1' : ChA H1 H1.n v bigL := C1
  rcases C1.shape with ⟨_, q⟩ | ⟨b, f, E', r, rfl, q, k1, k2, k3⟩
  · cases q
  simp -implicitDefEqProofs [callQ]
  intro _
  exact ⟨E1, _, by simp [V.zVen], C1'⟩
theorem check_big (l : List UInt8) (hl : 1048576 < l.length) (h : Heap) (G : GlobOK h) : ACalls PP 12 [.string (B l)] h (fun v h' => Ext h h' ∧ v = .tuple #[.int .i64 3, spotV 0 0]) := by
  refine acalls_of_vc mix fn12 bodyEq12 rfl (by show 1 ≤ 21; decide) ok12 ?_
  simp only [body12, Tryz.f12]
  simp -implicitDefEqProofs
  refine (venue_big l hl h).mono ?_
  rintro v H1 ⟨E1, E, rfl, hE⟩
  have G1 := G.ext E1
  have hE' := hE
  rcases hE.shape with ⟨_, q⟩ | ⟨b, f, E', r, rfl, q, k1, k2, k3⟩
  · cases q
  simp -implicitDefEqProofs [callQ, V.zVen]
  intro _
  have EN : Ext H1 (H1.new (.row true 58 [.pointer none])) := Ext.new H1 _
  refine (F.as_hit_ok b H1.n (.pointer none) _ (G1.ext EN) (by simp)).mono ?_
  rintro v H2 ⟨rfl, rfl⟩
  have EN2 := EN.setOf (Nat.le_refl H1.n) (.row true 58 [.pointer (some ⟨b, 0, none⟩)])
  obtain ⟨M, hM⟩ : ∃ M, M = (H1.new (.row true 58 [.pointer none])).set H1.n (.row true 58 [.pointer (some ⟨b, 0, none⟩)]) := ⟨_, rfl⟩
  have hMn : M.f H1.n = .row true 58 [.pointer (some ⟨b, 0, none⟩)] := by rw [hM]; simp
  rw [← hM] at EN2 ⊢
  have hMb : M.f b = .row true 89 [.int .i64 f.code, .int .i64 f.line, .int .i64 f.col, E'] := by rw [EN2.f b k2]; exact k1
  simp -implicitDefEqProofs [callQ, hMn]
  intro _
  refine (fcode_ok b f E' M hMb).mono ?_
  rintro v H2 ⟨e1, rfl⟩
  replace e1 := e1.symm
  subst e1
  simp -implicitDefEqProofs [callQ]
  intro _
  refine (F.spot_ok _ _ (by simp [bigL]) M (G1.ext EN2) (hE'.ext EN2)).mono ?_
  rintro v H2 ⟨E3, rfl⟩
  have hsp : F.spotL bigL = (0, 0) := rfl
  rw [hsp]
  simp -implicitDefEqProofs [callQ]
  intro _
  refine ⟨(E1.trans EN2).trans E3, ?_⟩
  have hfc : f.code = 3 := by simp only [bigL, List.cons.injEq] at q; rw [← q.1]
  rw [hfc]
  exact ⟨rfl, rfl⟩
def rowS (i k : Nat) : List Value := (List.replicate i (32 : UInt8) ++ List.replicate (k - i) 0).map byteV
theorem rowS_len (i k : Nat) (h : i ≤ k) : (rowS i k).length = k := by unfold rowS; simp; omega
theorem rowS_succ (i k : Nat) (h : i < k) : (rowS i k).take i ++ .int .u8 32 :: (rowS i k).drop (i + 1) = rowS (i + 1) k := by
  unfold rowS
  rw [← List.map_take, ← List.map_drop]
  have e1 : (List.replicate i (32 : UInt8) ++ List.replicate (k - i) 0).take i = List.replicate i 32 := by
    rw [List.take_append_of_le_length (by simp)]; simp
  have e2 : (List.replicate i (32 : UInt8) ++ List.replicate (k - i) 0).drop (i + 1) = List.replicate (k - (i + 1)) 0 := by
    rw [List.drop_append]; simp; omega
  rw [e1, e2, List.replicate_succ']
  simp [byteV]
def headT : List UInt8 := [103, 97, 112, 32, 49, 10, 115, 101, 97, 116, 32, 48, 32, 48, 32, 48, 10]
def J6L (k : Nat) (h : Heap) (n : Nat) (σ : St) : Prop := ∃ i : Nat, n = k - i ∧ i ≤ k ∧ Ext h σ.m.h ∧ h.n < σ.m.h.n ∧ σ.m.h.f h.n = .row true 5 (rowS i k) ∧ σ.t.get 3 = some (.int .i64 (k : Nat)) ∧ σ.t.get 4 = some (.slice (some ⟨h.n, 0, none⟩) k k) ∧ σ.t.get 5 = some (.int .i64 (i : Nat))
theorem plarge_ok (n : Int) (h : Heap) (G : GlobOK h) : ACalls PP 6 [.int .i64 n] h (fun v h' => Ext h h' ∧ v = .bool true) := by
  refine acalls_of_vc mix fn6 bodyEq6 rfl (by show 1 ≤ 53; decide) ok6 ?_
  simp only [body6, Tryz.f6]
  obtain ⟨r, hr⟩ : ∃ r, r = modN n 5 := ⟨_, rfl⟩
  have hr5 : r < 5 := by rw [hr]; unfold modN; omega
  obtain ⟨q, hq⟩ : ∃ q : Int, q = n % 18446744073709551616 := ⟨_, rfl⟩
  have a1 : IntKind.wrap .u64 n = q := by rw [u64wrap_mod, hq]
  have a2 : q.tmod 5 = (r : Int) := by rw [Int.tmod_eq_emod_of_nonneg (by omega), hr, modN, ← hq]; omega
  have a3 : IntKind.wrap .u64 (r : Int) = (r : Int) := u64wrap (by omega)
  have a4 : IntKind.wrap .i64 (r : Int) = (r : Int) := by rw [i64wrap (by omega)]
  obtain ⟨k, hk⟩ : ∃ k, k = 1048574 + r := ⟨_, rfl⟩
  have a5 : IntKind.wrap .i64 (1048574 + (r : Int)) = (k : Int) := by rw [i64wrap (by omega)]; omega
  have a6 : k ≤ 140737488355328 := by omega
  have hz : zeroRow [Value.int .u8 0] 1 k = rowS 0 k := by
    rw [zeroRow_one]
    unfold rowS
    simp [byteV]
  simp -implicitDefEqProofs [a1, a2, a3, a4, a5, opMakeSlice, maxA, a6, hz]
  have hk1 : k ≤ 1048578 := by omega
  refine vc_loop (J6L k h) k ⟨0, by omega, by omega, Ext.new _ _, by simp, by simp, by simp, by simp, by simp⟩ ?_
  rintro nn ⟨Tf, ⟨x, H⟩⟩ ⟨i, rfl, hi, EH, hHn, hrow, g3, g4, g5⟩
  simp at EH hHn hrow g3 g4 g5
  simp -implicitDefEqProofs [g3, g4, g5]
  refine condQ_of (fun hc => ?_) (fun hc => ?_) <;> simp only [decide_eq_true_eq, decide_eq_false_iff_not] at hc
  · have hik : i < k := by omega
    obtain ⟨i1, hi1⟩ : ∃ i1, i1 = i + 1 := ⟨_, rfl⟩
    have e3 : IntKind.wrap .i64 ((i : Int) + 1) = (i1 : Int) := by rw [i64wrap (by omega)]; omega
    have hrl := rowS_len i k hi
    have hrs := rowS_succ i k hik
    have hik1 : i + 1 ≤ k := hik
    simp -implicitDefEqProofs [g3, g4, g5, e3, hrow, hrl, hik, hik1, hrs]
    exact ⟨k - i1, by omega, i1, rfl, by omega, EH.setOf (Nat.le_refl _) _, by simp [hHn], by simp [hi1], by simp [g3], by simp [g4], by simp⟩
  · have hik2 : i = k := by omega
    rw [hik2] at hrow
    have hrl := rowS_len k k (Nat.le_refl k)
    have hk17 : 17 ≤ k := by omega
    have hk0 : 0 < k := by omega
    obtain ⟨W, hW⟩ : ∃ W, W = headT ++ List.replicate (k - 17) (32 : UInt8) := ⟨_, rfl⟩
    have hWl : W.length = k := by rw [hW]; simp [headT]; omega
    obtain ⟨R, hR⟩ : ∃ R, R = W.map byteV := ⟨_, rfl⟩
    have hRl : R.length = k := by rw [hR]; simp [hWl]
    have hcp : List.map byteV (B [103, 97, 112, 32, 49, 10, 115, 101, 97, 116, 32, 48, 32, 48, 32, 48, 10]).data.toList ++ List.drop 17 (rowS k k) = R := by
      rw [hR, hW, List.map_append]
      congr 1
      unfold rowS
      rw [← List.map_drop]
      congr 1
      simp
    have htk : R.take k = R := List.take_of_length_le (by omega)
    have hbl : bytesL R = some W := by rw [hR]; exact bytesL_map W
    obtain ⟨H0, hH0⟩ : ∃ H0, H0 = H.set h.n (.row true 5 R) := ⟨_, rfl⟩
    have E0 : Ext h H0 := by rw [hH0]; exact EH.setOf (Nat.le_refl _) _
    have hWj : W = joinL [gap1, seatL] ++ List.replicate (k - 17) 32 := hW
    simp -implicitDefEqProofs [g3, g4, g5, hrow, hrl, hk17, hk0, hcp, htk, hbl, hRl]
    rw [← hH0]
    by_cases hb : k ≤ 1048576
    · refine (pcheck_ok W (by omega) H0 (G.ext E0)).mono ?_
      rintro v K1 ⟨F1, rfl⟩
      have law : checkV W = (0, 0, 0) := by
        unfold checkV
        rw [hWj, par_large]
      rw [law]
      have hb2 : ¬ (1048576 : Int) < (k : Int) := by omega
      simp -implicitDefEqProofs [callQ, spotV, hb2]
      intro _
      refine (told_ok K1 ((G.ext E0).ext F1)).mono ?_
      rintro v K2 ⟨F2, rfl⟩
      simp -implicitDefEqProofs [callP]
      intro _
      exact (E0.trans F1).trans F2
    · refine (check_big W (by omega) H0 (G.ext E0)).mono ?_
      rintro v K1 ⟨F1, rfl⟩
      have hb2 : (1048576 : Int) < (k : Int) := by omega
      simp -implicitDefEqProofs [callQ, spotV, hb2]
      intro _
      refine (told_ok K1 ((G.ext E0).ext F1)).mono ?_
      rintro v K2 ⟨F2, rfl⟩
      simp -implicitDefEqProofs [callP]
      intro _
      exact (E0.trans F1).trans F2
end Go.Proofs.Yph
namespace Go.Proofs.YthglohpeijfcfaaGreatDoor.AmParseLarge
open Go Go.Am Go.RowKit
theorem walk {W : World} (L : Yph.isLaid W) (n : Int) (wn : (Lit.int .i64 n).wf = true) :
    Calls Tryz.prog 6 #[.int .i64 n] W (fun e w' => e = .returned (.bool true) ∧ Below W.heap.size W w') := by
  obtain ⟨h, ρ, L0, G⟩ := Yph.start_of L
  rw [← Yph.PP_eq]
  exact law_walkG L0 (Yph.plarge_ok n h G) ⟨rfl, fun i u hi => by
    match i, hi with
    | 0, hi => simp at hi; subst hi; exact ⟨_, rfl, .int _ _⟩
    | i + 1, hi => simp at hi⟩
end Go.Proofs.YthglohpeijfcfaaGreatDoor.AmParseLarge
