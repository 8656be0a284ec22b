import Derived.Test.YtfcllalhfcmfdaaAmT7
set_option linter.unusedVariables false
set_option linter.unusedSimpArgs false
set_option linter.unusedSectionVars false
namespace Go.Proofs.Ytf
open Go Go.Am
set_option maxRecDepth 20000
set_option linter.unusedSimpArgs false
set_option maxHeartbeats 2000000
theorem nextV_go {l : List UInt8} {a : Nat} {ln col : Int} (ha : a ≤ l.length) (hln : 1 ≤ ln ∧ ln ≤ 1 + a) (hcol : 1 ≤ col ∧ col ≤ 1 + a) (hc : (nextV l a ln col).code = 0) :
    a < (nextV l a ln col).to ∧ (nextV l a ln col).to ≤ l.length ∧ (1 ≤ (nextV l a ln col).ln ∧ (nextV l a ln col).ln ≤ 1 + (nextV l a ln col).to) ∧ (1 ≤ (nextV l a ln col).col ∧ (nextV l a ln col).col ≤ 1 + (nextV l a ln col).to) := by
  revert hc
  unfold nextV nextV'
  generalize hk : a + skipL false (l.drop a) = k
  have hak : a ≤ k := by omega
  cases hg : l[k]? with
  | none => simp
  | some c =>
    have hd := drop_get hg
    have hkl : k < l.length := by rw [List.getElem?_eq_some_iff] at hg; exact hg.1
    dsimp only
    by_cases h3 : kindV c.toNat = 3
    · simp only [h3, if_true]; intro _; omega
    · by_cases h4 : kindV c.toNat = 4
      · have hr : runL 4 (l.drop k) ≤ l.length - k := by have := runL_le 4 (l.drop k); rw [List.length_drop] at this; exact this
        have hr2 : 1 ≤ runL 4 (l.drop k) := by rw [hd, runL, if_pos h4]; omega
        cases he : endOk l (k + runL 4 (l.drop k)) with
        | true => simp only [h4, if_true, he]; intro _; simp only [show ¬ (4 = 3) by omega, if_false]; omega
        | false => simp [h4]
      · by_cases h5 : kindV c.toNat = 6 ∨ kindV c.toNat = 5
        · cases hok : (numV l k).ok with
          | true =>
            have h1 := numV_le l k (by omega)
            have h2 : k < (numV l k).to := by
              revert hok
              unfold numV numV'
              split
              · simp
              · intro _; show k < k + numM l k + numT l k; omega
            simp only [h3, h4, h5, if_false, if_true]; intro _; omega
          | false => simp [h3, h4, h5]
        · simp [h3, h4, h5]
/-- tokens in the heap, as a slice of one's own -/
def OwnS (h0 h : Heap) (v : Value) (ts : List Tok) : Prop := ∃ ad, v = .slice ad ts.length ts.length ∧ ((ad = none ∧ ts = []) ∨ ∃ b, ad = some ⟨b, 0, none⟩ ∧ h.f b = .row true 27 (ts.flatMap tokC) ∧ h0.n ≤ b ∧ b < h.n)
theorem OwnS.ext {h0 h h' : Heap} {v : Value} {ts : List Tok} (H : OwnS h0 h v ts) (e : Ext h h') : OwnS h0 h' v ts := by
  obtain ⟨ad, q, z⟩ := H
  refine ⟨ad, q, ?_⟩
  rcases z with z | ⟨b, z1, z2, z3, z4⟩
  · exact .inl z
  · exact .inr ⟨b, z1, by rw [e.f b z4, z2], z3, Nat.lt_of_lt_of_le z4 e.n⟩
theorem tokC_len (ts : List Tok) : (ts.flatMap tokC).length = ts.length * 5 := by
  induction ts with
  | nil => rfl
  | cons t r ih => simp [tokC] at ih ⊢; omega
structure AllR where
  ts : List Tok
  ln : Int
  col : Int
  code : Int
def allL (l : List UInt8) : Nat → Nat → Int → Int → AllR
  | 0, _, ln, col => ⟨[], ln, col, 0⟩
  | n + 1, a, ln, col =>
    let x := nextV l a ln col
    if x.code = 0 then let r := allL l n x.to x.ln x.col; ⟨x.tok :: r.ts, r.ln, r.col, r.code⟩
    else if x.code = 4 then ⟨[], x.ln, x.col, 0⟩
    else ⟨[], x.ln, x.col, x.code⟩
theorem allL_fuel (l : List UInt8) : ∀ (n m a : Nat) (ln col : Int), l.length < n + a → l.length < m + a → a ≤ l.length → (1 ≤ ln ∧ ln ≤ 1 + a) → (1 ≤ col ∧ col ≤ 1 + a) → allL l n a ln col = allL l m a ln col := by
  intro n
  induction n with
  | zero => intro m a ln col h1 h2 h3; omega
  | succ n ih =>
    intro m a ln col h1 h2 h3 h4 h5
    cases m with
    | zero => omega
    | succ m =>
      rw [allL, allL]
      by_cases hc : (nextV l a ln col).code = 0
      · have hgo := nextV_go h3 h4 h5 hc
        simp only [hc, if_true]
        rw [ih m _ _ _ (by omega) (by omega) hgo.2.1 hgo.2.2.1 hgo.2.2.2]
      · simp only [hc, if_false]
def allV (l : List UInt8) : AllR := allL l (l.length + 1) 0 1 1
def J11 (l : List UInt8) (h : Heap) (n : Nat) (σ : St) : Prop := ∃ (a : Nat) (ln col : Int) (ts : List Tok) (s : Value), n = l.length - a ∧ a ≤ l.length ∧ (1 ≤ ln ∧ ln ≤ 1 + a) ∧ (1 ≤ col ∧ col ≤ 1 + a) ∧ ts.length ≤ a ∧
  σ.t.get 0 = some (.string (B l)) ∧ σ.t.get 5 = some s ∧ σ.t.get 6 = some (.int .i64 a) ∧ σ.t.get 7 = some (.pointer (some ⟨7, 0, some 0⟩)) ∧ σ.t.get 3 = some (.pointer (some ⟨3, 0, some 0⟩)) ∧
  σ.m.x.look 7 = some (25, [.int .i64 ln, .int .i64 col]) ∧ (∃ c1 c2, σ.m.x.look 3 = some (25, [c1, c2])) ∧ Ext h σ.m.h ∧ OwnS h σ.m.h s ts ∧
  allV l = ⟨ts ++ (allL l (l.length - a + 1) a ln col).ts, (allL l (l.length - a + 1) a ln col).ln, (allL l (l.length - a + 1) a ln col).col, (allL l (l.length - a + 1) a ln col).code⟩
theorem all_ok (l : List UInt8) (hl : l.length ≤ 1048576) (h : Heap) : ACalls PP 11 [.string (B l)] h (fun v h' => Ext h h' ∧ ∃ s, OwnS h h' s (allV l).ts ∧ v = .tuple #[s, spotV (allV l).ln (allV l).col, .int .i64 (allV l).code]) := by
  refine acalls_of_vc mix fn11 bodyEq11 rfl (by show 1 ≤ 42; decide) ok11 ?_
  simp only [body11, Try.f11]
  have c1 : ¬ (1048576 : Int) < (l.length : Int) := by omega
  simp [c1]
  refine vc_loop (J11 l h) _ ⟨0, 1, 1, [], .slice none 0 0, rfl, by omega, by omega, by omega, by simp, by simp, by simp, by simp, by simp, by simp, by simp, ⟨_, _, by simp; exact ⟨rfl, rfl⟩⟩, Ext.rfl' _, ⟨none, rfl, .inl ⟨rfl, rfl⟩⟩, rfl⟩ ?_
  rintro n ⟨T, ⟨x, H⟩⟩ ⟨a, ln, col, ts, s, rfl, ha, hln, hcol, hts, h0, h5, h6, h7, h3, hx7, ⟨d1, d2, hx3⟩, hE, hO, hr⟩
  simp at h0 h5 h6 h7 h3 hx7 hx3 hE hO
  simp [h0, h5, h6, h7, h3, hx7, hx3]
  refine (next_ok l a ln col (by omega) ha (by omega) (by omega) H).mono ?_
  rintro v H2 ⟨hE2, rfl⟩
  have hgo := nextV_go (l := l) ha hln hcol
  rw [show l.length - a + 1 = (l.length - a) + 1 by rfl, allL] at hr
  obtain ⟨X, hX⟩ : ∃ X, X = nextV l a ln col := ⟨_, rfl⟩
  rw [← hX] at hgo hr ⊢
  simp [callQ, nxV, tokV, tokC, spotV]
  intro _
  obtain ⟨ad, rfl, hO2⟩ := hO.ext hE2
  have hE3 : Ext h H2 := hE.trans hE2
  simp [h0, h5, h6, h7, h3, hx7, hx3]
  by_cases hc0 : X.code = 0
  · rw [if_pos hc0] at hr
    obtain ⟨g1, g2, g3, g4⟩ := hgo hc0
    have hr5 : List.range 5 = [0, 1, 2, 3, 4] := rfl
    have hfu : l.length - a = (l.length - X.to + 1) + (X.to - a - 1) := by omega
    have hr6 : ∀ L, allV l = L → True := fun _ _ => trivial
    dsimp only at hr
    rw [allL_fuel l (l.length - a) (l.length - X.to + 1) X.to X.ln X.col (by omega) (by omega) g2 g3 g4] at hr
    rcases hO2 with ⟨rfl, rfl⟩ | ⟨b, rfl, hb1, hb2, hb3⟩
    · simp [hc0, opAppend, srcCells, opBuildSlice, maxA, hr5]
      refine ⟨l.length - X.to, by omega, X.to, X.ln, X.col, [X.tok], _, rfl, g2, g3, g4, by simp; omega, by simp, by simp; rfl, by simp, by simp, by simp, by simp, ⟨_, _, by simp; exact ⟨rfl, rfl⟩⟩, (hE3.newOf _).newOf _, ⟨_, rfl, .inr ⟨_, rfl, ?_, ?_, ?_⟩⟩, ?_⟩
      · simp [tokC]
      · have := hE3.n; omega
      · simp
      · rw [hr]; simp
    · have hb : ¬ b = H2.n := by omega
      have hmx : (ts.length + 1) * 48 ≤ 140737488355328 := by omega
      obtain ⟨cs, hcs⟩ : ∃ cs, cs = ts.flatMap tokC := ⟨_, rfl⟩
      have hcl : cs.length = ts.length * 5 := by rw [hcs, tokC_len]
      rw [← hcs] at hb1
      simp [hc0, opAppend, srcCells, opBuildSlice, maxA, hb, hb1, hcl, hmx, hr5]
      refine ⟨l.length - X.to, by omega, X.to, X.ln, X.col, ts ++ [X.tok], _, rfl, g2, g3, g4, by simp; omega, by simp, by simp; rfl, by simp, by simp, by simp, by simp, ⟨_, _, by simp; exact ⟨rfl, rfl⟩⟩, ((hE3.newOf _).setOf hb2 _).newOf _, ⟨_, by simp; rfl, .inr ⟨_, rfl, ?_, ?_, ?_⟩⟩, ?_⟩
      · have := List.take_of_length_le (l := cs) (i := ts.length * 5) (by omega)
        simp [tokC, this]; rw [← hcs] at *
      · have := hE3.n; omega
      · simp
      · rw [hr]; simp
  · simp [hc0]
    rw [if_neg hc0] at hr
    by_cases hc4 : X.code = 4
    · simp [hc4]
      rw [if_pos hc4] at hr
      rw [hr]
      exact ⟨hE3, _, ⟨ad, by simp, by simpa using hO2⟩, rfl, ⟨rfl, rfl⟩, rfl⟩
    · simp [hc4]
      rw [if_neg hc4] at hr
      rw [hr]
      exact ⟨hE3, _, ⟨ad, by simp, by simpa using hO2⟩, rfl, ⟨rfl, rfl⟩, rfl⟩
end Go.Proofs.Ytf
