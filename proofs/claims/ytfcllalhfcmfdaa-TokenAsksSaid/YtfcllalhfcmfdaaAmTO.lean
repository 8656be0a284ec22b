import Derived.Test.YtfcllalhfcmfdaaAmTN
import Derived.Test.YtfcllalhfcmfdaaAmTD
set_option linter.unusedVariables false
set_option linter.unusedSimpArgs false
set_option linter.unusedSectionVars false
namespace Go.Proofs.Ytf
open Go Go.Am
set_option maxRecDepth 20000
set_option linter.unusedSimpArgs false
set_option maxHeartbeats 2000000
attribute [local simp] idB
attribute [local simp ↓ high] vc_id
theorem rnext_bad (l : List UInt8) (a : Int) (ln col : Int) (ha : a < 0 ∨ (l.length : Int) < a) (h : Heap) :
    ACalls PP 10 [.string (B l), .int .i64 a, spotV ln col] h (fun v h' => Ext h h' ∧ v = .tuple #[tokV zTok, .int .i64 a, spotV ln col, .int .i64 1]) := by
  refine acalls_of_vc mix fn10 bodyEq10 rfl (by show 3 ≤ 165; decide) ok10 ?_
  simp only [body10, Try.f10]
  by_cases c1 : a < 0
  · simp [spotV, c1, tokV, tokC, zTok]
    exact Ext.rfl' _
  · have c2 : (l.length : Int) < a := by omega
    simp [spotV, c1, c2, tokV, tokC, zTok]
    exact Ext.rfl' _
def J12 (l : List UInt8) (z3 : List Value) (h : Heap) (n : Nat) (σ : St) : Prop := ∃ (a : Nat) (ln col : Int) (ts : List Tok) (s : Value), n = l.length - a ∧ a ≤ l.length ∧ (1 ≤ ln ∧ ln ≤ 1 + a) ∧ (1 ≤ col ∧ col ≤ 1 + a) ∧ ts.length ≤ a ∧
  σ.t.get 0 = some (.string (B l)) ∧ σ.t.get 5 = some s ∧ σ.t.get 7 = some (.int .i64 a) ∧ σ.t.get 6 = some (.pointer (some ⟨6, 0, some 0⟩)) ∧ σ.t.get 3 = some (.pointer (some ⟨3, 0, some 0⟩)) ∧
  σ.m.x.look 6 = some (25, [.int .i64 ln, .int .i64 col]) ∧ σ.m.x.look 3 = some (25, z3) ∧ Ext h σ.m.h ∧ OwnS h σ.m.h s ts ∧
  allV l = ⟨ts ++ (allL l (l.length - a + 1) a ln col).ts, (allL l (l.length - a + 1) a ln col).ln, (allL l (l.length - a + 1) a ln col).col, (allL l (l.length - a + 1) a ln col).code⟩
theorem rall_ok (l : List UInt8) (hl : l.length ≤ 1048576) (h : Heap) : ACalls PP 12 [.string (B l)] h (fun v h' => Ext h h' ∧ ∃ s, OwnS h h' s (allV l).ts ∧ v = .tuple #[s, spotV (allV l).ln (allV l).col, .int .i64 (allV l).code]) := by
  refine acalls_of_vc mix fn12 bodyEq12 rfl (by show 1 ≤ 41; decide) ok12 ?_
  simp only [body12, Try.f12]
  have c1 : ¬ (1048576 : Int) < (l.length : Int) := by omega
  simp [c1]
  refine vc_loop (J12 l _ h) _ ⟨0, 1, 1, [], .slice none 0 0, rfl, by omega, by omega, by omega, by simp, by simp, by simp, by simp, by simp, by simp, by simp, by simp; rfl, Ext.rfl' _, ⟨none, rfl, .inl ⟨rfl, rfl⟩⟩, rfl⟩ ?_
  rintro n ⟨T, ⟨x, H⟩⟩ ⟨a, ln, col, ts, s, rfl, ha, hln, hcol, hts, h0, h5, h7, h6, h3, hx6, hx3, hE, hO, hr⟩
  simp at h0 h5 h6 h7 h3 hx6 hx3 hE hO
  simp [h0, h5, h6, h7, h3, hx6, hx3]
  refine (rnext_ok l a ln col (by omega) ha (by omega) (by omega) H).mono ?_
  rintro v H2 ⟨hE2, rfl⟩
  have hgo := nextV_go (l := l) ha hln hcol
  have hcd := nextV_code l a ln col
  rw [show l.length - a + 1 = (l.length - a) + 1 by rfl, allL] at hr
  obtain ⟨X, hX⟩ : ∃ X, X = nextV l a ln col := ⟨_, rfl⟩
  rw [← hX] at hgo hr hcd ⊢
  simp [callQ, nxV, tokV, tokC, spotV]
  intro _
  obtain ⟨ad, rfl, hO2⟩ := hO.ext hE2
  have hE3 : Ext h H2 := hE.trans hE2
  simp [h0, h5, h6, h7, h3, hx6, hx3]
  by_cases hc0 : X.code = 0
  · rw [if_pos hc0] at hr
    obtain ⟨g1, g2, g3, g4⟩ := hgo hc0
    have hr5 : List.range 5 = [0, 1, 2, 3, 4] := rfl
    dsimp only at hr
    rw [allL_fuel l (l.length - a) (l.length - X.to + 1) X.to X.ln X.col (by omega) (by omega) g2 g3 g4] at hr
    rcases hO2 with ⟨rfl, rfl⟩ | ⟨b, rfl, hb1, hb2, hb3⟩
    · simp [hc0, opAppend, srcCells, opBuildSlice, maxA, hr5, h0, h5, h6, h7, h3, hx6, hx3]
      refine ⟨l.length - X.to, by omega, X.to, X.ln, X.col, [X.tok], _, rfl, g2, g3, g4, by simp; omega, by simp, by simp; rfl, by simp, by simp, by simp, by simp, by simp, (hE3.newOf _).newOf _, ⟨_, rfl, .inr ⟨_, rfl, ?_, ?_, ?_⟩⟩, ?_⟩
      · simp [tokC]
      · have := hE3.n; omega
      · simp
      · rw [hr]; simp
    · have hb : ¬ b = H2.n := by omega
      have hmx : (ts.length + 1) * 48 ≤ 140737488355328 := by omega
      obtain ⟨cs, hcs⟩ : ∃ cs, cs = ts.flatMap tokC := ⟨_, rfl⟩
      have hcl : cs.length = ts.length * 5 := by rw [hcs, tokC_len]
      rw [← hcs] at hb1
      simp [hc0, opAppend, srcCells, opBuildSlice, maxA, hb, hb1, hcl, hmx, hr5, h0, h5, h6, h7, h3, hx6, hx3]
      refine ⟨l.length - X.to, by omega, X.to, X.ln, X.col, ts ++ [X.tok], _, rfl, g2, g3, g4, by simp; omega, by simp, by simp; rfl, by simp, by simp, by simp, by simp, by simp, ((hE3.newOf _).setOf hb2 _).newOf _, ⟨_, by simp; rfl, .inr ⟨_, rfl, ?_, ?_, ?_⟩⟩, ?_⟩
      · have := List.take_of_length_le (l := cs) (i := ts.length * 5) (by omega)
        simp [tokC, this]; rw [← hcs] at *
      · have := hE3.n; omega
      · simp
      · rw [hr]; simp
  · rw [if_neg hc0] at hr
    by_cases hc4 : X.code = 4
    · simp [hc4, h0, h5, h6, h7, h3, hx6, hx3]
      rw [if_pos hc4] at hr
      rw [hr]
      exact ⟨hE3, _, ⟨ad, by simp, by simpa using hO2⟩, rfl, ⟨rfl, rfl⟩, rfl⟩
    · simp [hc4, hc0, h0, h5, h6, h7, h3, hx6, hx3]
      rw [if_neg hc4] at hr
      rw [hr]
      exact ⟨hE3, _, ⟨ad, by simp, by simpa using hO2⟩, rfl, ⟨rfl, rfl⟩, rfl⟩
/-! lines at any place -/
theorem TokS.nil (h : Heap) : TokS h (.slice none 0 0) [] := ⟨none, 0, rfl, .inl ⟨rfl, rfl, rfl⟩⟩
def lineL (ts : List Tok) (a : Int) : List Tok := if 0 ≤ a ∧ a < ts.length then (ts.take (a.toNat + lineN (ts.drop a.toNat))).drop a.toNat else []
def lineTo (ts : List Tok) (a : Int) : Int := if 0 ≤ a ∧ a < ts.length then ((if a.toNat + lineN (ts.drop a.toNat) < ts.length then a.toNat + lineN (ts.drop a.toNat) + 1 else ts.length : Nat) : Int) else a
def LineA (h : Heap) (ts : List Tok) (a : Int) (v : Value) : Prop := ∃ s', TokS h s' (lineL ts a) ∧ v = .tuple #[s', .int .i64 (lineTo ts a)]
def J14e (v : Value) (m : Nat) (h : Heap) (n : Nat) (σ : St) : Prop := n = 0 ∧ σ.m.h = h ∧ σ.t.get 0 = some v ∧ σ.t.get 1 = some (.int .i64 m) ∧ σ.t.get 6 = some (.int .i64 m)
theorem line_any (s : Value) (ts : List Tok) (a : Int) (hl : ts.length ≤ 1073741824) (h : Heap) (hs : TokS h s ts) :
    ACalls PP 14 [s, .int .i64 a] h (fun v h' => h' = h ∧ LineA h ts a v) := by
  by_cases hin : 0 ≤ a ∧ a < ts.length
  · obtain ⟨n, rfl⟩ : ∃ n : Nat, a = n := ⟨a.toNat, by omega⟩
    refine (line_ok s ts n (by omega) hl h hs).mono ?_
    rintro v h' ⟨rfl, s', h1, rfl⟩
    refine ⟨rfl, s', ?_, ?_⟩
    · rw [lineL, if_pos hin]; simpa using h1
    · rw [lineTo, if_pos hin]; simp
  · refine acalls_of_vc mix fn14 bodyEq14 rfl (by show 2 ≤ 40; decide) ok14 ?_
    simp only [body14, Try.f14]
    have e1 : lineL ts a = [] := by rw [lineL, if_neg hin]
    have e2 : lineTo ts a = a := by rw [lineTo, if_neg hin]
    obtain ⟨ad, c, rfl, hz⟩ := hs
    by_cases c1 : a < 0
    · simp [c1]
      exact ⟨_, by rw [e1]; exact TokS.nil h, by rw [e2]⟩
    · by_cases c2 : (ts.length : Int) < a
      · simp [c1, c2]
        exact ⟨_, by rw [e1]; exact TokS.nil h, by rw [e2]⟩
      · have ha : a = (ts.length : Int) := by omega
        subst ha
        have c3 : ¬ (ts.length : Int) < 0 := by omega
        simp [c3]
        refine vc_loop (J14e (.slice ad ts.length c) ts.length h) _ ⟨rfl, rfl, by simp, by simp, by simp⟩ ?_
        rintro n ⟨T, ⟨x, H⟩⟩ ⟨rfl, hH, g0, g1, g6⟩
        simp at hH g0 g1 g6
        subst hH
        simp [g0, g1, g6]
        rcases hz with ⟨rfl, rfl, rfl⟩ | ⟨b, off, w, cells, rest, rfl, z2, z3, z4, z5⟩
        · simp
          exact ⟨_, TokS.nil H, by simp [lineTo]⟩
        · simp [z2]
          refine ⟨_, ?_, by rw [e2]⟩
          rw [e1]
          refine ⟨some ⟨b, off + ts.length * 5, none⟩, _, rfl, .inr ⟨b, off + ts.length * 5, w, cells, cells.drop (off + ts.length * 5), rfl, z2, by simp, ?_, z5⟩⟩
          have := congrArg List.length z3
          rw [List.length_drop, List.length_append, tokC_len] at this; omega
def J15 (s : Value) (ts : List Tok) (a : Nat) (h : Heap) (n : Nat) (σ : St) : Prop := ∃ k : Nat, n = ts.length - k ∧ a ≤ k ∧ k ≤ ts.length ∧ σ.t.get 0 = some s ∧ σ.t.get 1 = some (.int .i64 a) ∧ σ.t.get 6 = some (.int .i64 k) ∧ σ.m.h = h ∧ k + lineN (ts.drop k) = a + lineN (ts.drop a)
theorem rline_any (s : Value) (ts : List Tok) (a : Int) (hl : ts.length ≤ 1073741824) (h : Heap) (hs : TokS h s ts) :
    ACalls PP 15 [s, .int .i64 a] h (fun v h' => h' = h ∧ LineA h ts a v) := by
  refine acalls_of_vc mix fn15 bodyEq15 rfl (by show 2 ≤ 40; decide) ok15 ?_
  simp only [body15, Try.f15]
  have hs0 := hs
  obtain ⟨ad, c, rfl, hz⟩ := hs
  by_cases hin : 0 ≤ a ∧ a < ts.length
  · obtain ⟨n, rfl⟩ : ∃ n : Nat, a = n := ⟨a.toNat, by omega⟩
    have hnl : n < ts.length := by omega
    have c1 : ¬ (n : Int) < 0 := by omega
    have c2 : ¬ (ts.length : Int) ≤ n := by omega
    obtain ⟨blk, off0, w0, cells0, rest0, rfl, hrow, hz3, hz4, hz5⟩ : ∃ b off w cells rest, ad = some (⟨b, off, none⟩ : Addr) ∧ h.f b = .row w 27 cells ∧ cells.drop off = ts.flatMap tokC ++ rest ∧ off ≤ cells.length ∧ b < h.n := by
      rcases hz with ⟨_, rfl, _⟩ | z
      · simp at hnl
      · exact z
    have eL : lineL ts n = (ts.take (n + lineN (ts.drop n))).drop n := by rw [lineL, if_pos hin]; simp
    have eT : lineTo ts n = ((if n + lineN (ts.drop n) < ts.length then n + lineN (ts.drop n) + 1 else ts.length : Nat) : Int) := by rw [lineTo, if_pos hin]; simp
    simp [c1, c2, hnl, show ¬ ts.length ≤ n by omega]
    refine vc_loop (J15 (.slice (some ⟨blk, off0, none⟩) ts.length c) ts n h) _ ⟨n, rfl, by omega, by omega, by simp, by simp, by simp, rfl, rfl⟩ ?_
    rintro _ ⟨T, ⟨x, H⟩⟩ ⟨k, rfl, hak, hk, g0, g1, g6, hH, hr⟩
    simp at g0 g1 g6 hH
    subst hH
    simp [g0, g1, g6]
    have fin : ∀ e, e = n + lineN (ts.drop n) → n ≤ e → e ≤ ts.length → LineA H ts n (.tuple #[.slice (some ⟨blk, off0 + n * 5, none⟩) (e - n) (e - n), .int .i64 ((if e < ts.length then e + 1 else ts.length : Nat) : Int)]) := by
      intro e he h1 h2
      refine ⟨_, ?_, by rw [eT, ← he]⟩
      rw [eL, ← he]
      exact hs0.sub h1 h2
    by_cases hkl : k < ts.length
    · have ht : ts[k]? = some ts[k] := List.getElem?_eq_getElem hkl
      obtain ⟨_, b, off, w, cells, rest, e1, e2, e3, e4, e5⟩ := hs0.at ht
      simp only [Option.some.injEq, Addr.mk.injEq, and_true] at e1
      obtain ⟨rfl, rfl⟩ := e1
      have hle : off0 + k * 5 + 1 ≤ cells.length := by omega
      have hdk : ts.drop k = ts[k] :: ts.drop (k + 1) := List.drop_eq_getElem_cons hkl
      by_cases hq : ts[k].kind = 3
      · have hn0 : lineN (ts.drop k) = 0 := by rw [hdk, lineN, List.takeWhile_cons]; simp [hq]
        have w1 : IntKind.wrap .i64 ((k : Int) + 1) = (k : Int) + 1 := by rw [i64wrap (by omega)]
        simp [g0, g1, g6, hkl, e2, e3, hle, tokC, hq, hak, hk, w1]
        have e : (if (ts.length : Int) < (k : Int) + 1 then (ts.length : Int) else (k : Int) + 1) = ((if k < ts.length then k + 1 else ts.length : Nat) : Int) := by (repeat' split) <;> omega
        rw [e]
        exact fin k (by omega) hak hk
      · have hw : IntKind.wrap .i64 ((k : Int) + 1) = ((k + 1 : Nat) : Int) := by rw [i64wrap (by omega)]; omega
        have hn1 : lineN (ts.drop k) = lineN (ts.drop (k + 1)) + 1 := by rw [hdk, lineN, List.takeWhile_cons]; simp [hq, lineN]
        simp [g0, g1, g6, hkl, e2, e3, hle, tokC, hq, hw]
        exact ⟨ts.length - (k + 1), by omega, k + 1, rfl, by omega, by omega, by simp [g0], by simp [g1], by simp, rfl, by omega⟩
    · have hn0 : lineN (ts.drop k) = 0 := by rw [List.drop_eq_nil_of_le (by omega)]; rfl
      have w1 : IntKind.wrap .i64 ((k : Int) + 1) = (k : Int) + 1 := by rw [i64wrap (by omega)]
      simp [g0, g1, g6, hkl, hrow, hak, hk, w1]
      have e : (if (ts.length : Int) < (k : Int) + 1 then (ts.length : Int) else (k : Int) + 1) = ((if k < ts.length then k + 1 else ts.length : Nat) : Int) := by (repeat' split) <;> omega
      rw [e]
      exact fin k (by omega) hak hk
  · have e1 : lineL ts a = [] := by rw [lineL, if_neg hin]
    have e2 : lineTo ts a = a := by rw [lineTo, if_neg hin]
    by_cases c1 : a < 0
    · simp [c1]
      exact ⟨_, by rw [e1]; exact TokS.nil h, by rw [e2]⟩
    · have c2 : (ts.length : Int) ≤ a := by omega
      simp [c1, c2]
      exact ⟨_, by rw [e1]; exact TokS.nil h, by rw [e2]⟩
end Go.Proofs.Ytf
