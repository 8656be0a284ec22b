import Derived.Test.YtfcllalhfcmfdaaAmT8
set_option linter.unusedVariables false
set_option linter.unusedSimpArgs false
set_option linter.unusedSectionVars false
namespace Go.Proofs.Ytf
open Go Go.Am
set_option maxRecDepth 20000
set_option linter.unusedSimpArgs false
set_option maxHeartbeats 2000000
/-- tokens in the heap, as a slice of whoever's -/
def TokS (h : Heap) (v : Value) (ts : List Tok) : Prop := ∃ ad c, v = .slice ad ts.length c ∧ ((ad = none ∧ ts = [] ∧ c = 0) ∨ ∃ b off w cells rest, ad = some ⟨b, off, none⟩ ∧ h.f b = .row w 27 cells ∧ cells.drop off = ts.flatMap tokC ++ rest ∧ off ≤ cells.length ∧ b < h.n)
theorem OwnS.tokS {h0 h : Heap} {v : Value} {ts : List Tok} (H : OwnS h0 h v ts) : TokS h v ts := by
  obtain ⟨ad, rfl, z⟩ := H
  refine ⟨ad, _, rfl, ?_⟩
  rcases z with ⟨z1, z2⟩ | ⟨b, z1, z2, z3, z4⟩
  · exact .inl ⟨z1, z2, by rw [z2]; rfl⟩
  · exact .inr ⟨b, 0, true, _, [], z1, z2, by simp, by simp, z4⟩
theorem TokS.ext {h h' : Heap} {v : Value} {ts : List Tok} (H : TokS h v ts) (e : Ext h h') : TokS h' v ts := by
  obtain ⟨ad, c, q, z⟩ := H
  refine ⟨ad, c, q, ?_⟩
  rcases z with z | ⟨b, off, w, cells, rest, z1, z2, z3, z4, z5⟩
  · exact .inl z
  · exact .inr ⟨b, off, w, cells, rest, z1, by rw [e.f b z5, z2], z3, z4, Nat.lt_of_lt_of_le z5 e.n⟩
theorem flat_drop (ts : List Tok) (i : Nat) : (ts.flatMap tokC).drop (i * 5) = (ts.drop i).flatMap tokC := by
  induction ts generalizing i with
  | nil => simp
  | cons t r ih => cases i with
    | zero => simp
    | succ i =>
      rw [List.drop_succ_cons, ← ih i, List.flatMap_cons, List.drop_append]
      rw [List.drop_eq_nil_of_le (by simp [tokC]; omega)]
      simp [tokC]
      congr 1
      omega
/-- one token of a slice -/
theorem TokS.at {h : Heap} {ad : Option Addr} {n c : Nat} {ts : List Tok} (H : TokS h (.slice ad n c) ts) {i : Nat} {t : Tok} (hi : ts[i]? = some t) :
    n = ts.length ∧ ∃ b off w cells rest, ad = some ⟨b, off, none⟩ ∧ h.f b = .row w 27 cells ∧ cells.drop (off + i * 5) = tokC t ++ rest ∧ off + i * 5 + 5 ≤ cells.length ∧ b < h.n := by
  obtain ⟨ad', c', q, z⟩ := H
  simp only [Value.slice.injEq] at q
  obtain ⟨rfl, rfl, rfl⟩ := q
  have hlt : i < ts.length := by rw [List.getElem?_eq_some_iff] at hi; exact hi.1
  refine ⟨rfl, ?_⟩
  rcases z with ⟨_, rfl, _⟩ | ⟨b, off, w, cells, rest, z1, z2, z3, z4, z5⟩
  · simp at hlt
  · have hd : ts.drop i = t :: ts.drop (i + 1) := by
      rw [List.getElem?_eq_some_iff] at hi
      obtain ⟨h1, h2⟩ := hi
      rw [List.drop_eq_getElem_cons h1, h2]
    have e : cells.drop (off + i * 5) = tokC t ++ ((ts.drop (i + 1)).flatMap tokC ++ rest) := by
      rw [← List.drop_drop, z3, List.drop_append, flat_drop, hd, List.flatMap_cons, tokC_len, List.append_assoc]
      rw [show i * 5 - ts.length * 5 = 0 by omega]; rfl
    refine ⟨b, off, w, cells, _, z1, z2, e, ?_, z5⟩
    have := congrArg List.length e
    simp [tokC] at this
    omega
theorem TokS.sub {h : Heap} {ad : Addr} {ts : List Tok} {c i k c' : Nat} (H : TokS h (.slice (some ad) ts.length c) ts) (h1 : i ≤ k) (h2 : k ≤ ts.length) : TokS h (.slice (some ⟨ad.block, ad.off + i * 5, ad.spot⟩) (k - i) c') ((ts.take k).drop i) := by
  obtain ⟨ad', c', q, z⟩ := H
  simp only [Value.slice.injEq] at q
  obtain ⟨rfl, _, rfl⟩ := q
  rcases z with ⟨z1, _⟩ | ⟨b, off, w, cells, rest, z1, z2, z3, z4, z5⟩
  · simp at z1
  · simp only [Option.some.injEq] at z1
    subst z1
    have hcl : cells.length = off + (ts.length * 5 + rest.length) := by
      have := congrArg List.length z3
      rw [List.length_drop, List.length_append, tokC_len] at this; omega
    have e2 : (ts.drop i).flatMap tokC = ((ts.take k).drop i).flatMap tokC ++ (ts.drop k).flatMap tokC := by
      rw [← List.flatMap_append, List.drop_take]
      congr 1
      rw [show ts.drop k = (ts.drop i).drop (k - i) by rw [List.drop_drop]; congr 1; omega, List.take_append_drop]
    refine ⟨_, c', by rw [List.length_drop, List.length_take]; congr 1; omega, .inr ⟨b, off + i * 5, w, cells, (ts.drop k).flatMap tokC ++ rest, rfl, z2, ?_, ?_, z5⟩⟩
    · rw [← List.drop_drop, z3, List.drop_append, flat_drop, tokC_len, show i * 5 - ts.length * 5 = 0 by omega, e2, List.append_assoc]; rfl
    · omega
def lineN (ts : List Tok) : Nat := (ts.takeWhile (fun t => decide (t.kind ≠ 3))).length
def J14 (s : Value) (ts : List Tok) (a : Nat) (h : Heap) (n : Nat) (σ : St) : Prop := ∃ k : Nat, n = ts.length - k ∧ a ≤ k ∧ k ≤ ts.length ∧ σ.t.get 0 = some s ∧ σ.t.get 1 = some (.int .i64 a) ∧ σ.t.get 6 = some (.int .i64 k) ∧ σ.m.h = h ∧ k + lineN (ts.drop k) = a + lineN (ts.drop a)
def LineR (h : Heap) (ts : List Tok) (a : Nat) (v : Value) : Prop := ∃ s', TokS h s' ((ts.take (a + lineN (ts.drop a))).drop a) ∧ v = .tuple #[s', .int .i64 ((if a + lineN (ts.drop a) < ts.length then a + lineN (ts.drop a) + 1 else ts.length : Nat) : Int)]
theorem line_ok (s : Value) (ts : List Tok) (a : Nat) (ha : a < ts.length) (hl : ts.length ≤ 1073741824) (h : Heap) (hs : TokS h s ts) :
    ACalls PP 14 [s, .int .i64 a] h (fun v h' => h' = h ∧ LineR h ts a v) := by
  refine acalls_of_vc mix fn14 bodyEq14 rfl (by show 2 ≤ 40; decide) ok14 ?_
  simp only [body14, Try.f14]
  obtain ⟨s0, hs1⟩ : ∃ s0, s0 = s := ⟨_, rfl⟩
  have hs0 := hs
  obtain ⟨ad, c, hse, hz⟩ := hs
  obtain ⟨ad, rfl⟩ : ∃ x, ad = some x := by
    rcases hz with ⟨_, rfl, _⟩ | ⟨b, off, _, _, _, e, _⟩
    · simp at ha
    · exact ⟨_, e⟩
  have hsz : ∃ w cells, h.f ad.block = .row w 27 cells ∧ ad.spot = none := by
    rcases hz with ⟨e, _⟩ | ⟨b, off, w, cells, rest, e, e2, _⟩
    · simp at e
    · simp only [Option.some.injEq] at e; subst e; exact ⟨w, cells, e2, rfl⟩
  obtain ⟨w0, cells0, hrow, hspot⟩ := hsz
  obtain ⟨blk, off0, sp⟩ := ad
  simp only at hspot hrow
  subst hspot
  subst hse
  have c1 : ¬ (a : Int) < 0 := by omega
  have c2 : ¬ (ts.length : Int) < (a : Int) := by omega
  simp [c1, c2]
  refine vc_loop (J14 (.slice (some ⟨blk, off0, none⟩) ts.length c) ts a h) _ ⟨a, rfl, by omega, by omega, by simp, by simp, by simp, rfl, rfl⟩ ?_
  rintro n ⟨T, ⟨x, H⟩⟩ ⟨k, rfl, hak, hk, g0, g1, g6, rfl, hr⟩
  simp at g0 g1 g6 hrow hs0
  simp [g0, g1, g6]
  refine condQ_of (fun hc => ?_) (fun hc => ?_) <;> simp only [decide_eq_true_eq, decide_eq_false_iff_not] at hc
  · have hkl : k < ts.length := by omega
    have ht : ts[k]? = some ts[k] := List.getElem?_eq_getElem hkl
    obtain ⟨_, b, off, w, cells, rest, e1, e2, e3, e4, e5⟩ := hs0.at ht
    simp only [Option.some.injEq, Addr.mk.injEq, and_true] at e1
    obtain ⟨rfl, rfl⟩ := e1
    have hle : off0 + k * 5 + 1 ≤ cells.length := by omega
    have hdk : ts.drop k = ts[k] :: ts.drop (k + 1) := List.drop_eq_getElem_cons hkl
    simp [g0, g1, g6, hkl, e2, e3, hle, tokC]
    refine condQ_of (fun hq => ?_) (fun hq => ?_) <;> simp only [decide_eq_true_eq, decide_eq_false_iff_not] at hq
    · have hw : IntKind.wrap .i64 ((k : Int) + 1) = ((k + 1 : Nat) : Int) := by rw [i64wrap (by omega)]; omega
      have hn0 : lineN (ts.drop k) = 0 := by rw [hdk, lineN, List.takeWhile_cons]; simp [hq]
      have hr2 : a + lineN (ts.drop a) = k := by omega
      simp [g0, g1, g6, hw, e2, hak, hk]
      refine ⟨_, ?_, by rw [hr2, if_pos hkl]; simp; rfl⟩
      rw [hr2]; exact hs0.sub hak hk
    · have hw : IntKind.wrap .i64 ((k : Int) + 1) = ((k + 1 : Nat) : Int) := by rw [i64wrap (by omega)]; omega
      have hn0 : lineN (ts.drop k) = lineN (ts.drop (k + 1)) + 1 := by rw [hdk, lineN, List.takeWhile_cons]; simp [hq, lineN]
      simp [g0, g1, g6, hw]
      exact ⟨ts.length - (k + 1), by omega, k + 1, rfl, by omega, by omega, by simp [g0], by simp [g1], by simp, rfl, by omega⟩
  · have hke : k = ts.length := by omega
    have hn0 : lineN (ts.drop k) = 0 := by rw [List.drop_eq_nil_of_le (by omega)]; rfl
    have hr2 : a + lineN (ts.drop a) = ts.length := by omega
    have hal : a ≤ ts.length := by omega
    simp [g0, g1, g6, hrow, hal]
    refine ⟨_, ?_, by rw [hr2, if_neg (by omega)]⟩
    rw [hr2]; exact hs0.sub hal (Nat.le_refl _)
end Go.Proofs.Ytf
