import Derived.Test.YtfcllalhfcmfdaaAmT6
set_option linter.unusedVariables false
set_option linter.unusedSimpArgs false
set_option linter.unusedSectionVars false
namespace Go.Proofs.Ytf
open Go Go.Am
set_option maxRecDepth 20000
set_option linter.unusedSimpArgs false
set_option maxHeartbeats 2000000
structure Tok where
  kind : Int
  n : Int
  line : Int
  col : Int
  text : List UInt8
def tokC (t : Tok) : List Value := [.int .i64 t.kind, .int .i64 t.n, .int .i64 t.line, .int .i64 t.col, .string (B t.text)]
def tokV (t : Tok) : Value := .agg ⟨tokC t⟩
def spotV (ln col : Int) : Value := .agg #[.int .i64 ln, .int .i64 col]
theorem here_ok (p bs ba : Nat) (ln col : Int) (a : Nat) (h : Heap) {w1 w2 : Bool} {e1 e2 : TypeId} (hs : h.f bs = .row w1 e1 [.int .i64 ln, .int .i64 col]) (ha : h.f ba = .row w2 e2 [.int .i64 a])
    (hp : p ≤ 1073741824) (hc : 0 ≤ col ∧ col ≤ 4294967296) (ha' : a ≤ 1073741824) :
    ACalls PP 19 [.int .i64 p, .pointer (some ⟨bs, 0, none⟩), .pointer (some ⟨ba, 0, none⟩)] h (fun v h' => h' = h ∧ v = spotV ln (col + p - a)) := by
  refine acalls_of_vc mix fn19 bodyEq19 rfl (by show 3 ≤ 14; decide) ok19 ?_
  simp only [body19, Try.f19]
  have e1 : IntKind.wrap .i64 (col + p) = col + p := i64wrap (by omega)
  have e2 : IntKind.wrap .i64 (col + p - a) = col + p - a := i64wrap (by omega)
  simp [hs, ha, e1, e2]
  rfl
structure NX where
  tok : Tok
  to : Nat
  ln : Int
  col : Int
  code : Int
def zTok : Tok := ⟨0, 0, 0, 0, []⟩
def nxV (x : NX) : Value := .tuple #[tokV x.tok, .int .i64 x.to, spotV x.ln x.col, .int .i64 x.code]
/-- the token at a place of a text -/
def endOk (l : List UInt8) (to : Nat) : Bool := match l[to]? with | some d => decide (kindV d.toNat ≠ 5) && decide (kindV d.toNat ≠ 6) | none => true
def nextV' (l : List UInt8) (a k : Nat) (ln col : Int) : NX :=
  match l[k]? with
  | none => ⟨zTok, k, ln, col + k - a, 4⟩
  | some c =>
    if kindV c.toNat = 3 then ⟨⟨3, 0, ln, col + k - a, []⟩, k + 1, ln + 1, 1, 0⟩
    else if kindV c.toNat = 4 then
      let to := k + runL 4 (l.drop k)
      if endOk l to = true then ⟨⟨1, 0, ln, col + k - a, (l.take to).drop k⟩, to, ln, col + to - a, 0⟩
      else ⟨zTok, a, ln, col + to - a, 2⟩
    else if kindV c.toNat = 6 ∨ kindV c.toNat = 5 then
      let u := numV l k
      if u.ok = true then ⟨⟨2, u.n, ln, col + k - a, (l.take u.to).drop k⟩, u.to, ln, col + u.to - a, 0⟩
      else ⟨zTok, a, ln, col + u.to - a, 2⟩
    else ⟨zTok, a, ln, col + k - a, 2⟩
def nextV (l : List UInt8) (a : Nat) (ln col : Int) : NX := nextV' l a (a + skipL false (l.drop a)) ln col
theorem skipL_le : ∀ (b : Bool) (l : List UInt8), skipL b l ≤ l.length := by
  intro b l
  induction l generalizing b with
  | nil => cases b <;> simp [skipL]
  | cons c r ih => cases b <;> simp only [skipL, List.length_cons] <;> (repeat' split) <;> first | omega | (have := ih true; have := ih false; omega)
theorem numV_le (l : List UInt8) (k : Nat) (hk : k ≤ l.length) : (numV l k).to ≤ l.length := by
  unfold numV numV'
  split
  · exact hk
  · rename_i h
    have := runL_le 5 (l.drop (k + numM l k))
    rw [List.length_drop] at this
    have : numT l k = runL 5 (l.drop (k + numM l k)) := rfl
    show k + numM l k + numT l k ≤ l.length
    omega
theorem numV_ge (l : List UInt8) (k : Nat) : k ≤ (numV l k).to := by
  unfold numV numV'
  split
  · exact Nat.le_refl _
  · show k ≤ k + numM l k + numT l k
    omega
theorem next_ok (l : List UInt8) (a : Nat) (ln col : Int) (hl : l.length ≤ 1073741824) (ha : a ≤ l.length) (hln : 0 ≤ ln ∧ ln ≤ 4294967296) (hcol : 0 ≤ col ∧ col ≤ 2147483648) (h : Heap) :
    ACalls PP 9 [.string (B l), .int .i64 a, spotV ln col] h (fun v h' => Ext h h' ∧ v = nxV (nextV l a ln col)) := by
  refine acalls_of_vc mix fn9 bodyEq9 rfl (by show 3 ≤ 115; decide) ok9 ?_
  simp only [body9, Try.f9]
  have c1 : ¬ (a : Int) < 0 := by omega
  have c2 : ¬ (l.length : Int) < (a : Int) := by omega
  simp [spotV, c1, c2]
  obtain ⟨G, hG⟩ : ∃ G, G = ((h.new (Blk.row true 3 [Value.int IntKind.i64 a])).new (Blk.row true 25 [Value.int IntKind.i64 ln, Value.int IntKind.i64 col])) := ⟨_, rfl⟩
  have gE : Ext h G := by rw [hG]; exact (Ext.new _ _).newOf _
  have gn : G.n = h.n + 2 := by rw [hG]; rfl
  have ga : G.f h.n = .row true 3 [.int .i64 a] := by rw [hG]; simp
  have gs : G.f (h.n + 1) = .row true 25 [.int .i64 ln, .int .i64 col] := by rw [hG]; simp
  rw [← hG]
  clear hG
  obtain ⟨k, hk⟩ : ∃ k, k = a + skipL false (l.drop a) := ⟨_, rfl⟩
  have hsk := skip_ok l a hl G
  rw [← hk] at hsk
  have hkl : k ≤ l.length := by have := skipL_le false (l.drop a); rw [List.length_drop] at this; omega
  have hX : nextV l a ln col = nextV' l a k ln col := by rw [nextV, ← hk]
  rw [hX]
  refine hsk.mono ?_
  rintro v h'' ⟨rfl, rfl⟩
  have hhere : ∀ (H : Heap) (p : Nat), H.f h.n = .row true 3 [.int .i64 a] → H.f (h.n + 1) = .row true 25 [.int .i64 ln, .int .i64 col] → p ≤ l.length →
      ACalls PP 19 [.int .i64 p, .pointer (some ⟨h.n + 1, 0, none⟩), .pointer (some ⟨h.n, 0, none⟩)] H (fun v h' => h' = H ∧ v = .agg #[.int .i64 ln, .int .i64 (col + p - a)]) :=
    fun H p h1 h2 hp => here_ok p (h.n + 1) h.n ln col a H h2 h1 (by omega) (by omega) (by omega)
  simp [callQ]
  intro _
  by_cases hend : k = l.length
  · subst hend
    have hnone : l[l.length]? = none := List.getElem?_eq_none (by omega)
    simp
    refine (hhere _ l.length ga gs (by omega)).mono ?_
    rintro v h'' ⟨rfl, rfl⟩
    simp [callQ]
    intro _
    simp [nextV', hnone, nxV, tokV, tokC, zTok, spotV]
    exact gE
  · have hend' : ¬ ((k : Int) = (l.length : Int)) := by omega
    have hlt : k < l.length := by omega
    have hc' : l[k]? = some l[k] := List.getElem?_eq_getElem hlt
    simp [hend', gs]
    refine (hhere _ k ga gs (by omega)).mono ?_
    rintro v h'' ⟨rfl, rfl⟩
    simp [callP, ga]
    intro _
    simp [gs, hc']
    refine (kind_ok _ _).mono ?_
    rintro v H ⟨rfl, rfl⟩
    obtain ⟨kk, hkk⟩ : ∃ kk, kk = kindV l[k].toNat := ⟨_, rfl⟩
    rw [← hkk]
    have w1 : IntKind.wrap .i64 (ln + 1) = ln + 1 := i64wrap (by omega)
    have w2 : IntKind.wrap .i64 ((k : Int) + 1) = (k : Int) + 1 := i64wrap (by omega)
    simp [callQ]
    intro _
    by_cases h3 : kk = 3
    · simp [h3, gs, w1, w2]
      simp [nextV', endOk, hc', ← hkk, h3, nxV, tokV, tokC, zTok, spotV]
      exact gE
    · have h3' : ¬ ((kk : Int) = 3) := by omega
      simp [h3']
      by_cases h4 : kk = 4
      · simp [h4]
        obtain ⟨to, hto⟩ : ∃ to, to = k + runL 4 (l.drop k) := ⟨_, rfl⟩
        have hru := run_ok l k 4 hl H
        rw [← hto] at hru
        have htl : to ≤ l.length := by have := runL_le 4 (l.drop k); rw [List.length_drop] at this; omega
        refine hru.mono ?_
        rintro v H ⟨rfl, rfl⟩
        simp [callQ]
        intro _
        have hkto : k ≤ to := by omega
        by_cases he : to = l.length
        · subst he
          have hnone : l[l.length]? = none := List.getElem?_eq_none (by omega)
          simp
          simp [hkl]
          refine (hhere _ l.length ga gs (Nat.le_refl _)).mono ?_
          rintro v H2 ⟨rfl, rfl⟩
          simp [callP, ga]
          intro _
          simp [nextV', endOk, hc', ← hkk, h4, ← hto, hnone, nxV, tokV, tokC, zTok, spotV]
          exact gE
        · have he' : ¬ ((to : Int) = (l.length : Int)) := by omega
          have hlt2 : to < l.length := by omega
          have hc2 : l[to]? = some l[to] := List.getElem?_eq_getElem hlt2
          simp [he', hc2]
          refine (kind_ok _ _).mono ?_
          rintro v H ⟨rfl, rfl⟩
          simp [callQ]
          intro _
          by_cases g5 : kindV l[to].toNat = 5
          · simp [g5]
            simp [ga]
            refine (hhere _ to ga gs htl).mono ?_
            rintro v H2 ⟨rfl, rfl⟩
            simp [callP, ga]
            intro _
            simp [nextV', endOk, hc', ← hkk, h4, ← hto, hc2, g5, nxV, tokV, tokC, zTok, spotV]
            exact gE
          · have g5' : ¬ ((kindV l[to].toNat : Nat) : Int) = 5 := by omega
            simp [g5', hc2]
            refine (kind_ok _ _).mono ?_
            rintro v H ⟨rfl, rfl⟩
            simp [callQ]
            intro _
            by_cases g6 : kindV l[to].toNat = 6
            · simp [g6]
              simp [ga]
              refine (hhere _ to ga gs htl).mono ?_
              rintro v H2 ⟨rfl, rfl⟩
              simp [callP, ga]
              intro _
              simp [nextV', endOk, hc', ← hkk, h4, ← hto, hc2, g5, g6, nxV, tokV, tokC, zTok, spotV]
              exact gE
            · have g6' : ¬ ((kindV l[to].toNat : Nat) : Int) = 6 := by omega
              simp [g6']
              simp [hkto, htl]
              refine (hhere _ to ga gs htl).mono ?_
              rintro v H2 ⟨rfl, rfl⟩
              simp [callP, ga]
              intro _
              simp [nextV', endOk, hc', ← hkk, h4, ← hto, hc2, g5, g6, nxV, tokV, tokC, zTok, spotV]
              exact gE
      · have h4' : ¬ ((kk : Int) = 4) := by omega
        simp [h4']
        by_cases h56 : kk = 6 ∨ kk = 5
        · have hnum := number_ok l k hlt hl H
          obtain ⟨to, hto⟩ : ∃ to, to = (numV l k).to := ⟨_, rfl⟩
          obtain ⟨nn, hnn⟩ : ∃ nn, nn = (numV l k).n := ⟨_, rfl⟩
          obtain ⟨gd, hgd⟩ : ∃ gd, gd = (numV l k).ok := ⟨_, rfl⟩
          rw [← hto, ← hnn, ← hgd] at hnum
          have htl : to ≤ l.length := by rw [hto]; exact numV_le l k hkl
          have hkto : k ≤ to := by rw [hto]; exact numV_ge l k
          have hgo : ∀ v H2, (Ext H H2 ∧ v = Value.tuple #[.int .i64 nn, .int .i64 to, .bool gd]) → Ext h H2 ∧ H2.f h.n = .row true 3 [.int .i64 a] ∧ H2.f (h.n + 1) = .row true 25 [.int .i64 ln, .int .i64 col] := fun v H2 z => ⟨gE.trans z.1, by rw [z.1.f _ (by omega), ga], by rw [z.1.f _ (by omega), gs]⟩
          rcases h56 with h6 | h5
          · simp [h6]
            refine hnum.mono ?_
            rintro v H2 hh
            obtain ⟨gE, ga, gs⟩ := hgo v H2 hh
            obtain ⟨_, rfl⟩ := hh
            simp [callQ]
            intro _
            cases gd with
            | true =>
              simp
              simp [hkto, htl]
              refine (hhere _ to ga gs htl).mono ?_
              rintro v H2 ⟨rfl, rfl⟩
              simp [callP, ga]
              intro _
              simp [nextV', endOk, hc', ← hkk, h6, ← hto, ← hnn, ← hgd, nxV, tokV, tokC, zTok, spotV]
              exact gE
            | false =>
              simp
              simp [ga]
              refine (hhere _ to ga gs htl).mono ?_
              rintro v H2 ⟨rfl, rfl⟩
              simp [callP, ga]
              intro _
              simp [nextV', endOk, hc', ← hkk, h6, ← hto, ← hnn, ← hgd, nxV, tokV, tokC, zTok, spotV]
              exact gE
          · simp [h5]
            refine hnum.mono ?_
            rintro v H2 hh
            obtain ⟨gE, ga, gs⟩ := hgo v H2 hh
            obtain ⟨_, rfl⟩ := hh
            simp [callQ]
            intro _
            cases gd with
            | true =>
              simp
              simp [hkto, htl]
              refine (hhere _ to ga gs htl).mono ?_
              rintro v H2 ⟨rfl, rfl⟩
              simp [callP, ga]
              intro _
              simp [nextV', endOk, hc', ← hkk, h5, ← hto, ← hnn, ← hgd, nxV, tokV, tokC, zTok, spotV]
              exact gE
            | false =>
              simp
              simp [ga]
              refine (hhere _ to ga gs htl).mono ?_
              rintro v H2 ⟨rfl, rfl⟩
              simp [callP, ga]
              intro _
              simp [nextV', endOk, hc', ← hkk, h5, ← hto, ← hnn, ← hgd, nxV, tokV, tokC, zTok, spotV]
              exact gE
        · have h6 : ¬ ((kk : Int) = 6) := by omega
          have h5 : ¬ ((kk : Int) = 5) := by omega
          simp [h6, h5]
          simp [ga]
          refine (hhere _ k ga gs hkl).mono ?_
          rintro v H2 ⟨rfl, rfl⟩
          simp [callP, ga]
          intro _
          simp [nextV', endOk, hc', ← hkk, h3, h4, (show ¬ kk = 6 by omega), (show ¬ kk = 5 by omega), nxV, tokV, tokC, zTok, spotV]
          exact gE
end Go.Proofs.Ytf
