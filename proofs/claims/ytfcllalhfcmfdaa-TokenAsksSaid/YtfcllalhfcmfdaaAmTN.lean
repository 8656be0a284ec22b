import Derived.Test.YtfcllalhfcmfdaaAmTM
set_option linter.unusedVariables false
set_option linter.unusedSimpArgs false
set_option linter.unusedSectionVars false
namespace Go.Proofs.Ytf
open Go Go.Am
set_option maxRecDepth 20000
set_option linter.unusedSimpArgs false
set_option maxHeartbeats 2000000
/-! the document's own answer: the next token -/
theorem rmove_ok (ln col n : Int) (hn : -9223372036854775808 ≤ col + n ∧ col + n ≤ 9223372036854775807) (h : Heap) : ACalls PP 24 [spotV ln col, .int .i64 n] h (fun v h' => h' = h ∧ v = spotV ln (col + n)) := by
  refine acalls_of_vc mix fn24 bodyEq24 rfl (by show 2 ≤ 12; decide) ok24 ?_
  simp only [body24, Try.f24]
  have e1 : IntKind.wrap .i64 (col + n) = col + n := i64wrap hn
  simp [spotV, e1]
theorem runL_stop (k : Nat) : ∀ (l : List UInt8) (d : UInt8), l[runL k l]? = some d → kindV d.toNat ≠ k := by
  intro l
  induction l with
  | nil => intro d h; simp [runL] at h
  | cons c r ih =>
    intro d h
    simp only [runL] at h
    split at h
    · exact ih d (by simpa using h)
    · rename_i hk; simp at h; subst h; exact hk
theorem run_stop {l : List UInt8} {k a : Nat} {d : UInt8} (h : l[a + runL k (l.drop a)]? = some d) : kindV d.toNat ≠ k := by
  have := runL_stop k (l.drop a) d (by rw [List.getElem?_drop]; exact h)
  exact this
def K10 (l : List UInt8) (a k : Nat) (z6 z8 : List Value) (ln q : Int) (h : Heap) (σ : St) : Prop :=
  σ.m.h = h ∧ σ.t.get 0 = some (.string (B l)) ∧ σ.t.get 1 = some (.int .i64 (a : Nat)) ∧ σ.t.get 6 = some (.pointer (some ⟨6, 0, some 0⟩)) ∧ σ.t.get 8 = some (.pointer (some ⟨8, 0, some 0⟩)) ∧ σ.t.get 10 = some (.int .i64 (k : Nat)) ∧
  σ.t.get 11 = some (.pointer (some ⟨11, 0, some 0⟩)) ∧ σ.t.get 12 = some (.pointer (some ⟨12, 0, some 0⟩)) ∧ σ.m.x.look 6 = some (27, z6) ∧ σ.m.x.look 8 = some (25, z8) ∧ σ.m.x.look 11 = some (25, [.int .i64 ln, .int .i64 q]) ∧
  σ.m.x.look 12 = some (27, [.int .i64 0, .int .i64 0, .int .i64 ln, .int .i64 q, .string (B [])])
def J10w (l : List UInt8) (a k kk : Nat) (z6 z8 : List Value) (ln q : Int) (h : Heap) (n : Nat) (σ : St) : Prop := ∃ e, n = l.length - e ∧ e ≤ l.length ∧ e + runL kk (l.drop e) = k + runL kk (l.drop k) ∧ σ.t.get 13 = some (.int .i64 (e : Nat)) ∧ K10 l a k z6 z8 ln q h σ
def J10d (l : List UInt8) (a k f kk : Nat) (z6 z8 : List Value) (ln q : Int) (h : Heap) (n : Nat) (σ : St) : Prop := ∃ e, n = l.length - e ∧ e ≤ l.length ∧ e + runL kk (l.drop e) = f + runL kk (l.drop f) ∧ σ.t.get 13 = some (.int .i64 (e : Nat)) ∧ σ.t.get 14 = some (.int .i64 (f : Nat)) ∧ K10 l a k z6 z8 ln q h σ
theorem getD_get' {l : List UInt8} {k : Nat} {c : UInt8} (h : l[k]? = some c) : l.getD k 0 = c := by
  rw [List.getD_eq_getElem?_getD, h]; rfl
theorem rnext_ok (l : List UInt8) (a : Nat) (ln col : Int) (hl : l.length ≤ 1073741824) (ha : a ≤ l.length) (hln : 0 ≤ ln ∧ ln ≤ 4294967296) (hcol : 0 ≤ col ∧ col ≤ 2147483648) (h : Heap) :
    ACalls PP 10 [.string (B l), .int .i64 a, spotV ln col] h (fun v h' => Ext h h' ∧ v = nxV (nextV l a ln col)) := by
  refine acalls_of_vc mix fn10 bodyEq10 rfl (by show 3 ≤ 165; decide) ok10 ?_
  simp only [body10, Try.f10]
  have c1 : ¬ (a : Int) < 0 := by omega
  have c2 : ¬ (l.length : Int) < (a : Int) := by omega
  simp [spotV, c1, c2]
  obtain ⟨k, hk⟩ : ∃ k, k = a + skipL false (l.drop a) := ⟨_, rfl⟩
  have hsk := rskip_ok l a ha hl h
  rw [← hk] at hsk
  have hak : a ≤ k := by omega
  have hkl : k ≤ l.length := by have := skipL_le false (l.drop a); rw [List.length_drop] at this; omega
  have hX : nextV l a ln col = nextV' l a k ln col := by rw [nextV, ← hk]
  rw [hX]
  refine hsk.mono ?_
  rintro v h'' ⟨rfl, rfl⟩
  simp [callQ]
  intro _
  obtain ⟨d, hd⟩ : ∃ d : Int, d = (k : Int) - a := ⟨_, rfl⟩
  have w1 : IntKind.wrap .i64 ((k : Int) - a) = d := by rw [i64wrap (by omega), hd]
  simp [w1]
  refine (rmove_ok ln col d (by omega) h'').mono ?_
  rintro v h3 ⟨rfl, rfl⟩
  obtain ⟨q, hq⟩ : ∃ q : Int, q = col + d := ⟨_, rfl⟩
  have hq2 : q = col + k - a := by omega
  rw [← hq]
  simp [callQ, spotV]
  intro _
  by_cases hend : k = l.length
  · have hnone : l[k]? = none := List.getElem?_eq_none (by omega)
    subst hend
    simp [nextV', hnone, nxV, tokV, tokC, zTok, spotV, hq2]
    exact Ext.rfl' _
  · have hlt : k < l.length := by omega
    have hend' : ¬ ((k : Int) = (l.length : Int)) := by omega
    have hc' : l[k]? = some l[k] := List.getElem?_eq_getElem hlt
    simp [hend', hc', hlt]
    obtain ⟨c, hc⟩ : ∃ c, c = l[k] := ⟨_, rfl⟩
    rw [← hc] at hc' ⊢
    by_cases h10 : c.toNat = 10
    · have hk3 : kindV c.toNat = 3 := by rw [h10]; rfl
      have w2 : IntKind.wrap .i64 (ln + 1) = ln + 1 := i64wrap (by omega)
      have w3 : IntKind.wrap .i64 ((k : Int) + 1) = (k : Int) + 1 := i64wrap (by omega)
      simp [h10, w2, w3]
      simp [nextV', hc', hk3, nxV, tokV, tokC, zTok, spotV, hq2]
      exact Ext.rfl' _
    · have hk3 : ¬ kindV c.toNat = 3 := by simp only [kindV]; (repeat' split) <;> omega
      have h10' : ¬ (c.toNat : Int) = 10 := by omega
      simp [h10']
      try simp [hc']
      refine (rletter_ok _ _).mono ?_
      rintro v h4 ⟨rfl, rfl⟩
      simp [callQ]
      intro _
      by_cases hk4 : kindV c.toNat = 4
      · simp [hk4]
        refine vc_loop (J10w l a k 4 _ _ ln q h4) _ ⟨k, rfl, by omega, rfl, by simp, rfl, by simp, by simp, by simp, by simp, by simp, by simp, by simp, by simp; rfl, by simp; rfl, by simp, by simp⟩ ?_
        rintro n ⟨T, ⟨x, H⟩⟩ ⟨e, rfl, he, hr, g13, hH, g0, g1, g6, g8, g10, g11, g12, x6, x8, x11, x12⟩
        simp at hH g13 g0 g1 g6 g8 g10 g11 g12 x6 x8 x11 x12
        subst hH
        simp [g13, g0, g1, g6, g8, g10, g11, g12, x6, x8, x11, x12]
        by_cases hel : e < l.length
        · have he' : l[e]? = some l[e] := List.getElem?_eq_getElem hel
          have hde := drop_get he'
          rw [hde, runL] at hr
          simp [hel, he', g13, g0, g1, g6, g8, g10, g11, g12, x6, x8, x11, x12]
          refine (rletter_ok _ _).mono ?_
          rintro v H2 ⟨rfl, rfl⟩
          simp [callQ]
          intro _
          by_cases g4 : kindV l[e].toNat = 4
          · rw [if_pos g4] at hr
            have ww : IntKind.wrap .i64 ((e : Int) + 1) = ((e + 1 : Nat) : Int) := by rw [i64wrap (by omega)]; omega
            simp [g4, ww, hel, g13, g0, g1, g6, g8, g10, g11, g12, x6, x8, x11, x12]
            exact ⟨l.length - (e + 1), by omega, e + 1, rfl, by omega, by omega, by simp, rfl, by simp [g0], by simp [g1], by simp [g6], by simp [g8], by simp [g10], by simp [g11], by simp [g12], by simp [x6], by simp [x8], by simp [x11], by simp [x12]⟩
          · rw [if_neg g4] at hr
            have hke : k ≤ e := by omega
            have hto : e = k + runL 4 (l.drop k) := by omega
            have wk : IntKind.wrap .i64 ((e : Int) - k) = ((e - k : Nat) : Int) := by rw [i64wrap (by omega)]; omega
            have wq : q + ((e - k : Nat) : Int) = col + e - a := by omega
            simp [g4, hke, hel, he, he', wk, g13, g0, g1, g6, g8, g10, g11, g12, x6, x8, x11, x12]
            refine (rdigit_ok _ _).mono ?_
            rintro v H2 ⟨rfl, rfl⟩
            simp [callQ]
            intro _
            by_cases g5 : kindV l[e].toNat = 5
            · simp [g5, g4, hke, hel, he, he', wk, g13, g0, g1, g6, g8, g10, g11, g12, x6, x8, x11, x12]
              refine (rmove_ok ln q ((e - k : Nat) : Int) (by omega) _).mono ?_
              rintro v H3 ⟨rfl, rfl⟩
              simp [callQ, callP, spotV]
              intro _
              simp [nextV', hc', hk3, hk4, ← hto, endOk, he', g5, nxV, tokV, tokC, zTok, spotV, wq]
              exact Ext.rfl' _
            · simp [g5, g4, hke, hel, he, he', wk, g13, g0, g1, g6, g8, g10, g11, g12, x6, x8, x11, x12]
              by_cases g6' : l[e].toNat = 45
              · have g6k : kindV l[e].toNat = 6 := kind_minus.2 g6'
                simp [g6', g4, hke, hel, he, he', wk, g13, g0, g1, g6, g8, g10, g11, g12, x6, x8, x11, x12]
                refine (rmove_ok ln q ((e - k : Nat) : Int) (by omega) _).mono ?_
                rintro v H3 ⟨rfl, rfl⟩
                simp [callQ, callP, spotV]
                intro _
                simp [nextV', hc', hk3, hk4, ← hto, endOk, he', g6k, nxV, tokV, tokC, zTok, spotV, wq]
                exact Ext.rfl' _
              · have g6k : ¬ kindV l[e].toNat = 6 := fun z => g6' (kind_minus.1 z)
                have g6'' : ¬ (l[e].toNat : Int) = 45 := by omega
                simp [g6'', g4, hke, hel, he, he', wk, g13, g0, g1, g6, g8, g10, g11, g12, x6, x8, x11, x12]
                refine (rletter_ok _ _).mono ?_
                rintro v H2 ⟨rfl, rfl⟩
                simp [callQ]
                intro _
                simp [g4, g4, hke, hel, he, he', wk, g13, g0, g1, g6, g8, g10, g11, g12, x6, x8, x11, x12]
                refine (rmove_ok ln q ((e - k : Nat) : Int) (by omega) _).mono ?_
                rintro v H3 ⟨rfl, rfl⟩
                simp [callQ, callP, spotV]
                intro _
                simp [nextV', hc', hk3, hk4, ← hto, endOk, he', g4, g5, g6k, nxV, tokV, tokC, zTok, spotV, wq, hq2]
                exact ⟨Ext.rfl' _, by omega⟩
        · have hke : k ≤ e := by rw [drop_end hel, runL] at hr; omega
          have hto : e = k + runL 4 (l.drop k) := by rw [drop_end hel, runL] at hr; omega
          have he' : l[e]? = none := List.getElem?_eq_none (by omega)
          have wk : IntKind.wrap .i64 ((e : Int) - k) = ((e - k : Nat) : Int) := by rw [i64wrap (by omega)]; omega
          have wq : q + ((e - k : Nat) : Int) = col + e - a := by omega
          simp [hel, hke, he, wk, g13, g0, g1, g6, g8, g10, g11, g12, x6, x8, x11, x12]
          refine (rmove_ok ln q ((e - k : Nat) : Int) (by omega) _).mono ?_
          rintro v H3 ⟨rfl, rfl⟩
          simp [callQ, callP, spotV]
          intro _
          simp [nextV', hc', hk3, hk4, ← hto, endOk, he', nxV, tokV, tokC, zTok, spotV, wq, hq2]
          exact ⟨Ext.rfl' _, by omega⟩
      · simp [hk4]
        obtain ⟨m, hm⟩ : ∃ m : Nat, m = if c.toNat = 45 then 1 else 0 := ⟨_, rfl⟩
        obtain ⟨f, hf⟩ : ∃ f, f = k + m := ⟨_, rfl⟩
        have hfl : f ≤ l.length := by split at hm <;> omega
        obtain ⟨to, hto⟩ : ∃ to, to = f + runL 5 (l.drop f) := ⟨_, rfl⟩
        have htl : to ≤ l.length := by have := runL_le 5 (l.drop f); rw [List.length_drop] at this; omega
        have hM : numM l k = m := by unfold numM; rw [getD_get' hc', hm]
        have hT : numT l k = to - f := by unfold numT; rw [hM, ← hf]; omega
        have hd0 := drop_get hc'
        have h56 : f < to → kindV c.toNat = 6 ∨ kindV c.toNat = 5 := by
          intro hft
          by_cases h45 : c.toNat = 45
          · exact .inl (kind_minus.2 h45)
          · rw [if_neg h45] at hm
            have : f = k := by omega
            rw [this, hd0, runL] at hto
            by_cases h5 : kindV c.toNat = 5
            · exact .inr h5
            · rw [if_neg h5] at hto; omega
        have hbad0 : to = f → nextV' l a k ln col = ⟨zTok, a, ln, q, 2⟩ := by
          intro htf
          unfold nextV'
          rw [hc']
          dsimp only
          rw [if_neg hk3, if_neg hk4]
          have hnv : numV l k = ⟨0, k, false⟩ := by unfold numV numV'; rw [if_pos (.inl (by omega))]
          rw [hnv]
          split
          · rw [if_neg (by simp), hq2]
          · rw [hq2]
        obtain ⟨nn, hnn⟩ : ∃ nn, nn = numN l k := ⟨_, rfl⟩
        obtain ⟨ds, hds⟩ : ∃ ds, ds = (l.take to).drop f := ⟨_, rfl⟩
        have hds2 : ds = (l.drop f).take (to - f) := by rw [hds, List.drop_take]
        have hdd : ∀ x ∈ ds, kindV x.toNat = 5 := fun x hx => by
          rw [hds2] at hx
          exact runL_all 5 (l.drop f) x (by rw [show runL 5 (l.drop f) = to - f by omega]; exact hx)
        obtain ⟨mm, hmm⟩ : ∃ mm : List UInt8, mm = if c.toNat = 45 then [45] else [] := ⟨_, rfl⟩
        have hmm2 : mm = [] ∨ mm = [45] := by split at hmm <;> simp [hmm]
        have hw : (l.take to).drop k = mm ++ ds := by
          have e1 : (l.take to).drop k = ((l.take to).drop k).take m ++ ((l.take to).drop k).drop m := (List.take_append_drop _ _).symm
          rw [e1, List.drop_drop, ← hf, ← hds]
          congr 1
          by_cases h45 : c.toNat = 45
          · rw [if_pos h45] at hm hmm
            rw [hmm, hm, List.drop_take, hd0, show to - k = (to - k - 1) + 1 by omega]
            have : c = 45 := UInt8.toNat_inj.mp (by rw [h45]; rfl)
            rw [this]; simp
          · rw [if_neg h45] at hm hmm
            rw [hmm, hm]; simp
        have hyn : nn = if mm = [] then (numL 0 ds : Int) else -(numL 0 ds : Int) := by
          rw [hnn, numN, hM, hT, ← hf, ← hds2]
          by_cases h45 : c.toNat = 45
          · rw [if_pos h45] at hm hmm; rw [hm, hmm]; simp
          · rw [if_neg h45] at hm hmm; rw [hm, hmm]; simp
        obtain ⟨xn, hxn⟩ : ∃ xn : Int, xn = if c.toNat = 45 then -(rnumL 0 ((l.take to).drop k) : Int) else rnumL 0 ((l.take to).drop k) := ⟨_, rfl⟩
        have hw0 : k < to → ((l.take to).drop k)[0]? = some c := by
          intro hkt
          rw [List.getElem?_drop, List.getElem?_take, if_pos (by omega)]; exact hc'
        have hagree := fun (hft : f < to) => num_agree mm ds c hmm2 hdd (by intro e; have := congrArg List.length e; rw [hds2, List.length_take, List.length_drop] at this; simp at this; omega) (by rw [← hw]; exact hw0 (by omega)) xn (by rw [← hw]; exact hxn) nn hyn
        have hkf : k ≤ f := by omega
        by_cases h45 : c.toNat = 45
        case' pos =>
          have w2 : IntKind.wrap .i64 ((k : Int) + 1) = (f : Int) := by rw [if_pos h45] at hm; rw [i64wrap (by omega)]; omega
          simp [h45, hc', w2]
        case' neg =>
          have h45' : ¬ (c.toNat : Int) = 45 := by omega
          have w2 : (k : Int) = (f : Int) := by rw [if_neg h45] at hm; omega
          have w3 : k = f := by omega
          simp [h45', hc']
        all_goals
          refine vc_loop (J10d l a k f 5 _ _ ln q h4) _ ⟨f, rfl, by omega, rfl, by simp <;> omega, by simp <;> omega, rfl, by simp, by simp, by simp, by simp, by simp, by simp, by simp, by simp; rfl, by simp; rfl, by simp, by simp⟩ ?_
          rintro n ⟨T, ⟨x, H⟩⟩ ⟨e, rfl, he, hr, g13, g14, hH, g0, g1, g6, g8, g10, g11, g12, x6, x8, x11, x12⟩
          simp at hH g13 g14 g0 g1 g6 g8 g10 g11 g12 x6 x8 x11 x12
          subst hH
          simp [g13, g14, g0, g1, g6, g8, g10, g11, g12, x6, x8, x11, x12]
          by_cases hel : e < l.length
          · have he' : l[e]? = some l[e] := List.getElem?_eq_getElem hel
            have hde := drop_get he'
            rw [hde, runL] at hr
            simp [hel, he', g14, g13, g0, g1, g6, g8, g10, g11, g12, x6, x8, x11, x12]
            refine (rdigit_ok _ _).mono ?_
            rintro v H2 ⟨rfl, rfl⟩
            simp [callQ]
            intro _
            by_cases g5 : kindV l[e].toNat = 5
            · rw [if_pos g5] at hr
              have ww : IntKind.wrap .i64 ((e : Int) + 1) = ((e + 1 : Nat) : Int) := by rw [i64wrap (by omega)]; omega
              simp [g5, ww, hel, g14, g13, g0, g1, g6, g8, g10, g11, g12, x6, x8, x11, x12]
              exact ⟨l.length - (e + 1), by omega, e + 1, rfl, by omega, by omega, by simp, by simp [g14], rfl, by simp [g0], by simp [g1], by simp [g6], by simp [g8], by simp [g10], by simp [g11], by simp [g12], by simp [x6], by simp [x8], by simp [x11], by simp [x12]⟩
            · rw [if_neg g5] at hr
              simp [g5, hel, g14, g13, g0, g1, g6, g8, g10, g11, g12, x6, x8, x11, x12]
              have hte : e = to := by omega
              subst hte
              have hke : k ≤ e := by omega
              have wk : IntKind.wrap .i64 ((e : Int) - k) = ((e - k : Nat) : Int) := by rw [i64wrap (by omega)]; omega
              have wq : q + ((e - k : Nat) : Int) = col + e - a := by omega
              by_cases htf : e = f
              · simp [htf, hel, he', g14, g13, g0, g1, g6, g8, g10, g11, g12, x6, x8, x11, x12]
                rw [hbad0 htf]
                simp [nxV, tokV, tokC, zTok, spotV]
                exact Ext.rfl' _
              · have hft : f < e := by omega
                have hag := hagree hft
                have htf' : ¬ (e : Int) = (f : Int) := by omega
                have hNX0 : (nn < -2147483648 ∨ 2147483647 < nn) → nextV' l a k ln col = ⟨zTok, a, ln, q, 2⟩ := by
                  intro hr
                  unfold nextV'
                  rw [hc']
                  dsimp only
                  rw [if_neg hk3, if_neg hk4, if_pos (h56 hft)]
                  have hnv : numV l k = ⟨0, k, false⟩ := by unfold numV numV'; rw [← hnn, if_pos (.inr hr)]
                  rw [hnv]
                  rw [if_neg (by simp), hq2]
                have hNX1 : ¬ (nn < -2147483648 ∨ 2147483647 < nn) → ∀ b, (match l[e]? with | some c => decide (kindV c.toNat ≠ 4) && decide (kindV c.toNat ≠ 6) | none => true) = b →
                    nextV' l a k ln col = if b = true then ⟨⟨2, nn, ln, col + k - a, (l.take e).drop k⟩, e, ln, col + e - a, 0⟩ else ⟨zTok, a, ln, col + e - a, 2⟩ := by
                  intro hr b hb
                  unfold nextV'
                  rw [hc']
                  dsimp only
                  rw [if_neg hk3, if_neg hk4, if_pos (h56 hft)]
                  have hnv : numV l k = ⟨nn, e, b⟩ := by
                    unfold numV numV'
                    rw [← hnn, hM, hT, if_neg (by omega), show k + m + (e - f) = e by omega]
                    congr 1
                  rw [hnv]
                simp [htf', hke, he, hel, he', g14, g13, g0, g1, g6, g8, g10, g11, g12, x6, x8, x11, x12]
                refine (rnumber_ok ((l.take e).drop k) c (hw0 (by omega)) (by simp; omega) _ xn hxn).mono ?_
                rintro v H2 ⟨rfl, rfl⟩
                simp [callQ]
                intro _
                by_cases hx : -2147483648 ≤ xn ∧ xn ≤ 2147483647
                · obtain ⟨hx1, hx2⟩ := hx
                  have hNX := hNX1 (hag.1.1 ⟨hx1, hx2⟩)
                  have hxnn := hag.2 hx1 hx2
                  simp [hx1, hx2, hel, he', g13, g0, g1, g6, g8, g10, g11, g12, x6, x8, x11, x12]
                  try simp [g5, hke, hel, he, he', wk, g13, g0, g1, g6, g8, g10, g11, g12, x6, x8, x11, x12]
                  refine (rdigit_ok _ _).mono ?_
                  rintro v H2 ⟨rfl, rfl⟩
                  simp [callQ]
                  intro _
                  simp [g5, hke, hel, he, he', wk, g13, g0, g1, g6, g8, g10, g11, g12, x6, x8, x11, x12]
                  by_cases g6' : l[e].toNat = 45
                  · have g6k : kindV l[e].toNat = 6 := kind_minus.2 g6'
                    simp [g6', hke, hel, he, he', wk, g13, g0, g1, g6, g8, g10, g11, g12, x6, x8, x11, x12]
                    refine (rmove_ok ln q ((e - k : Nat) : Int) (by omega) _).mono ?_
                    rintro v H3 ⟨rfl, rfl⟩
                    simp [callQ, callP, spotV]
                    intro _
                    rw [hNX false (by simp [he', g6k])]
                    simp [nxV, tokV, tokC, zTok, spotV, wq]
                    exact Ext.rfl' _
                  · have g6k : ¬ kindV l[e].toNat = 6 := fun z => g6' (kind_minus.1 z)
                    have g6'' : ¬ (l[e].toNat : Int) = 45 := by omega
                    simp [g6'', hke, hel, he, he', wk, g13, g0, g1, g6, g8, g10, g11, g12, x6, x8, x11, x12]
                    refine (rletter_ok _ _).mono ?_
                    rintro v H2 ⟨rfl, rfl⟩
                    simp [callQ]
                    intro _
                    by_cases g4 : kindV l[e].toNat = 4
                    · simp [g4, hke, hel, he, he', wk, g13, g0, g1, g6, g8, g10, g11, g12, x6, x8, x11, x12]
                      refine (rmove_ok ln q ((e - k : Nat) : Int) (by omega) _).mono ?_
                      rintro v H3 ⟨rfl, rfl⟩
                      simp [callQ, callP, spotV]
                      intro _
                      rw [hNX false (by simp [he', g4])]
                      simp [nxV, tokV, tokC, zTok, spotV, wq]
                      exact Ext.rfl' _
                    · simp [g4, hke, hel, he, he', wk, g13, g0, g1, g6, g8, g10, g11, g12, x6, x8, x11, x12]
                      refine (rmove_ok ln q ((e - k : Nat) : Int) (by omega) _).mono ?_
                      rintro v H3 ⟨rfl, rfl⟩
                      simp [callQ, callP, spotV]
                      intro _
                      rw [hNX true (by simp [he', g4, g5, g6k])]
                      simp [nxV, tokV, tokC, zTok, spotV, wq, hq2, hxnn]
                      exact ⟨Ext.rfl' _, by omega⟩
                · rw [hNX0 (by have := hag.1; omega)]
                  rcases (by omega : ¬ -2147483648 ≤ xn ∨ (-2147483648 ≤ xn ∧ ¬ xn ≤ 2147483647)) with hx1 | ⟨hx1, hx2⟩
                  · simp [hx1, hel, he', g13, g0, g1, g6, g8, g10, g11, g12, x6, x8, x11, x12]
                    simp [nxV, tokV, tokC, zTok, spotV]
                    exact Ext.rfl' _
                  · simp [hx1, hx2, hel, he', g13, g0, g1, g6, g8, g10, g11, g12, x6, x8, x11, x12]
                    simp [nxV, tokV, tokC, zTok, spotV]
                    exact Ext.rfl' _
          · rw [drop_end hel, runL] at hr
            have he' : l[e]? = none := List.getElem?_eq_none (by omega)
            simp [hel, g14, g13, g0, g1, g6, g8, g10, g11, g12, x6, x8, x11, x12]
            have hte : e = to := by omega
            subst hte
            have hke : k ≤ e := by omega
            have wk : IntKind.wrap .i64 ((e : Int) - k) = ((e - k : Nat) : Int) := by rw [i64wrap (by omega)]; omega
            have wq : q + ((e - k : Nat) : Int) = col + e - a := by omega
            by_cases htf : e = f
            · simp [htf, hel, g14, g13, g0, g1, g6, g8, g10, g11, g12, x6, x8, x11, x12]
              rw [hbad0 htf]
              simp [nxV, tokV, tokC, zTok, spotV]
              exact Ext.rfl' _
            · have hft : f < e := by omega
              have hag := hagree hft
              have htf' : ¬ (e : Int) = (f : Int) := by omega
              have hNX0 : (nn < -2147483648 ∨ 2147483647 < nn) → nextV' l a k ln col = ⟨zTok, a, ln, q, 2⟩ := by
                intro hr
                unfold nextV'
                rw [hc']
                dsimp only
                rw [if_neg hk3, if_neg hk4, if_pos (h56 hft)]
                have hnv : numV l k = ⟨0, k, false⟩ := by unfold numV numV'; rw [← hnn, if_pos (.inr hr)]
                rw [hnv]
                rw [if_neg (by simp), hq2]
              have hNX1 : ¬ (nn < -2147483648 ∨ 2147483647 < nn) → ∀ b, (match l[e]? with | some c => decide (kindV c.toNat ≠ 4) && decide (kindV c.toNat ≠ 6) | none => true) = b →
                  nextV' l a k ln col = if b = true then ⟨⟨2, nn, ln, col + k - a, (l.take e).drop k⟩, e, ln, col + e - a, 0⟩ else ⟨zTok, a, ln, col + e - a, 2⟩ := by
                intro hr b hb
                unfold nextV'
                rw [hc']
                dsimp only
                rw [if_neg hk3, if_neg hk4, if_pos (h56 hft)]
                have hnv : numV l k = ⟨nn, e, b⟩ := by
                  unfold numV numV'
                  rw [← hnn, hM, hT, if_neg (by omega), show k + m + (e - f) = e by omega]
                  congr 1
                rw [hnv]
              simp [htf', hke, he, hel, g14, g13, g0, g1, g6, g8, g10, g11, g12, x6, x8, x11, x12]
              refine (rnumber_ok ((l.take e).drop k) c (hw0 (by omega)) (by simp; omega) _ xn hxn).mono ?_
              rintro v H2 ⟨rfl, rfl⟩
              simp [callQ]
              intro _
              by_cases hx : -2147483648 ≤ xn ∧ xn ≤ 2147483647
              · obtain ⟨hx1, hx2⟩ := hx
                have hNX := hNX1 (hag.1.1 ⟨hx1, hx2⟩)
                have hxnn := hag.2 hx1 hx2
                simp [hx1, hx2, hel, g13, g0, g1, g6, g8, g10, g11, g12, x6, x8, x11, x12]
                simp [hel, hke, he, wk, g13, g0, g1, g6, g8, g10, g11, g12, x6, x8, x11, x12]

                refine (rmove_ok ln q ((e - k : Nat) : Int) (by omega) _).mono ?_
                rintro v H3 ⟨rfl, rfl⟩
                simp [callQ, callP, spotV]
                intro _
                rw [hNX true (by simp [he'])]
                simp [nxV, tokV, tokC, zTok, spotV, wq, hq2, hxnn]
                exact ⟨Ext.rfl' _, by omega⟩
              · rw [hNX0 (by have := hag.1; omega)]
                rcases (by omega : ¬ -2147483648 ≤ xn ∨ (-2147483648 ≤ xn ∧ ¬ xn ≤ 2147483647)) with hx1 | ⟨hx1, hx2⟩
                · simp [hx1, hel, g13, g0, g1, g6, g8, g10, g11, g12, x6, x8, x11, x12]
                  simp [nxV, tokV, tokC, zTok, spotV]
                  exact Ext.rfl' _
                · simp [hx1, hx2, hel, g13, g0, g1, g6, g8, g10, g11, g12, x6, x8, x11, x12]
                  simp [nxV, tokV, tokC, zTok, spotV]
                  exact Ext.rfl' _
end Go.Proofs.Ytf
