import Derived.Test.YtfcllalhfcmfdaaAmTE
import Derived.Test.YtfcllalhfcmfdaaAmTD
set_option linter.unusedVariables false
set_option linter.unusedSimpArgs false
set_option linter.unusedSectionVars false
namespace Go.Proofs.Ytf
open Go Go.Am
set_option maxRecDepth 20000
set_option linter.unusedSimpArgs false
set_option maxHeartbeats 2000000
attribute [local simp] idB
attribute [local simp ↓ high] vc_id
/-- whole numbers in the heap, as a slice of one's own -/
def natC (n : Nat) : Value := .int .i64 (n : Int)
def OwnN (h0 h : Heap) (v : Value) (xs : List Nat) : Prop := ∃ b, v = .slice (some ⟨b, 0, none⟩) xs.length xs.length ∧ h.f b = .row true 3 (xs.map natC) ∧ h0.n ≤ b ∧ b < h.n
def J6 (s : Value) (bs : List UInt8) (ln col cd : Int) (h : Heap) (n : Nat) (σ : St) : Prop := ∃ (i : Nat) (fv : Value), n = bs.length - i ∧ i ≤ bs.length ∧ Ext h σ.m.h ∧ OwnN h σ.m.h fv (fromL bs i) ∧
  σ.t.get 3 = some (.string (B bs)) ∧ σ.t.get 4 = some s ∧ σ.t.get 5 = some (.pointer (some ⟨5, 0, some 0⟩)) ∧ σ.t.get 6 = some (.int .i64 cd) ∧ σ.t.get 7 = some fv ∧ σ.t.get 8 = some (.int .i64 (i : Nat)) ∧
  σ.m.x.look 5 = some (25, [.int .i64 ln, .int .i64 col])
def J6b (s fv : Value) (bs : List UInt8) (m : Nat) (ln col cd : Int) (h : Heap) (n : Nat) (σ : St) : Prop := ∃ (i : Nat), n = m - i ∧ i ≤ m ∧ σ.m.h = h ∧
  σ.t.get 3 = some (.string (B bs)) ∧ σ.t.get 4 = some s ∧ σ.t.get 5 = some (.pointer (some ⟨5, 0, some 0⟩)) ∧ σ.t.get 6 = some (.int .i64 cd) ∧ σ.t.get 7 = some fv ∧ σ.t.get 9 = some (.int .i64 (i : Nat)) ∧
  σ.m.x.look 5 = some (25, [.int .i64 ln, .int .i64 col])
theorem hr1 : List.range 1 = [0] := rfl
theorem spots_ok (s : Value) (l : List Int) (hl : l.length ≤ 1152921504606846976) (h : Heap) (hs : IntsA h s l) : ACalls PP 6 [s] h (fun v _ => v = .bool true) := by
  refine acalls_of_vc mix fn6 bodyEq6 rfl (by show 1 ≤ 149; decide) ok6 ?_
  simp only [body6, Try.f6]
  have htx := text_ok s l 25 (by omega) hl h hs
  obtain ⟨ad0, c0, rfl, hz0⟩ := hs
  simp
  refine htx.mono ?_
  rintro v h1 ⟨E1, rfl⟩
  obtain ⟨bs, hbs⟩ : ∃ bs, bs = textL (l.take 25) := ⟨_, rfl⟩
  have hbl : bs.length ≤ 500 := by have := textL_len (l.take 25); rw [← hbs, List.length_take] at this; omega
  rw [← hbs]
  simp [callQ]
  intro _
  refine (all_ok bs (by omega) h1).mono ?_
  rintro v h2 ⟨E2, s, hs, rfl⟩
  have hcode : (allV bs).code = 0 ∨ (allV bs).code = 2 := allL_code bs _ _ _ _
  have hat := allV_at bs
  have htl : (allV bs).ts.length ≤ 501 := by have := allL_len bs (bs.length + 1) 0 1 1; unfold allV; omega
  obtain ⟨ts, hts⟩ : ∃ ts, ts = (allV bs).ts := ⟨_, rfl⟩
  obtain ⟨cd, hcd⟩ : ∃ cd, cd = (allV bs).code := ⟨_, rfl⟩
  obtain ⟨ln, hln⟩ : ∃ ln, ln = (allV bs).ln := ⟨_, rfl⟩
  obtain ⟨col, hcol⟩ : ∃ col, col = (allV bs).col := ⟨_, rfl⟩
  rw [← hts] at hs htl hat
  rw [← hcd] at hcode ⊢
  rw [← hln, ← hcol] at hat ⊢
  have hs1 := hs.tokS
  obtain ⟨ad, rfl, hz⟩ := hs
  simp [callQ, spotV]
  intro _
  simp [opAppend, srcCells, opBuildSlice, maxA, hr1]
  refine vc_loop (J6 (.slice ad ts.length ts.length) bs ln col cd h2) _ ⟨0, _, rfl, by omega, ?_, ?_, by simp, by simp, by simp, by simp, by simp; rfl, by simp, by simp⟩ ?_
  · exact (Ext.new _ _).newOf _
  · exact ⟨_, rfl, by simp [fromL, natC], by simp, by simp⟩
  rintro n ⟨T, ⟨x, H⟩⟩ ⟨i, fv, rfl, hi, hE, hF, g3, g4, g5, g6, g7, g8, hx5⟩
  simp at g3 g4 g5 g6 g7 g8 hx5 hE hF
  simp [g3, g4, g5, g6, g7, g8, hx5]
  refine condQ_of (fun hc => ?_) (fun hc => ?_) <;> simp only [decide_eq_true_eq, decide_eq_false_iff_not] at hc
  · have hib : i < bs.length := by omega
    have hc' : bs[i]? = some bs[i] := List.getElem?_eq_getElem hib
    have w1 : IntKind.wrap .i64 ((i : Int) + 1) = ((i + 1 : Nat) : Int) := by rw [i64wrap (by omega)]; omega
    simp [g3, g4, g5, g6, g7, g8, hx5, hc']
    refine condQ_of (fun hk => ?_) (fun hk => ?_) <;> simp only [decide_eq_true_eq, decide_eq_false_iff_not] at hk
    · obtain ⟨b, rfl, hb, hb2, hb3⟩ := hF
      have hfr : fromL bs (i + 1) = fromL bs i ++ [i + 1] := by rw [fromL, if_pos (by rw [getD_get hc']; omega)]
      have hfl := fromL_len bs i
      obtain ⟨F, hF⟩ : ∃ F, F = (fromL bs i).map natC := ⟨_, rfl⟩
      have hFl : F.length = (fromL bs i).length := by rw [hF, List.length_map]
      rw [← hF] at hb
      obtain ⟨m, hm⟩ : ∃ m, m = (fromL bs i).length := ⟨_, rfl⟩
      rw [← hm] at hfl hFl
      have hbn : ¬ b = H.n := by omega
      have hmx : (m + 1) * 8 ≤ 140737488355328 := by omega
      simp [g3, g4, g5, g6, g7, g8, hx5, w1, opAppend, srcCells, opBuildSlice, maxA, hr1, ← hm, hbn, hb, hFl, hmx]
      have e8 : F.take m = F := List.take_of_length_le (by omega)
      refine ⟨bs.length - (i + 1), by omega, i + 1, _, rfl, by omega, ?_, ?_, by simp, by simp, by simp, by simp, by simp; rfl, by simp, by simp⟩
      · exact ((hE.newOf _).setOf hb2 _).newOf _
      · refine ⟨H.n + 1, by rw [hfr]; simp [← hm], ?_, by have := hE.n; omega, by simp⟩
        rw [hfr, e8, hF]; simp [natC]
    · have hfr : fromL bs (i + 1) = fromL bs i := by rw [fromL, if_neg (by rw [getD_get hc']; omega)]
      simp [g3, g4, g5, g6, g7, g8, hx5, w1]
      exact ⟨bs.length - (i + 1), by omega, i + 1, fv, rfl, by omega, hE, by rw [hfr]; exact hF, by simp [g3], by simp [g4], by simp [g5], by simp [g6], by simp [g7], by simp, by simp [hx5]⟩
  · have hie : i = bs.length := by omega
    subst hie
    simp [g3, g4, g5, g6, g7, g8, hx5]
    obtain ⟨b, rfl, hb, hb2, hb3⟩ := hF
    have hts3 := hs1.ext hE
    obtain ⟨fm, hfm⟩ : ∃ fm, fm = (fromL bs bs.length).length := ⟨_, rfl⟩
    obtain ⟨F, hFd⟩ : ∃ F, F = (fromL bs bs.length).map natC := ⟨_, rfl⟩
    have hFl : F.length = fm := by rw [hFd, List.length_map, hfm]
    have hfl := fromL_len bs bs.length
    rw [← hFd] at hb
    rw [← hfm] at hfl
    have hfq : ∀ p, p ≤ bs.length → ∀ ln col, At bs p ln col → ∃ q s : Nat, ln = (q : Int) + 1 ∧ q < fm ∧ F.drop q = .int .i64 (s : Int) :: F.drop (q + 1) ∧ (s : Int) + col = p + 1 ∧ s ≤ p ∧ 1 ≤ col := by
      intro p hp ln col Hp
      obtain ⟨s, q1, q2⟩ := Hp.hs
      have := fromL_len bs p
      have q3 := fromL_get q1 hp
      have q4 := (List.getElem?_eq_some_iff.mp q3).1
      refine ⟨(fromL bs p).length - 1, s, by rw [Hp.hl]; omega, by omega, ?_, q2, by have := fromL_le _ _ _ _ q1; omega, Hp.hc⟩
      rw [List.drop_eq_getElem_cons (by omega)]
      congr 1
      have : F[(fromL bs p).length - 1]? = some (natC s) := by rw [hFd, List.getElem?_map, q3]; rfl
      rw [List.getElem?_eq_getElem (by omega)] at this
      exact Option.some.inj this
    rw [← hfm]
    refine vc_loop (J6b (.slice ad ts.length ts.length) (.slice (some ⟨b, 0, none⟩) fm fm) bs ts.length ln col cd H) _ ⟨0, rfl, by omega, rfl, by simp, by simp, by simp, by simp, by simp, by simp, by simp⟩ ?_
    clear g3 g4 g5 g6 g7 g8 hx5
    rintro n ⟨T, ⟨x, H'⟩⟩ ⟨i, rfl, hi, hH, g3, g4, g5, g6, g7, g9, hx5⟩
    simp at g3 g4 g5 g6 g7 g9 hx5 hH
    subst hH
    simp [g3, g4, g5, g6, g7, g9, hx5]
    refine condQ_of (fun hc => ?_) (fun hc => ?_) <;> simp only [decide_eq_true_eq, decide_eq_false_iff_not] at hc
    · have hil : i < ts.length := by omega
      have hti : ts[i]? = some ts[i] := List.getElem?_eq_getElem hil
      obtain ⟨_, b1, o1, wb1, cs1, r1, rfl, hb1, hd1, hl1, _⟩ := hts3.at hti
      obtain ⟨t, ht⟩ : ∃ t, t = ts[i] := ⟨_, rfl⟩
      obtain ⟨p, Hp⟩ := hat.1 t (by rw [ht]; exact List.getElem_mem _)
      obtain ⟨q, s, e1, e2, e3, e4, e5, e6⟩ := hfq p (by have := Hp.lt; omega) _ _ Hp.pos
      have Hlt := Hp.lt
      have Hend := Hp.end_
      have Htx := Hp.text
      clear Hp
      rw [← ht] at hd1
      obtain ⟨tk, tn, tl, tc, tx⟩ := t
      simp only at e1 e2 e3 e4 e5 e6 Hend Htx
      subst e1
      have c1 : ¬ ((q : Int) + 1 < 1) := by omega
      have c2 : ¬ ((fm : Int) < (q : Int) + 1) := by omega
      have c3 : ¬ (tc < 1) := by omega
      have w1 : IntKind.wrap .i64 (q : Int) = (q : Int) := by rw [i64wrap (by omega)]
      have w2 : IntKind.wrap .i64 ((s : Int) + tc) = (p : Int) + 1 := by rw [i64wrap (by omega)]; omega
      have w3 : IntKind.wrap .i64 (p : Int) = (p : Int) := by rw [i64wrap (by omega)]
      have c4 : ¬ (bs.length ≤ p) := by omega
      have c5 : ¬ ((p : Int) < 0) := by omega
      have b1' : o1 + i * 5 + 5 ≤ cs1.length := hl1
      have c6 : q + 1 ≤ F.length := by omega
      have hc' : bs[p]? = some bs[p] := List.getElem?_eq_getElem Hlt
      simp [g3, g4, g5, g6, g7, g9, hx5, hil, hb1, hd1, tokC, b1', c1, c2, c3, w1, w2, w3, e2, e3, hb, c6, c4, c5, hc']
      have w4 : IntKind.wrap .i64 ((i : Int) + 1) = ((i + 1 : Nat) : Int) := by rw [i64wrap (by omega)]; omega
      refine condQ_of (fun hk => ?_) (fun hk => ?_) <;> simp only [decide_eq_true_eq, decide_eq_false_iff_not] at hk
      · subst hk
        obtain ⟨z1, rfl⟩ := Hend rfl
        rw [getD_get hc'] at z1
        simp [g3, g4, g5, g6, g7, g9, hx5, hc', z1, w4]
        exact ⟨ts.length - (i + 1), by omega, i + 1, rfl, by omega, rfl, by simp [g3], by simp [g4], by simp [g5], by simp [g6], by simp [g7], by simp, by simp [hx5]⟩
      · obtain ⟨z1, z2, z3⟩ := Htx hk
        obtain ⟨e, he⟩ : ∃ e, e = p + tx.length := ⟨_, rfl⟩
        rw [← he] at z2 z3
        have w5 : IntKind.wrap .i64 ((p : Int) + tx.length) = (e : Int) := by rw [i64wrap (by omega)]; omega
        have c7 : ¬ (bs.length < e) := by omega
        have c8 : p ≤ e := by omega
        simp -implicitDefEqProofs [g3, g4, g5, g6, g7, g9, hx5, w4, w5, z1, z2, z3, c7, c8]
        exact ⟨ts.length - (i + 1), by omega, i + 1, rfl, by omega, rfl, by simp [g3], by simp [g4], by simp [g5], by simp [g6], by simp [g7], by simp, by simp [hx5]⟩
    · simp [g3, g4, g5, g6, g7, g9, hx5]
      refine (told_ok _).mono ?_
      rintro v h4 ⟨_, rfl⟩
      obtain ⟨p, hp, Hp⟩ := hat.2
      obtain ⟨q, s, e1, e2, e3, e4, e5, e6⟩ := hfq p hp _ _ Hp
      have c1 : (1 : Int) ≤ ln := by omega
      have c2 : ln ≤ (fm : Int) := by omega
      simp [callQ]
      intro _
      rcases hcode with rfl | rfl <;> simp [g3, g4, g5, g6, g7, g9, hx5, c1, c2, e6]
end Go.Proofs.Ytf
