import Derived.Test.YtfcllalhfcmfdaaAmTC
set_option linter.unusedVariables false
set_option linter.unusedSimpArgs false
set_option linter.unusedSectionVars false
namespace Go.Proofs.Ytf
open Go Go.Am
set_option maxRecDepth 20000
set_option linter.unusedSimpArgs false
set_option maxHeartbeats 2000000
def idB : List Nat → Nat → List Oper → Bool
  | [], _, [] => true
  | i :: r, k, o :: l => decide (i = k) && (clsN o.op && idB r (k + 1) l)
  | _, _, _ => false
theorem lget_pre (pre : List Oper) (o : Oper) (l : List Oper) : lget default (pre ++ o :: l) pre.length = o := by
  induction pre with
  | nil => rfl
  | cons a r ih => exact ih
theorem idB_ok : ∀ (perm : List Nat) (k : Nat) (l pre : List Oper), pre.length = k → idB perm k l = true → perm.map (lget default (pre ++ l)) = l ∧ perm.all (fun i => clsN (lget default (pre ++ l) i).op) = true := by
  intro perm
  induction perm with
  | nil => intro k l pre hk h; cases l with
    | nil => exact ⟨rfl, rfl⟩
    | cons o l => simp [idB] at h
  | cons i r ih => intro k l pre hk h; cases l with
    | nil => simp [idB] at h
    | cons o l =>
      simp only [idB, Bool.and_eq_true, decide_eq_true_eq] at h
      obtain ⟨rfl, h2, h3⟩ := h
      have := ih (i + 1) l (pre ++ [o]) (by simp [hk]) h3
      rw [List.append_assoc] at this
      have e : lget default (pre ++ o :: l) i = o := by rw [← hk]; exact lget_pre pre o l
      refine ⟨?_, ?_⟩
      · rw [List.map_cons, e]; congr 1; exact this.1
      · rw [List.all_cons, e, h2]; exact this.2
theorem vc_id {P : Program} {cfg : Cfg} {Q : Ex → St → Prop} {σ : St} (id : Nat) (l : List Oper) (h : idB (cfg.draw id).perm 0 l = true) : vc P cfg (.region id l.toArray true) Q σ = vcOps P cfg.loc l.toArray (regQ Q cfg id) l (enterD (pendL P l.toArray (cfg.draw id)) σ) := by
  obtain ⟨h1, h2⟩ := idB_ok (cfg.draw id).perm 0 l [] rfl h
  simp only [List.nil_append] at h1 h2
  rw [vc_draw', if_pos h2, h1]
attribute [local simp] idB
attribute [local simp ↓ high] vc_id
def J5 (ad : Option Addr) (c : Nat) (ts : List Tok) (cd : Int) (h : Heap) (n : Nat) (σ : St) : Prop := ∃ p : Nat, n = ts.length - p ∧ p ≤ ts.length ∧ σ.m.h = h ∧
  σ.t.get 4 = some (.slice ad ts.length c) ∧ σ.t.get 6 = some (.int .i64 cd) ∧ σ.t.get 7 = some (.int .i64 (p : Nat)) ∧ σ.t.get 8 = some (.int .i64 ((endsN (ts.take p) : Nat) : Int)) ∧ σ.t.get 9 = some (.int .i64 (p : Nat))
def J5i (ad ad4 : Option Addr) (c4 : Nat) (ts : List Tok) (m p nx : Nat) (cd : Int) (h : Heap) (n : Nat) (σ : St) : Prop := ∃ i : Nat, n = m - i ∧ i ≤ m ∧ σ.m.h = h ∧
  σ.t.get 4 = some (.slice ad ts.length ts.length) ∧ σ.t.get 6 = some (.int .i64 cd) ∧ σ.t.get 7 = some (.int .i64 (p : Nat)) ∧ σ.t.get 8 = some (.int .i64 ((endsN (ts.take p) : Nat) : Int)) ∧ σ.t.get 9 = some (.int .i64 (p : Nat)) ∧
  σ.t.get 10 = some (.slice ad4 m c4) ∧ σ.t.get 11 = some (.int .i64 (nx : Nat)) ∧ σ.t.get 12 = some (.int .i64 (i : Nat))
theorem lines_ok (s : Value) (l : List Int) (hl : l.length ≤ 1152921504606846976) (h : Heap) (hs : IntsA h s l) : ACalls PP 5 [s] h (fun v _ => v = .bool true) := by
  refine acalls_of_vc mix fn5 bodyEq5 rfl (by show 1 ≤ 108; decide) ok5 ?_
  simp only [body5, Try.f5]
  have hnl : noLoc s = true := by obtain ⟨ad, c, rfl, _⟩ := hs; rfl
  have htx := text_ok s l 25 (by omega) hl h hs
  obtain ⟨ad0, c0, rfl, hz0⟩ := hs
  simp
  refine htx.mono ?_
  rintro v h1 ⟨E1, rfl⟩
  obtain ⟨bs, hbs⟩ : ∃ bs, bs = textL (l.take 25) := ⟨_, rfl⟩
  have hbl : bs.length ≤ 500 := by have := textL_len (l.take 25); rw [← hbs, List.length_take] at this; omega
  rw [← hbs]
  simp [callQ]
  intro _
  refine (all_ok bs (by omega) h1).mono ?_
  rintro v h2 ⟨E2, s, hs, rfl⟩
  have hcode : (allV bs).code = 0 ∨ (allV bs).code = 2 := allL_code bs _ _ _ _
  have hline : ∀ (i : Nat) (t : Tok), (allV bs).ts[i]? = some t → t.line = (1 : Int) + ((endsN ((allV bs).ts.take i) : Nat) : Int) := fun i t ht => allL_line bs _ _ _ _ i t ht
  have htl : (allV bs).ts.length ≤ 501 := by have := allL_len bs (bs.length + 1) 0 1 1; unfold allV; omega
  obtain ⟨ts, hts⟩ : ∃ ts, ts = (allV bs).ts := ⟨_, rfl⟩
  obtain ⟨cd, hcd⟩ : ∃ cd, cd = (allV bs).code := ⟨_, rfl⟩
  rw [← hts] at hs hline htl
  rw [← hcd] at hcode ⊢
  have hs1 := hs.tokS
  obtain ⟨ad, rfl, hz⟩ := hs
  simp [callQ, spotV]
  intro _
  refine vc_loop (J5 ad ts.length ts cd h2) _ ⟨0, rfl, by omega, rfl, by simp, by simp, by simp, by simp [endsN], by simp⟩ ?_
  rintro n ⟨T, ⟨x, H⟩⟩ ⟨p, rfl, hp, rfl, g4, g6, g7, g8, g9⟩
  simp at g4 g6 g7 g8 g9 hs1
  simp [g4, g6, g7, g8, g9]
  refine condQ_of (fun hc => ?_) (fun hc => ?_) <;> simp only [decide_eq_true_eq, decide_eq_false_iff_not] at hc
  · have hpl : p < ts.length := by omega
    simp [g4, g6, g7, g8, g9]
    refine (line_ok _ ts p hpl (by omega) H hs1).mono ?_
    rintro v h3 ⟨rfl, s4, hs4, rfl⟩
    obtain ⟨m, hm⟩ : ∃ m, m = lineN (ts.drop p) := ⟨_, rfl⟩
    have hmle : p + m ≤ ts.length := by have := lineN_le (ts.drop p); rw [List.length_drop] at this; omega
    rw [← hm] at hs4 ⊢
    obtain ⟨xs, hxs⟩ : ∃ xs, xs = (ts.take (p + m)).drop p := ⟨_, rfl⟩
    have hxl : xs.length = m := by rw [hxs, List.length_drop, List.length_take]; omega
    have hxg : ∀ i, i < m → xs[i]? = ts[p + i]? := fun i hi => by rw [hxs, List.getElem?_drop, List.getElem?_take, if_pos (by omega)]
    rw [← hxs] at hs4
    obtain ⟨nx, hnx⟩ : ∃ nx : Nat, nx = if p + m < ts.length then p + m + 1 else ts.length := ⟨_, rfl⟩
    rw [← hnx]
    have hnx1 : p < nx ∧ p + m ≤ nx ∧ nx ≤ ts.length := by split at hnx <;> omega
    have hs5 := hs4
    obtain ⟨ad4, c4, rfl, _⟩ := hs4
    rw [hxl] at hs5
    obtain ⟨d, hd⟩ : ∃ d : Nat, d = nx - p := ⟨_, rfl⟩
    have w1 : IntKind.wrap .i64 ((nx : Int) - p) = (d : Int) := by rw [i64wrap (by omega)]; omega
    have q1 : ¬ nx ≤ p := by omega
    have q2 : ¬ d < m := by omega
    simp [callQ, g4, g6, g7, g8, g9, hxl, w1, q1, q2]
    intro _
    refine vc_loop (J5i ad ad4 c4 ts m p nx cd h3) _ ⟨0, rfl, by omega, rfl, by simp [g4], by simp [g6], by simp [g7], by simp [g8], by simp [g9], by simp [hxl], by simp, by simp⟩ ?_
    rintro n ⟨T, ⟨x, H⟩⟩ ⟨i, rfl, hi, hH, g4, g6, g7, g8, g9, g10, g11, g12⟩
    simp at g4 g6 g7 g8 g9 g10 g11 g12 hH
    subst hH
    simp [g4, g6, g7, g8, g9, g10, g11, g12]
    refine condQ_of (fun hc => ?_) (fun hc => ?_) <;> simp only [decide_eq_true_eq, decide_eq_false_iff_not] at hc
    · have him : i < m := by omega
      have hpi : p + i < ts.length := by omega
      have hti : ts[p + i]? = some ts[p + i] := List.getElem?_eq_getElem hpi
      have hxi : xs[i]? = some ts[p + i] := by rw [hxg i him, hti]
      obtain ⟨_, b1, o1, wb1, cs1, r1, rfl, hb1, hd1, hl1, _⟩ := hs1.at hti
      obtain ⟨_, b2, o2, wb2, cs2, r2, rfl, hb2, hd2, hl2, _⟩ := hs5.at hxi
      have hk : ts[p + i].kind ≠ 3 := line_kind ts p i (by omega) hpi
      have hln := hline (p + i) _ hti
      rw [endsN_line ts p i (by omega)] at hln
      obtain ⟨t, ht⟩ : ∃ t, t = ts[p + i] := ⟨_, rfl⟩
      rw [← ht] at hk hln hd1 hd2
      obtain ⟨q, hq⟩ : ∃ q, q = p + i := ⟨_, rfl⟩
      have w2 : IntKind.wrap .i64 ((p : Int) + i) = (q : Int) := by rw [i64wrap (by omega)]; omega
      have w3 : IntKind.wrap .i64 ((i : Int) + 1) = ((i + 1 : Nat) : Int) := by rw [i64wrap (by omega)]; omega
      have b1 : o1 + q * 5 + 5 ≤ cs1.length := by rw [hq]; exact hl1
      have b2 : o2 + i * 5 + 5 ≤ cs2.length := hl2
      have b3 : o2 + i * 5 + 1 ≤ cs2.length := by omega
      have b4 : o2 + i * 5 + 2 + 1 ≤ cs2.length := by omega
      have d4 : List.drop (o2 + i * 5 + 2) cs2 = .int .i64 t.line :: .int .i64 t.col :: .string (B t.text) :: r2 := by
        rw [← List.drop_drop, hd2]; rfl
      have w4 : IntKind.wrap .i64 (((endsN (ts.take p) : Nat) : Int) + 1) = t.line := by rw [i64wrap (by have := endsN_le (ts.take p); rw [List.length_take] at this; omega), hln]; omega
      have hql : q < ts.length := by omega
      rw [← hq] at hd1
      clear hln hcode hline hxi hti
      simp -implicitDefEqProofs [g4, g6, g7, g8, g9, g10, g11, g12, him, hql, w2, w3, hb1, hb2, hd1, hd2, tokC, hk, b1, b2, b3, b4, d4, w4]
      exact ⟨m - (i + 1), by omega, i + 1, rfl, by omega, rfl, by simp [g4], by simp [g6], by simp [g7], by simp [g8], by simp [g9], by simp [g10], by simp [g11], by simp⟩
    · have him : i = m := by omega
      subst him
      have w5 : IntKind.wrap .i64 ((p : Int) + i) = ((p + i : Nat) : Int) := by rw [i64wrap (by omega)]; omega
      simp [g4, g6, g7, g8, g9, g10, g11, g12]
      obtain ⟨q, hq⟩ : ∃ q : Nat, q = p + i := ⟨_, rfl⟩
      have w2 : IntKind.wrap .i64 ((p : Int) + i) = (q : Int) := by rw [w5, hq]
      simp [w2]
      refine condQ_of (fun hz => ?_) (fun hz => ?_) <;> simp only [decide_eq_true_eq, decide_eq_false_iff_not] at hz
      · have hlt : p + i < ts.length := by omega
        rw [if_pos hlt] at hnx
        have he := endsN_next ts p i hm hlt
        have w3 : IntKind.wrap .i64 ((q : Int) + 1) = (nx : Int) := by rw [i64wrap (by omega)]; omega
        have w4 : IntKind.wrap .i64 (((endsN (ts.take p) : Nat) : Int) + 1) = ((endsN (ts.take nx) : Nat) : Int) := by rw [i64wrap (by have := endsN_le (ts.take p); rw [List.length_take] at this; omega), hnx, he]; omega
        simp [g4, g6, g8, g11, w3, w4]
        exact ⟨ts.length - nx, by omega, nx, rfl, by omega, rfl, by simp [g4], by simp [g6], by simp, by simp, by simp [g11]⟩
      · have hge : ¬ p + i < ts.length := by omega
        rw [if_neg hge] at hnx
        have hqn : q = nx := by omega
        have he : endsN (ts.take nx) = endsN (ts.take p) := by
          have := endsN_line ts p i (by omega)
          rw [← this]; congr 2; omega
        subst hqn
        simp [g4, g6, g8, g11]
        exact ⟨ts.length - q, by omega, q, rfl, by omega, rfl, by simp [g4], by simp [g6], by simp, by simp [he], by simp [g11]⟩
  · have hpe : p = ts.length := by omega
    subst hpe
    simp [g4, g6, g7, g8, g9]
    refine (told_ok H).mono ?_
    rintro v h4 ⟨_, rfl⟩
    simp [callQ]
    intro _
    rcases hcode with rfl | rfl <;> simp
end Go.Proofs.Ytf
