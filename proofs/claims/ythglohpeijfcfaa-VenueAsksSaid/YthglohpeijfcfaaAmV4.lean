import Derived.Test.YthglohpeijfcfaaAmV3
set_option linter.unusedVariables false
set_option linter.unusedSimpArgs false
set_option linter.unusedSectionVars false
namespace Go.Proofs.Yth
open Go Go.Am
set_option maxRecDepth 20000
set_option maxHeartbeats 2000000
def killOK (l : List Int) (n : Int) (i : Nat) : Bool := match l[i]? with
  | some x => decide (0 ≤ x) && (decide (x < n) && (decide (i = 0) || (match l[i - 1]? with | some p => decide (p < x) | none => true)))
  | none => true
def killsOK (l : List Int) (n : Int) : Bool := (List.range l.length).all (killOK l n) && decide (l.length ≤ 200)
def J35 (s : Value) (l : List Int) (k : Int) (m : Nat) (h : Heap) (n : Nat) (σ : St) : Prop := ∃ i : Nat, n = m - i ∧ i ≤ m ∧ σ.m.h = h ∧ σ.t.get 0 = some s ∧ σ.t.get 1 = some (.int .i64 k) ∧ σ.t.get 7 = some s ∧ σ.t.get 8 = some (.int .i64 (m : Nat)) ∧ σ.t.get 9 = some (.int .i64 (i : Nat)) ∧ (List.range i).all (killOK l k) = true
theorem kills_ok (s : Value) (l : List Int) (k : Int) (hl : l.length ≤ 1073741824) (h : Heap) (hs : IntS h s l) : ACalls PP 35 [s, .int .i64 k] h (fun v h' => h' = h ∧ v = .bool (killsOK l k)) := by
  refine acalls_of_vc mix fn35 bodyEq35 rfl (by show 2 ≤ 38; decide) ok35 ?_
  simp only [body35, Try.f35]
  obtain ⟨ad, c, rfl⟩ := hs.shape
  obtain ⟨m, hm⟩ : ∃ m, m = l.length := ⟨_, rfl⟩
  rw [← hm] at hs ⊢
  simp -implicitDefEqProofs
  refine vc_loop (J35 (.slice ad m c) l k m h) _ ⟨0, rfl, by omega, rfl, by simp, by simp, by simp, by simp, by simp, rfl⟩ ?_
  rintro n ⟨T, ⟨x, H⟩⟩ ⟨i, rfl, hi, hH, g0, g1, g7, g8, g9, hall⟩
  simp at hH g0 g1 g7 g8 g9
  subst hH
  simp -implicitDefEqProofs [g0, g1, g7, g8, g9]
  refine condQ_of (fun hc => ?_) (fun hc => ?_) <;> simp only [decide_eq_true_eq, decide_eq_false_iff_not] at hc
  · have hil : i < m := by omega
    have hti : l[i]? = some l[i] := List.getElem?_eq_getElem (by omega)
    obtain ⟨_, b, o, wb, cs, r, rfl, hb, hd, hlc, _⟩ := hs.at 1 intC_len hti
    obtain ⟨t, ht⟩ : ∃ t, t = l[i] := ⟨_, rfl⟩
    rw [← ht] at hd hti
    have w1 : IntKind.wrap .i64 ((i : Int) + 1) = ((i + 1 : Nat) : Int) := by rw [i64wrap (by omega)]; omega
    have hlc' : o + i + 1 ≤ cs.length := by omega
    rw [Nat.mul_one] at hd
    have fin : killOK l k i = false → killsOK l k = false := fun hp => by unfold killsOK; rw [all_false (by omega) hp]; rfl
    by_cases h1 : t < 0
    · have hp : killOK l k i = false := by simp [killOK, hti]; omega
      simp -implicitDefEqProofs [g0, g1, g7, g8, g9, hil, hb, hd, hlc', intC, h1, fin hp]
    · by_cases h2 : k ≤ t
      · have hp : killOK l k i = false := by simp [killOK, hti]; omega
        simp -implicitDefEqProofs [g0, g1, g7, g8, g9, hil, hb, hd, hlc', intC, h1, h2, fin hp]
      · by_cases h3 : i = 0
        · subst h3
          have hp : killOK l k 0 = true := by simp [killOK, hti]; omega
          simp only [Nat.add_zero] at hd hlc'
          simp -implicitDefEqProofs [g0, g1, g7, g8, g9, hil, hb, hd, hlc', intC, h1, h2]
          exact ⟨m - 1, by omega, 1, rfl, by omega, rfl, by simp [g0], by simp [g1], by simp [g7], by simp [g8], by simp [i64wrap], all_succ hall hp⟩
        · have hi1 : i - 1 < m := by omega
          have htp : l[i - 1]? = some l[i - 1] := List.getElem?_eq_getElem (by omega)
          obtain ⟨p, hp⟩ : ∃ p, p = l[i - 1] := ⟨_, rfl⟩
          rw [← hp] at htp
          obtain ⟨_, b', o', wb', cs', r', e1, hb', hd', hlc2, _⟩ := hs.at 1 intC_len htp
          simp only [Option.some.injEq, Addr.mk.injEq, and_true] at e1
          obtain ⟨rfl, rfl⟩ := e1
          rw [hb] at hb'
          simp only [Blk.row.injEq, true_and] at hb'
          obtain ⟨rfl, rfl⟩ := hb'
          obtain ⟨j, hj⟩ : ∃ j, j = i - 1 := ⟨_, rfl⟩
          rw [← hj, Nat.mul_one] at hd' hlc2
          have hjm : j < m := by omega
          have w2 : IntKind.wrap .i64 ((i : Int) - 1) = (j : Int) := by rw [i64wrap (by omega)]; omega
          have h0 : (0 : Int) < (i : Int) := by omega
          have h0' : 0 < i := by omega
          by_cases h4 : t ≤ p
          · have hp : killOK l k i = false := by simp [killOK, hti, htp, h3]; omega
            simp -implicitDefEqProofs [g0, g1, g7, g8, g9, hil, hb, hd, hlc', intC, h1, h2, h0, h0', h3, w2, hjm, hd', hlc2, h4, fin hp]
          · have hp : killOK l k i = true := by simp [killOK, hti, htp, h3]; omega
            simp -implicitDefEqProofs [g0, g1, g7, g8, g9, hil, hb, hd, hlc', intC, h1, h2, h0, h0', h3, w2, hjm, hd', hlc2, h4, w1]
            exact ⟨m - (i + 1), by omega, i + 1, rfl, by omega, rfl, by simp [g0], by simp [g1], by simp [g7], by simp [g8], by simp, all_succ hall hp⟩
  · have : i = m := by omega
    subst this
    rw [hm] at hall
    have he : killsOK l k = decide (l.length ≤ 200) := by unfold killsOK; rw [hall]; rfl
    rw [he, ← hm]
    by_cases h2 : (i : Int) ≤ 200
    · have h2' : i ≤ 200 := by omega
      simp -implicitDefEqProofs [g0, g1, h2, h2']
    · have h2' : ¬ i ≤ 200 := by omega
      simp -implicitDefEqProofs [g0, g1, h2, h2']
def poleOK (p : PoleR) : Bool := inB p.x (-1048576) 1048576 && (inB p.y (-1048576) 1048576 && inB p.r 1 1048576)
def poleI (l : List PoleR) (i : Nat) : Bool := match l[i]? with
  | some p => poleOK p
  | none => true
def polesOK (l : List PoleR) : Bool := (List.range l.length).all (poleI l) && decide (l.length ≤ 200)
def J36 (s : Value) (l : List PoleR) (m : Nat) (h : Heap) (n : Nat) (σ : St) : Prop := ∃ i : Nat, n = m - i ∧ i ≤ m ∧ σ.m.h = h ∧ σ.t.get 0 = some s ∧ σ.t.get 5 = some s ∧ σ.t.get 6 = some (.int .i64 (m : Nat)) ∧ σ.t.get 7 = some (.int .i64 (i : Nat)) ∧ (List.range i).all (poleI l) = true
theorem poles_ok (s : Value) (l : List PoleR) (hl : l.length ≤ 1073741824) (h : Heap) (hs : PoleS h s l) : ACalls PP 36 [s] h (fun v h' => h' = h ∧ v = .bool (polesOK l)) := by
  refine acalls_of_vc mix fn36 bodyEq36 rfl (by show 1 ≤ 31; decide) ok36 ?_
  simp only [body36, Try.f36]
  obtain ⟨ad, c, rfl⟩ := hs.shape
  obtain ⟨m, hm⟩ : ∃ m, m = l.length := ⟨_, rfl⟩
  rw [← hm] at hs ⊢
  simp -implicitDefEqProofs
  refine vc_loop (J36 (.slice ad m c) l m h) _ ⟨0, rfl, by omega, rfl, by simp, by simp, by simp, by simp, rfl⟩ ?_
  rintro n ⟨T, ⟨x, H⟩⟩ ⟨i, rfl, hi, hH, g0, g5, g6, g7, hall⟩
  simp at hH g0 g5 g6 g7
  subst hH
  simp -implicitDefEqProofs [g0, g5, g6, g7]
  refine condQ_of (fun hc => ?_) (fun hc => ?_) <;> simp only [decide_eq_true_eq, decide_eq_false_iff_not] at hc
  · have hil : i < m := by omega
    have hti : l[i]? = some l[i] := List.getElem?_eq_getElem (by omega)
    obtain ⟨_, b, o, wb, cs, r, rfl, hb, hd, hlc, _⟩ := hs.at 3 poleC_len hti
    obtain ⟨t, ht⟩ : ∃ t, t = l[i] := ⟨_, rfl⟩
    rw [← ht] at hd hti
    have w1 : IntKind.wrap .i64 ((i : Int) + 1) = ((i + 1 : Nat) : Int) := by rw [i64wrap (by omega)]; omega
    have hlc' : o + i * 3 + 3 ≤ cs.length := hlc
    have fin : poleI l i = false → polesOK l = false := fun hp => by unfold polesOK; rw [all_false (by omega) hp]; rfl
    simp -implicitDefEqProofs [g0, g5, g6, g7, hil, hb, hd, hlc', poleC]
    refine (coord_ok t.x H).mono ?_
    rintro v h' ⟨rfl, rfl⟩
    simp -implicitDefEqProofs [callQ]
    intro _
    by_cases h1 : inB t.x (-1048576) 1048576 = true
    · simp -implicitDefEqProofs [h1]
      refine (coord_ok t.y h').mono ?_
      rintro v h2 ⟨rfl, rfl⟩
      simp -implicitDefEqProofs [callQ]
      intro _
      by_cases h3 : inB t.y (-1048576) 1048576 = true
      · simp -implicitDefEqProofs [h3]
        refine (reach_ok t.r h2).mono ?_
        rintro v h4 ⟨rfl, rfl⟩
        simp -implicitDefEqProofs [callQ]
        intro _
        by_cases h5 : inB t.r 1 1048576 = true
        · have hp : poleI l i = true := by simp [poleI, hti, poleOK, h1, h3, h5]
          simp -implicitDefEqProofs [h5, g0, g5, g6, g7, w1]
          exact ⟨m - (i + 1), by omega, i + 1, rfl, by omega, rfl, by simp [g0], by simp [g5], by simp [g6], by simp, all_succ hall hp⟩
        · have hp : poleI l i = false := by simp [poleI, hti, poleOK, h1, h3, h5]
          simp -implicitDefEqProofs [h5, fin hp]
      · have hp : poleI l i = false := by simp [poleI, hti, poleOK, h1, h3]
        simp -implicitDefEqProofs [h3, fin hp]
    · have hp : poleI l i = false := by simp [poleI, hti, poleOK, h1]
      simp -implicitDefEqProofs [h1, fin hp]
  · have : i = m := by omega
    subst this
    rw [hm] at hall
    have he : polesOK l = decide (l.length ≤ 200) := by unfold polesOK; rw [hall]; rfl
    rw [he, ← hm]
    by_cases h2 : (i : Int) ≤ 200
    · have h2' : i ≤ 200 := by omega
      simp -implicitDefEqProofs [g0, h2, h2']
    · have h2' : ¬ i ≤ 200 := by omega
      simp -implicitDefEqProofs [g0, h2, h2']
/-! a venue -/
structure VenR where
  seats : List SeatR
  gap : Int
  radius : Int
  kills : List Int
  poles : List PoleR
/-- a venue's cells -/
def VenC (h : Heap) (v : VenR) (cs : List Value) : Prop := ∃ s k p, cs = [s, .int .i64 v.gap, .int .i64 v.radius, k, p] ∧ SeatS h s v.seats ∧ IntS h k v.kills ∧ PoleS h p v.poles
theorem VenC.ext {h h' : Heap} {v : VenR} {cs : List Value} (H : VenC h v cs) (E : Ext h h') : VenC h' v cs := by
  obtain ⟨s, k, p, rfl, h1, h2, h3⟩ := H
  exact ⟨s, k, p, rfl, h1.ext E, h2.ext E, h3.ext E⟩
def venSmall (v : VenR) : Prop := v.seats.length ≤ 1073741824 ∧ v.kills.length ≤ 1073741824 ∧ v.poles.length ≤ 1073741824
def wrongV (v : VenR) : List UInt8 :=
  if seatsOK v.seats = false then [115, 101, 97, 116, 115]
  else if inB v.gap 1 1048576 = false then [103, 97, 112]
  else if inB v.radius 0 1048576 = false then [114, 97, 100, 105, 117, 115]
  else if killsOK v.kills v.seats.length = false then [107, 105, 108, 108, 115]
  else if polesOK v.poles = false then [112, 111, 108, 101, 115]
  else []
theorem wrong_ok (v : VenR) (cs : List Value) (hv : venSmall v) (h : Heap) (H : VenC h v cs) : ACalls PP 13 [.agg ⟨cs⟩] h (fun r h' => h' = h ∧ r = .string (B (wrongV v))) := by
  refine acalls_of_vc mix fn13 bodyEq13 rfl (by show 1 ≤ 31; decide) ok13 ?_
  simp only [body13, Try.f13]
  obtain ⟨s, k, p, rfl, h1, h2, h3⟩ := H
  obtain ⟨ad1, c1, e1⟩ := h1.shape
  obtain ⟨ad2, c2, e2⟩ := h2.shape
  obtain ⟨ad3, c3, e3⟩ := h3.shape
  subst e1; subst e2; subst e3
  unfold wrongV
  simp -implicitDefEqProofs
  refine (seats_ok _ v.seats hv.1 h h1).mono ?_
  rintro r h' ⟨rfl, rfl⟩
  simp -implicitDefEqProofs [callQ]
  intro _
  by_cases q1 : seatsOK v.seats = true
  · simp -implicitDefEqProofs [q1]
    refine (reach_ok v.gap h').mono ?_
    rintro r h' ⟨rfl, rfl⟩
    simp -implicitDefEqProofs [callQ]
    intro _
    by_cases q2 : inB v.gap 1 1048576 = true
    · simp -implicitDefEqProofs [q2]
      refine (in_ok v.radius 0 1048576 h').mono ?_
      rintro r h' ⟨rfl, rfl⟩
      simp -implicitDefEqProofs [callQ]
      intro _
      by_cases q3 : inB v.radius 0 1048576 = true
      · simp -implicitDefEqProofs [q3]
        refine (kills_ok _ v.kills v.seats.length hv.2.1 h' h2).mono ?_
        rintro r h' ⟨rfl, rfl⟩
        simp -implicitDefEqProofs [callQ]
        intro _
        by_cases q4 : killsOK v.kills v.seats.length = true
        · simp -implicitDefEqProofs [q4]
          refine (poles_ok _ v.poles hv.2.2 h' h3).mono ?_
          rintro r h' ⟨rfl, rfl⟩
          simp -implicitDefEqProofs [callQ]
          intro _
          by_cases q5 : polesOK v.poles = true
          · simp -implicitDefEqProofs [q5]
          · simp -implicitDefEqProofs [q5]
        · simp -implicitDefEqProofs [q4]
      · simp -implicitDefEqProofs [q3]
    · simp -implicitDefEqProofs [q2]
  · simp -implicitDefEqProofs [q1]
def mayV (v : VenR) : Bool := decide (wrongV v = [])
theorem may_ok (v : VenR) (cs : List Value) (hv : venSmall v) (h : Heap) (H : VenC h v cs) : ACalls PP 15 [.agg ⟨cs⟩] h (fun r h' => h' = h ∧ r = .bool (mayV v)) := by
  refine acalls_of_vc mix fn15 bodyEq15 rfl (by show 1 ≤ 6; decide) ok15 ?_
  simp only [body15, Try.f15]
  have hw := wrong_ok v cs hv h H
  obtain ⟨s, k, p, rfl, h1, h2, h3⟩ := H
  simp -implicitDefEqProofs
  refine hw.mono ?_
  rintro r h' ⟨rfl, rfl⟩
  simp -implicitDefEqProofs [callQ, mayV]
end Go.Proofs.Yth
