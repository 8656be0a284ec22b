import Derived.Test.YthglohpeijfcfaaAmVe
set_option linter.unusedVariables false
set_option linter.unusedSimpArgs false
set_option linter.unusedSectionVars false
namespace Go.Proofs.Yth
open Go Go.Am
set_option maxRecDepth 20000
set_option maxHeartbeats 2000000
theorem few_ok (v : VenR) (cs : List Value) (h : Heap) (H : VenC h v cs) : ACalls PP 9 [.agg ⟨cs⟩] h (fun r h' => h' = h ∧ r = .bool (decide (v.seats.length ≤ 40) && (decide (v.kills.length ≤ 40) && decide (v.poles.length ≤ 40)))) := by
  refine acalls_of_vc mix fn9 bodyEq9 rfl (by show 1 ≤ 19; decide) ok9 ?_
  simp only [body9, Try.f9]
  obtain ⟨s, k, p, rfl, h1, h2, h3⟩ := H
  obtain ⟨ad1, c1, e1⟩ := h1.shape
  obtain ⟨ad2, c2, e2⟩ := h2.shape
  obtain ⟨ad3, c3, e3⟩ := h3.shape
  subst e1; subst e2; subst e3
  by_cases q1 : v.seats.length ≤ 40
  · have q1' : (v.seats.length : Int) ≤ 40 := by omega
    by_cases q2 : v.kills.length ≤ 40
    · have q2' : (v.kills.length : Int) ≤ 40 := by omega
      by_cases q3 : v.poles.length ≤ 40
      · have q3' : (v.poles.length : Int) ≤ 40 := by omega
        simp -implicitDefEqProofs [q1, q1', q2, q2', q3, q3']
      · have q3' : ¬ (v.poles.length : Int) ≤ 40 := by omega
        simp -implicitDefEqProofs [q1, q1', q2, q2', q3, q3']
    · have q2' : ¬ (v.kills.length : Int) ≤ 40 := by omega
      simp -implicitDefEqProofs [q1, q1', q2, q2']
  · have q1' : ¬ (v.seats.length : Int) ≤ 40 := by omega
    simp -implicitDefEqProofs [q1, q1']
theorem rless_ok (a b : SeatR) (h : Heap) : ACalls PP 29 [seatV a, seatV b] h (fun v h' => h' = h ∧ v = .bool (lessS a b)) := by
  refine acalls_of_vc mix fn29 bodyEq29 rfl (by show 2 ≤ 24; decide) ok29 ?_
  simp only [body29, Try.f29]
  unfold lessS
  by_cases h1 : a.row < b.row
  · simp -implicitDefEqProofs [seatV, seatC, h1]
  · by_cases h2 : a.row = b.row
    · simp -implicitDefEqProofs [seatV, seatC, h1, h2]
    · simp -implicitDefEqProofs [seatV, seatC, h1, h2]
theorem rin_ok (n lo hi : Int) (h : Heap) : ACalls PP 30 [.int .i64 n, .int .i64 lo, .int .i64 hi] h (fun v h' => h' = h ∧ v = .bool (inB n lo hi)) := by
  refine acalls_of_vc mix fn30 bodyEq30 rfl (by show 3 ≤ 15; decide) ok30 ?_
  simp only [body30, Try.f30]
  unfold inB
  by_cases h1 : lo ≤ n
  · simp -implicitDefEqProofs [h1]
  · simp -implicitDefEqProofs [h1]
theorem rcoord_ok (n : Int) (h : Heap) : ACalls PP 48 [.int .i64 n] h (fun v h' => h' = h ∧ v = .bool (inB n (-1048576) 1048576)) := by
  refine acalls_of_vc mix fn48 bodyEq48 rfl (by show 1 ≤ 5; decide) ok48 ?_
  simp only [body48, Try.f48]
  simp -implicitDefEqProofs
  refine (rin_ok n (-1048576) 1048576 h).mono ?_
  rintro v h' ⟨rfl, rfl⟩
  simp -implicitDefEqProofs [callQ]
def J37 (s : Value) (l : List SeatR) (m : Nat) (h : Heap) (n : Nat) (σ : St) : Prop := ∃ i : Nat, n = m - i ∧ i ≤ m ∧ σ.m.h = h ∧ σ.t.get 0 = some s ∧ σ.t.get 3 = some (.int .i64 (i : Nat)) ∧ (List.range i).all (pairOK l) = true
theorem rseats_ok (s : Value) (l : List SeatR) (hl : l.length ≤ 1073741824) (h : Heap) (hs : SeatS h s l) : ACalls PP 37 [s] h (fun v h' => h' = h ∧ v = .bool (seatsOK l)) := by
  refine acalls_of_vc mix fn37 bodyEq37 rfl (by show 1 ≤ 59; decide) ok37 ?_
  simp only [body37, Try.f37]
  obtain ⟨ad, c, rfl⟩ := hs.shape
  obtain ⟨m, hm⟩ : ∃ m, m = l.length := ⟨_, rfl⟩
  rw [← hm] at hs ⊢
  simp -implicitDefEqProofs
  refine vc_loop (J37 (.slice ad m c) l m h) _ ⟨0, rfl, by omega, rfl, by simp, by simp, rfl⟩ ?_
  rintro n ⟨T, ⟨x, H⟩⟩ ⟨i, rfl, hi, hH, g0, g3, hall⟩
  simp at hH g0 g3
  subst hH
  simp -implicitDefEqProofs [g0, g3]
  refine condQ_of (fun hc => ?_) (fun hc => ?_) <;> simp only [decide_eq_true_eq, decide_eq_false_iff_not] at hc
  · have hil : i < m := by omega
    have hti : l[i]? = some l[i] := List.getElem?_eq_getElem (by omega)
    obtain ⟨_, b, o, wb, cs, r, rfl, hb, hd, hlc, _⟩ := hs.at 4 seatC_len hti
    obtain ⟨t, ht⟩ : ∃ t, t = l[i] := ⟨_, rfl⟩
    rw [← ht] at hd hti
    have w1 : IntKind.wrap .i64 ((i : Int) + 1) = ((i + 1 : Nat) : Int) := by rw [i64wrap (by omega)]; omega
    have hlc' : o + i * 4 + 4 ≤ cs.length := hlc
    have fin : pairOK l i = false → seatsOK l = false := fun hp => by unfold seatsOK; rw [all_false (by omega) hp]; rfl
    simp -implicitDefEqProofs [g0, g3, hil, hb, hd, hlc', seatC]
    refine (rin_ok t.row 0 999 H).mono ?_
    rintro v h' ⟨rfl, rfl⟩
    simp -implicitDefEqProofs [callP]
    intro _
    by_cases q1 : inB t.row 0 999 = true
    rotate_left
    · have hp : pairOK l i = false := by simp [pairOK, hti, seatOK, q1]
      simp -implicitDefEqProofs [q1, fin hp]
    simp -implicitDefEqProofs [q1]
    refine (rcoord_ok t.x h').mono ?_
    rintro v h' ⟨rfl, rfl⟩
    simp -implicitDefEqProofs [callP]
    intro _
    by_cases q2 : inB t.x (-1048576) 1048576 = true
    rotate_left
    · have hp : pairOK l i = false := by simp [pairOK, hti, seatOK, q2]
      simp -implicitDefEqProofs [q2, fin hp]
    simp -implicitDefEqProofs [q2]
    refine (rcoord_ok t.y h').mono ?_
    rintro v h' ⟨rfl, rfl⟩
    simp -implicitDefEqProofs [callP]
    intro _
    by_cases q3 : inB t.y (-1048576) 1048576 = true
    rotate_left
    · have hp : pairOK l i = false := by simp [pairOK, hti, seatOK, q3]
      simp -implicitDefEqProofs [q3, fin hp]
    simp -implicitDefEqProofs [q3]
    refine (rin_ok t.kind 0 2 h').mono ?_
    rintro v h' ⟨rfl, rfl⟩
    simp -implicitDefEqProofs [callP]
    intro _
    by_cases q4 : inB t.kind 0 2 = true
    rotate_left
    · have hp : pairOK l i = false := by simp [pairOK, hti, seatOK, q4]
      simp -implicitDefEqProofs [q4, fin hp]
    have h1 : seatOK t = true := by simp [seatOK, q1, q2, q3, q4]
    by_cases h2 : i = 0
    · subst h2
      have hp : pairOK l 0 = true := by simp [pairOK, hti, h1]
      simp -implicitDefEqProofs [q4, g0, g3]
      exact ⟨m - 1, by omega, 1, rfl, by omega, rfl, by simp [g0], by simp [i64wrap], all_succ hall hp⟩
    · have hi1 : i - 1 < m := by omega
      have htp : l[i - 1]? = some l[i - 1] := List.getElem?_eq_getElem (by omega)
      obtain ⟨p, hp⟩ : ∃ p, p = l[i - 1] := ⟨_, rfl⟩
      rw [← hp] at htp
      obtain ⟨_, b', o', wb', cs', r', e1, hb', hd', hlc2, _⟩ := hs.at 4 seatC_len htp
      simp only [Option.some.injEq, Addr.mk.injEq, and_true] at e1
      obtain ⟨rfl, rfl⟩ := e1
      rw [hb] at hb'
      simp only [Blk.row.injEq, true_and] at hb'
      obtain ⟨rfl, rfl⟩ := hb'
      obtain ⟨j, hj⟩ : ∃ j, j = i - 1 := ⟨_, rfl⟩
      rw [← hj] at hd' hlc2 hi1
      have w2 : IntKind.wrap .i64 ((i : Int) - 1) = (j : Int) := by rw [i64wrap (by omega)]; omega
      have h0 : (0 : Int) < (i : Int) := by omega
      have hlc3 : o + j * 4 + 4 ≤ cs.length := hlc2
      simp -implicitDefEqProofs [q4, h0, h2, w2, hi1, hb, hd', hlc3, seatC, show 0 < i by omega, g0, g3]
      refine (rless_ok p t h').mono ?_
      rintro v h'' ⟨rfl, rfl⟩
      simp -implicitDefEqProofs [callP]
      intro _
      by_cases h3 : lessS p t = true
      · have hp : pairOK l i = true := by simp [pairOK, hti, h1, htp, h3]
        simp -implicitDefEqProofs [h3, g0, g3, w1]
        exact ⟨m - (i + 1), by omega, i + 1, rfl, by omega, rfl, by simp [g0], by simp, all_succ hall hp⟩
      · have hp : pairOK l i = false := by simp [pairOK, hti, h1, htp, h3, h2]
        simp -implicitDefEqProofs [h3, fin hp]
  · have : i = m := by omega
    subst this
    rw [hm] at hall
    have he : seatsOK l = (decide (0 < l.length) && decide (l.length ≤ 4096)) := by unfold seatsOK; rw [hall]; rfl
    rw [he, ← hm]
    by_cases h1 : 0 < i
    · have h1' : (1 : Int) ≤ (i : Int) := by omega
      by_cases h2 : (i : Int) ≤ 4096
      · have h2' : i ≤ 4096 := by omega
        simp -implicitDefEqProofs [g0, h1, h1', h2, h2']
      · have h2' : ¬ i ≤ 4096 := by omega
        simp -implicitDefEqProofs [g0, h1, h1', h2, h2']
    · have : i = 0 := by omega
      subst this
      simp -implicitDefEqProofs [g0]
def J38 (s : Value) (l : List Int) (k : Int) (m : Nat) (h : Heap) (n : Nat) (σ : St) : Prop := ∃ i : Nat, n = m - i ∧ i ≤ m ∧ σ.m.h = h ∧ σ.t.get 0 = some s ∧ σ.t.get 1 = some (.int .i64 k) ∧ σ.t.get 5 = some (.int .i64 (i : Nat)) ∧ (List.range i).all (killOK l k) = true
theorem rkills_ok (s : Value) (l : List Int) (k : Int) (hk : 0 ≤ k ∧ k ≤ 1073741824) (hl : l.length ≤ 1073741824) (h : Heap) (hs : IntS h s l) : ACalls PP 38 [s, .int .i64 k] h (fun v h' => h' = h ∧ v = .bool (killsOK l k)) := by
  refine acalls_of_vc mix fn38 bodyEq38 rfl (by show 2 ≤ 39; decide) ok38 ?_
  simp only [body38, Try.f38]
  obtain ⟨ad, c, rfl⟩ := hs.shape
  obtain ⟨m, hm⟩ : ∃ m, m = l.length := ⟨_, rfl⟩
  rw [← hm] at hs ⊢
  simp -implicitDefEqProofs
  refine vc_loop (J38 (.slice ad m c) l k m h) _ ⟨0, rfl, by omega, rfl, by simp, by simp, by simp, rfl⟩ ?_
  rintro n ⟨T, ⟨x, H⟩⟩ ⟨i, rfl, hi, hH, g0, g1, g5, hall⟩
  simp at hH g0 g1 g5
  subst hH
  simp -implicitDefEqProofs [g0, g1, g5]
  refine condQ_of (fun hc => ?_) (fun hc => ?_) <;> simp only [decide_eq_true_eq, decide_eq_false_iff_not] at hc
  · have hil : i < m := by omega
    have hti : l[i]? = some l[i] := List.getElem?_eq_getElem (by omega)
    obtain ⟨_, b, o, wb, cs, r, rfl, hb, hd, hlc, _⟩ := hs.at 1 intC_len hti
    obtain ⟨t, ht⟩ : ∃ t, t = l[i] := ⟨_, rfl⟩
    rw [← ht] at hd hti
    have w1 : IntKind.wrap .i64 ((i : Int) + 1) = ((i + 1 : Nat) : Int) := by rw [i64wrap (by omega)]; omega
    have hlc' : o + i + 1 ≤ cs.length := by omega
    rw [Nat.mul_one] at hd
    have fin : killOK l k i = false → killsOK l k = false := fun hp => by unfold killsOK; rw [all_false (by omega) hp]; rfl
    have w3 : IntKind.wrap .i64 (k - 1) = k - 1 := i64wrap (by omega)
    simp -implicitDefEqProofs [g0, g1, g5, hil, hb, hd, hlc', intC, w3]
    refine (rin_ok t 0 (k - 1) H).mono ?_
    rintro v h' ⟨rfl, rfl⟩
    simp -implicitDefEqProofs [callP]
    intro _
    by_cases q1 : inB t 0 (k - 1) = true
    rotate_left
    · have hp : killOK l k i = false := by
        simp only [inB, Bool.and_eq_true, decide_eq_true_eq] at q1
        simp [killOK, hti]; omega
      simp -implicitDefEqProofs [q1, fin hp]
    have q1' := q1
    simp only [inB, Bool.and_eq_true, decide_eq_true_eq] at q1'
    by_cases h3 : i = 0
    · subst h3
      have hp : killOK l k 0 = true := by simp [killOK, hti]; omega
      simp -implicitDefEqProofs [q1, g0, g1, g5]
      exact ⟨m - 1, by omega, 1, rfl, by omega, rfl, by simp [g0], by simp [g1], by simp [i64wrap], all_succ hall hp⟩
    · have hi1 : i - 1 < m := by omega
      have htp : l[i - 1]? = some l[i - 1] := List.getElem?_eq_getElem (by omega)
      obtain ⟨p, hp⟩ : ∃ p, p = l[i - 1] := ⟨_, rfl⟩
      rw [← hp] at htp
      obtain ⟨_, b', o', wb', cs', r', e1, hb', hd', hlc2, _⟩ := hs.at 1 intC_len htp
      simp only [Option.some.injEq, Addr.mk.injEq, and_true] at e1
      obtain ⟨rfl, rfl⟩ := e1
      rw [hb] at hb'
      simp only [Blk.row.injEq, true_and] at hb'
      obtain ⟨rfl, rfl⟩ := hb'
      obtain ⟨j, hj⟩ : ∃ j, j = i - 1 := ⟨_, rfl⟩
      rw [← hj, Nat.mul_one] at hd' hlc2
      have hjm : j < m := by omega
      have w2 : IntKind.wrap .i64 ((i : Int) - 1) = (j : Int) := by rw [i64wrap (by omega)]; omega
      have h0 : (0 : Int) < (i : Int) := by omega
      have h0' : 0 < i := by omega
      by_cases h4 : t ≤ p
      · have hp : killOK l k i = false := by simp [killOK, hti, htp, h3]; omega
        simp -implicitDefEqProofs [q1, g0, g1, g5, hil, hb, hd, hlc', intC, h0, h0', h3, w2, hjm, hd', hlc2, h4, fin hp]
      · have hp : killOK l k i = true := by simp [killOK, hti, htp, h3]; omega
        simp -implicitDefEqProofs [q1, g0, g1, g5, hil, hb, hd, hlc', intC, h0, h0', h3, w2, hjm, hd', hlc2, h4, w1]
        exact ⟨m - (i + 1), by omega, i + 1, rfl, by omega, rfl, by simp [g0], by simp [g1], by simp, all_succ hall hp⟩
  · have : i = m := by omega
    subst this
    rw [hm] at hall
    have he : killsOK l k = decide (l.length ≤ 200) := by unfold killsOK; rw [hall]; rfl
    rw [he, ← hm]
    by_cases h2 : (i : Int) ≤ 200
    · have h2' : i ≤ 200 := by omega
      simp -implicitDefEqProofs [g0, h2, h2']
    · have h2' : ¬ i ≤ 200 := by omega
      simp -implicitDefEqProofs [g0, h2, h2']
def J39 (s : Value) (l : List PoleR) (m : Nat) (h : Heap) (n : Nat) (σ : St) : Prop := ∃ i : Nat, n = m - i ∧ i ≤ m ∧ σ.m.h = h ∧ σ.t.get 0 = some s ∧ σ.t.get 3 = some (.int .i64 (i : Nat)) ∧ (List.range i).all (poleI l) = true
theorem rpoles_ok (s : Value) (l : List PoleR) (hl : l.length ≤ 1073741824) (h : Heap) (hs : PoleS h s l) : ACalls PP 39 [s] h (fun v h' => h' = h ∧ v = .bool (polesOK l)) := by
  refine acalls_of_vc mix fn39 bodyEq39 rfl (by show 1 ≤ 38; decide) ok39 ?_
  simp only [body39, Try.f39]
  obtain ⟨ad, c, rfl⟩ := hs.shape
  obtain ⟨m, hm⟩ : ∃ m, m = l.length := ⟨_, rfl⟩
  rw [← hm] at hs ⊢
  simp -implicitDefEqProofs
  refine vc_loop (J39 (.slice ad m c) l m h) _ ⟨0, rfl, by omega, rfl, by simp, by simp, rfl⟩ ?_
  rintro n ⟨T, ⟨x, H⟩⟩ ⟨i, rfl, hi, hH, g0, g3, hall⟩
  simp at hH g0 g3
  subst hH
  simp -implicitDefEqProofs [g0, g3]
  refine condQ_of (fun hc => ?_) (fun hc => ?_) <;> simp only [decide_eq_true_eq, decide_eq_false_iff_not] at hc
  · have hil : i < m := by omega
    have hti : l[i]? = some l[i] := List.getElem?_eq_getElem (by omega)
    obtain ⟨_, b, o, wb, cs, r, rfl, hb, hd, hlc, _⟩ := hs.at 3 poleC_len hti
    obtain ⟨t, ht⟩ : ∃ t, t = l[i] := ⟨_, rfl⟩
    rw [← ht] at hd hti
    have w1 : IntKind.wrap .i64 ((i : Int) + 1) = ((i + 1 : Nat) : Int) := by rw [i64wrap (by omega)]; omega
    have hlc' : o + i * 3 + 3 ≤ cs.length := hlc
    have l1 : o + i * 3 + 1 ≤ cs.length := by omega
    have l2 : o + i * 3 + 1 + 1 ≤ cs.length := by omega
    have l3 : o + i * 3 + 2 + 1 ≤ cs.length := by omega
    have d1 : (cs.drop (o + i * 3)).take 1 = [.int .i64 t.x] := by rw [hd]; rfl
    have d2 : (cs.drop (o + i * 3 + 1)).take 1 = [.int .i64 t.y] := by rw [← List.drop_drop, hd]; rfl
    have d3 : (cs.drop (o + i * 3 + 2)).take 1 = [.int .i64 t.r] := by rw [← List.drop_drop, hd]; rfl
    have fin : poleI l i = false → polesOK l = false := fun hp => by unfold polesOK; rw [all_false (by omega) hp]; rfl
    simp -implicitDefEqProofs [g0, g3, hil, hb, d1, l1]
    refine (rcoord_ok t.x H).mono ?_
    rintro v h' ⟨rfl, rfl⟩
    simp -implicitDefEqProofs [callQ]
    intro _
    by_cases h1 : inB t.x (-1048576) 1048576 = true
    · simp -implicitDefEqProofs [h1, g0, g3, hil, hb, d2, l2]
      refine (rcoord_ok t.y h').mono ?_
      rintro v h2 ⟨rfl, rfl⟩
      simp -implicitDefEqProofs [callQ]
      intro _
      by_cases h3 : inB t.y (-1048576) 1048576 = true
      · simp -implicitDefEqProofs [h3, g0, g3, hil, hb, d3, l3]
        refine (rin_ok t.r 1 1048576 h2).mono ?_
        rintro v h4 ⟨rfl, rfl⟩
        simp -implicitDefEqProofs [callQ]
        intro _
        by_cases h5 : inB t.r 1 1048576 = true
        · have hp : poleI l i = true := by simp [poleI, hti, poleOK, h1, h3, h5]
          simp -implicitDefEqProofs [h5, g0, g3, w1]
          exact ⟨m - (i + 1), by omega, i + 1, rfl, by omega, rfl, by simp [g0], by simp, all_succ hall hp⟩
        · have hp : poleI l i = false := by simp [poleI, hti, poleOK, h1, h3, h5]
          simp -implicitDefEqProofs [h5, fin hp]
      · have hp : poleI l i = false := by simp [poleI, hti, poleOK, h1, h3]
        simp -implicitDefEqProofs [h3, fin hp]
    · have hp : poleI l i = false := by simp [poleI, hti, poleOK, h1]
      simp -implicitDefEqProofs [h1, fin hp]
  · have : i = m := by omega
    subst this
    rw [hm] at hall
    have he : polesOK l = decide (l.length ≤ 200) := by unfold polesOK; rw [hall]; rfl
    rw [he, ← hm]
    by_cases h2 : (i : Int) ≤ 200
    · have h2' : i ≤ 200 := by omega
      simp -implicitDefEqProofs [g0, h2, h2']
    · have h2' : ¬ i ≤ 200 := by omega
      simp -implicitDefEqProofs [g0, h2, h2']
theorem rwrong_ok (v : VenR) (cs : List Value) (hv : venSmall v) (h : Heap) (H : VenC h v cs) : ACalls PP 14 [.agg ⟨cs⟩] h (fun r h' => h' = h ∧ r = .string (B (wrongV v))) := by
  refine acalls_of_vc mix fn14 bodyEq14 rfl (by show 1 ≤ 31; decide) ok14 ?_
  simp only [body14, Try.f14]
  obtain ⟨s, k, p, rfl, h1, h2, h3⟩ := H
  obtain ⟨ad1, c1, e1⟩ := h1.shape
  obtain ⟨ad2, c2, e2⟩ := h2.shape
  obtain ⟨ad3, c3, e3⟩ := h3.shape
  subst e1; subst e2; subst e3
  unfold wrongV
  simp -implicitDefEqProofs
  refine (rseats_ok _ v.seats hv.1 h h1).mono ?_
  rintro r h' ⟨rfl, rfl⟩
  simp -implicitDefEqProofs [callQ]
  intro _
  by_cases q1 : seatsOK v.seats = true
  · simp -implicitDefEqProofs [q1]
    refine (rin_ok v.gap 1 1048576 h').mono ?_
    rintro r h' ⟨rfl, rfl⟩
    simp -implicitDefEqProofs [callQ]
    intro _
    by_cases q2 : inB v.gap 1 1048576 = true
    · simp -implicitDefEqProofs [q2]
      refine (rin_ok v.radius 0 1048576 h').mono ?_
      rintro r h' ⟨rfl, rfl⟩
      simp -implicitDefEqProofs [callQ]
      intro _
      by_cases q3 : inB v.radius 0 1048576 = true
      · simp -implicitDefEqProofs [q3]
        refine (rkills_ok _ v.kills v.seats.length (by have := hv.1; omega) hv.2.1 h' h2).mono ?_
        rintro r h' ⟨rfl, rfl⟩
        simp -implicitDefEqProofs [callQ]
        intro _
        by_cases q4 : killsOK v.kills v.seats.length = true
        · simp -implicitDefEqProofs [q4]
          refine (rpoles_ok _ v.poles hv.2.2 h' h3).mono ?_
          rintro r h' ⟨rfl, rfl⟩
          simp -implicitDefEqProofs [callQ]
          intro _
          by_cases q5 : polesOK v.poles = true
          · simp -implicitDefEqProofs [q5]
          · simp -implicitDefEqProofs [q5]
        · simp -implicitDefEqProofs [q4]
      · simp -implicitDefEqProofs [q3]
    · simp -implicitDefEqProofs [q2]
  · simp -implicitDefEqProofs [q1]
theorem rmay_ok (v : VenR) (cs : List Value) (hv : venSmall v) (h : Heap) (H : VenC h v cs) : ACalls PP 16 [.agg ⟨cs⟩] h (fun r h' => h' = h ∧ r = .bool (mayV v)) := by
  refine acalls_of_vc mix fn16 bodyEq16 rfl (by show 1 ≤ 6; decide) ok16 ?_
  simp only [body16, Try.f16]
  have hw := rwrong_ok v cs hv h H
  obtain ⟨s, k, p, rfl, h1, h2, h3⟩ := H
  simp -implicitDefEqProofs
  refine hw.mono ?_
  rintro r h' ⟨rfl, rfl⟩
  simp -implicitDefEqProofs [callQ, mayV]
end Go.Proofs.Yth
