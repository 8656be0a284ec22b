import Derived.Test.YthglohpeijfcfaaGreatDoorMg
import Derived.Shelf.Slices.CompactI
set_option linter.unusedVariables false
set_option linter.unusedSimpArgs false
set_option linter.unusedSectionVars false
set_option linter.constructorNameAsVariable false
namespace Go.Proofs.Yph.V
open Go Go.Am
set_option maxRecDepth 20000
set_option maxHeartbeats 2000000
theorem rless_ok (a b : SeatR) (h : Heap) : ACalls PP 64 [seatV a, seatV b] h (fun v h' => h' = h ∧ v = .bool (lessS a b)) := by
  refine acalls_of_vc mix fn64 bodyEq64 rfl (by show 2 ≤ 24; decide) ok64 ?_
  simp only [body64, Tryz.f64]
  unfold lessS
  by_cases h1 : a.row < b.row
  · simp -implicitDefEqProofs [seatV, seatC, h1]
  · by_cases h2 : a.row = b.row
    · simp -implicitDefEqProofs [seatV, seatC, h1, h2]
    · simp -implicitDefEqProofs [seatV, seatC, h1, h2]
theorem rin_ok (n lo hi : Int) (h : Heap) : ACalls PP 65 [.int .i64 n, .int .i64 lo, .int .i64 hi] h (fun v h' => h' = h ∧ v = .bool (inB n lo hi)) := by
  refine acalls_of_vc mix fn65 bodyEq65 rfl (by show 3 ≤ 15; decide) ok65 ?_
  simp only [body65, Tryz.f65]
  unfold inB
  by_cases h1 : lo ≤ n
  · simp -implicitDefEqProofs [h1]
  · simp -implicitDefEqProofs [h1]
theorem rcoord_ok (n : Int) (h : Heap) : ACalls PP 92 [.int .i64 n] h (fun v h' => h' = h ∧ v = .bool (inB n (-1048576) 1048576)) := by
  refine acalls_of_vc mix fn92 bodyEq92 rfl (by show 1 ≤ 5; decide) ok92 ?_
  simp only [body92, Tryz.f92]
  simp -implicitDefEqProofs
  refine (rin_ok n (-1048576) 1048576 h).mono ?_
  rintro v h' ⟨rfl, rfl⟩
  simp -implicitDefEqProofs [callQ]
def J37 (s : Value) (l : List SeatR) (m : Nat) (h : Heap) (n : Nat) (σ : St) : Prop := ∃ i : Nat, n = m - i ∧ i ≤ m ∧ σ.m.h = h ∧ σ.t.get 0 = some s ∧ σ.t.get 3 = some (.int .i64 (i : Nat)) ∧ (List.range i).all (pairOK l) = true
theorem rseats_ok (s : Value) (l : List SeatR) (hl : l.length ≤ 1073741824) (h : Heap) (hs : SeatS h s l) : ACalls PP 67 [s] h (fun v h' => h' = h ∧ v = .bool (seatsOK l)) := by
  refine acalls_of_vc mix fn67 bodyEq67 rfl (by show 1 ≤ 59; decide) ok67 ?_
  simp only [body67, Tryz.f67]
  obtain ⟨ad, c, rfl⟩ := hs.shape
  obtain ⟨m, hm⟩ : ∃ m, m = l.length := ⟨_, rfl⟩
  rw [← hm] at hs ⊢
  simp -implicitDefEqProofs
  refine vc_loop (J37 (.slice ad m c) l m h) _ ⟨0, rfl, by omega, rfl, by simp, by simp, rfl⟩ ?_
  rintro n ⟨T, ⟨x, H⟩⟩ ⟨i, rfl, hi, hH, g0, g3, hall⟩
  simp at hH g0 g3
  subst hH
  simp -implicitDefEqProofs [g0, g3]
  refine condQ_of (fun hc => ?_) (fun hc => ?_) <;> simp only [decide_eq_true_eq, decide_eq_false_iff_not] at hc
  · have hil : i < m := by omega
    have hti : l[i]? = some l[i] := List.getElem?_eq_getElem (by omega)
    obtain ⟨_, b, o, wb, cs, r, rfl, hb, hd, hlc, _⟩ := hs.at 4 seatC_len hti
    obtain ⟨t, ht⟩ : ∃ t, t = l[i] := ⟨_, rfl⟩
    rw [← ht] at hd hti
    have w1 : IntKind.wrap .i64 ((i : Int) + 1) = ((i + 1 : Nat) : Int) := by rw [i64wrap (by omega)]; omega
    have hlc' : o + i * 4 + 4 ≤ cs.length := hlc
    have fin : pairOK l i = false → seatsOK l = false := fun hp => by unfold seatsOK; rw [all_false (by omega) hp]; rfl
    simp -implicitDefEqProofs [g0, g3, hil, hb, hd, hlc', seatC]
    refine (rin_ok t.row 0 999 H).mono ?_
    rintro v h' ⟨rfl, rfl⟩
    simp -implicitDefEqProofs [callP]
    intro _
    by_cases q1 : inB t.row 0 999 = true
    rotate_left
    · have hp : pairOK l i = false := by simp [pairOK, hti, seatOK, q1]
      simp -implicitDefEqProofs [q1, fin hp]
    simp -implicitDefEqProofs [q1]
    refine (rcoord_ok t.x h').mono ?_
    rintro v h' ⟨rfl, rfl⟩
    simp -implicitDefEqProofs [callP]
    intro _
    by_cases q2 : inB t.x (-1048576) 1048576 = true
    rotate_left
    · have hp : pairOK l i = false := by simp [pairOK, hti, seatOK, q2]
      simp -implicitDefEqProofs [q2, fin hp]
    simp -implicitDefEqProofs [q2]
    refine (rcoord_ok t.y h').mono ?_
    rintro v h' ⟨rfl, rfl⟩
    simp -implicitDefEqProofs [callP]
    intro _
    by_cases q3 : inB t.y (-1048576) 1048576 = true
    rotate_left
    · have hp : pairOK l i = false := by simp [pairOK, hti, seatOK, q3]
      simp -implicitDefEqProofs [q3, fin hp]
    simp -implicitDefEqProofs [q3]
    refine (rin_ok t.kind 0 2 h').mono ?_
    rintro v h' ⟨rfl, rfl⟩
    simp -implicitDefEqProofs [callP]
    intro _
    by_cases q4 : inB t.kind 0 2 = true
    rotate_left
    · have hp : pairOK l i = false := by simp [pairOK, hti, seatOK, q4]
      simp -implicitDefEqProofs [q4, fin hp]
    have h1 : seatOK t = true := by simp [seatOK, q1, q2, q3, q4]
    by_cases h2 : i = 0
    · subst h2
      have hp : pairOK l 0 = true := by simp [pairOK, hti, h1]
      simp -implicitDefEqProofs [q4, g0, g3]
      exact ⟨m - 1, by omega, 1, rfl, by omega, rfl, by simp [g0], by simp [i64wrap], all_succ hall hp⟩
    · have hi1 : i - 1 < m := by omega
      have htp : l[i - 1]? = some l[i - 1] := List.getElem?_eq_getElem (by omega)
      obtain ⟨p, hp⟩ : ∃ p, p = l[i - 1] := ⟨_, rfl⟩
      rw [← hp] at htp
      obtain ⟨_, b', o', wb', cs', r', e1, hb', hd', hlc2, _⟩ := hs.at 4 seatC_len htp
      simp only [Option.some.injEq, Addr.mk.injEq, and_true] at e1
      obtain ⟨rfl, rfl⟩ := e1
      rw [hb] at hb'
      simp only [Blk.row.injEq, true_and] at hb'
      obtain ⟨rfl, rfl⟩ := hb'
      obtain ⟨j, hj⟩ : ∃ j, j = i - 1 := ⟨_, rfl⟩
      rw [← hj] at hd' hlc2 hi1
      have w2 : IntKind.wrap .i64 ((i : Int) - 1) = (j : Int) := by rw [i64wrap (by omega)]; omega
      have h0 : (0 : Int) < (i : Int) := by omega
      have hlc3 : o + j * 4 + 4 ≤ cs.length := hlc2
      simp -implicitDefEqProofs [q4, h0, h2, w2, hi1, hb, hd', hlc3, seatC, show 0 < i by omega, g0, g3]
      refine (rless_ok p t h').mono ?_
      rintro v h'' ⟨rfl, rfl⟩
      simp -implicitDefEqProofs [callP]
      intro _
      by_cases h3 : lessS p t = true
      · have hp : pairOK l i = true := by simp [pairOK, hti, h1, htp, h3]
        simp -implicitDefEqProofs [h3, g0, g3, w1]
        exact ⟨m - (i + 1), by omega, i + 1, rfl, by omega, rfl, by simp [g0], by simp, all_succ hall hp⟩
      · have hp : pairOK l i = false := by simp [pairOK, hti, h1, htp, h3, h2]
        simp -implicitDefEqProofs [h3, fin hp]
  · have : i = m := by omega
    subst this
    rw [hm] at hall
    have he : seatsOK l = (decide (0 < l.length) && decide (l.length ≤ 4096)) := by unfold seatsOK; rw [hall]; rfl
    rw [he, ← hm]
    by_cases h1 : 0 < i
    · have h1' : (1 : Int) ≤ (i : Int) := by omega
      by_cases h2 : (i : Int) ≤ 4096
      · have h2' : i ≤ 4096 := by omega
        simp -implicitDefEqProofs [g0, h1, h1', h2, h2']
      · have h2' : ¬ i ≤ 4096 := by omega
        simp -implicitDefEqProofs [g0, h1, h1', h2, h2']
    · have : i = 0 := by omega
      subst this
      simp -implicitDefEqProofs [g0]
def J38 (s : Value) (l : List Int) (k : Int) (m : Nat) (h : Heap) (n : Nat) (σ : St) : Prop := ∃ i : Nat, n = m - i ∧ i ≤ m ∧ σ.m.h = h ∧ σ.t.get 0 = some s ∧ σ.t.get 1 = some (.int .i64 k) ∧ σ.t.get 5 = some (.int .i64 (i : Nat)) ∧ (List.range i).all (killOK l k) = true
theorem rkills_ok (s : Value) (l : List Int) (k : Int) (hk : 0 ≤ k ∧ k ≤ 1073741824) (hl : l.length ≤ 1073741824) (h : Heap) (hs : IntS h s l) : ACalls PP 68 [s, .int .i64 k] h (fun v h' => h' = h ∧ v = .bool (killsOK l k)) := by
  refine acalls_of_vc mix fn68 bodyEq68 rfl (by show 2 ≤ 39; decide) ok68 ?_
  simp only [body68, Tryz.f68]
  obtain ⟨ad, c, rfl⟩ := hs.shape
  obtain ⟨m, hm⟩ : ∃ m, m = l.length := ⟨_, rfl⟩
  rw [← hm] at hs ⊢
  simp -implicitDefEqProofs
  refine vc_loop (J38 (.slice ad m c) l k m h) _ ⟨0, rfl, by omega, rfl, by simp, by simp, by simp, rfl⟩ ?_
  rintro n ⟨T, ⟨x, H⟩⟩ ⟨i, rfl, hi, hH, g0, g1, g5, hall⟩
  simp at hH g0 g1 g5
  subst hH
  simp -implicitDefEqProofs [g0, g1, g5]
  refine condQ_of (fun hc => ?_) (fun hc => ?_) <;> simp only [decide_eq_true_eq, decide_eq_false_iff_not] at hc
  · have hil : i < m := by omega
    have hti : l[i]? = some l[i] := List.getElem?_eq_getElem (by omega)
    obtain ⟨_, b, o, wb, cs, r, rfl, hb, hd, hlc, _⟩ := hs.at 1 intC_len hti
    obtain ⟨t, ht⟩ : ∃ t, t = l[i] := ⟨_, rfl⟩
    rw [← ht] at hd hti
    have w1 : IntKind.wrap .i64 ((i : Int) + 1) = ((i + 1 : Nat) : Int) := by rw [i64wrap (by omega)]; omega
    have hlc' : o + i + 1 ≤ cs.length := by omega
    rw [Nat.mul_one] at hd
    have fin : killOK l k i = false → killsOK l k = false := fun hp => by unfold killsOK; rw [all_false (by omega) hp]; rfl
    have w3 : IntKind.wrap .i64 (k - 1) = k - 1 := i64wrap (by omega)
    simp -implicitDefEqProofs [g0, g1, g5, hil, hb, hd, hlc', intC, w3]
    refine (rin_ok t 0 (k - 1) H).mono ?_
    rintro v h' ⟨rfl, rfl⟩
    simp -implicitDefEqProofs [callP]
    intro _
    by_cases q1 : inB t 0 (k - 1) = true
    rotate_left
    · have hp : killOK l k i = false := by
        simp only [inB, Bool.and_eq_true, decide_eq_true_eq] at q1
        simp [killOK, hti]; omega
      simp -implicitDefEqProofs [q1, fin hp]
    have q1' := q1
    simp only [inB, Bool.and_eq_true, decide_eq_true_eq] at q1'
    by_cases h3 : i = 0
    · subst h3
      have hp : killOK l k 0 = true := by simp [killOK, hti]; omega
      simp -implicitDefEqProofs [q1, g0, g1, g5]
      exact ⟨m - 1, by omega, 1, rfl, by omega, rfl, by simp [g0], by simp [g1], by simp [i64wrap], all_succ hall hp⟩
    · have hi1 : i - 1 < m := by omega
      have htp : l[i - 1]? = some l[i - 1] := List.getElem?_eq_getElem (by omega)
      obtain ⟨p, hp⟩ : ∃ p, p = l[i - 1] := ⟨_, rfl⟩
      rw [← hp] at htp
      obtain ⟨_, b', o', wb', cs', r', e1, hb', hd', hlc2, _⟩ := hs.at 1 intC_len htp
      simp only [Option.some.injEq, Addr.mk.injEq, and_true] at e1
      obtain ⟨rfl, rfl⟩ := e1
      rw [hb] at hb'
      simp only [Blk.row.injEq, true_and] at hb'
      obtain ⟨rfl, rfl⟩ := hb'
      obtain ⟨j, hj⟩ : ∃ j, j = i - 1 := ⟨_, rfl⟩
      rw [← hj, Nat.mul_one] at hd' hlc2
      have hjm : j < m := by omega
      have w2 : IntKind.wrap .i64 ((i : Int) - 1) = (j : Int) := by rw [i64wrap (by omega)]; omega
      have h0 : (0 : Int) < (i : Int) := by omega
      have h0' : 0 < i := by omega
      by_cases h4 : t ≤ p
      · have hp : killOK l k i = false := by simp [killOK, hti, htp, h3]; omega
        simp -implicitDefEqProofs [q1, g0, g1, g5, hil, hb, hd, hlc', intC, h0, h0', h3, w2, hjm, hd', hlc2, h4, fin hp]
      · have hp : killOK l k i = true := by simp [killOK, hti, htp, h3]; omega
        simp -implicitDefEqProofs [q1, g0, g1, g5, hil, hb, hd, hlc', intC, h0, h0', h3, w2, hjm, hd', hlc2, h4, w1]
        exact ⟨m - (i + 1), by omega, i + 1, rfl, by omega, rfl, by simp [g0], by simp [g1], by simp, all_succ hall hp⟩
  · have : i = m := by omega
    subst this
    rw [hm] at hall
    have he : killsOK l k = decide (l.length ≤ 200) := by unfold killsOK; rw [hall]; rfl
    rw [he, ← hm]
    by_cases h2 : (i : Int) ≤ 200
    · have h2' : i ≤ 200 := by omega
      simp -implicitDefEqProofs [g0, h2, h2']
    · have h2' : ¬ i ≤ 200 := by omega
      simp -implicitDefEqProofs [g0, h2, h2']
def J39 (s : Value) (l : List PoleR) (m : Nat) (h : Heap) (n : Nat) (σ : St) : Prop := ∃ i : Nat, n = m - i ∧ i ≤ m ∧ σ.m.h = h ∧ σ.t.get 0 = some s ∧ σ.t.get 3 = some (.int .i64 (i : Nat)) ∧ (List.range i).all (poleI l) = true
theorem rpoles_ok (s : Value) (l : List PoleR) (hl : l.length ≤ 1073741824) (h : Heap) (hs : PoleS h s l) : ACalls PP 69 [s] h (fun v h' => h' = h ∧ v = .bool (polesOK l)) := by
  refine acalls_of_vc mix fn69 bodyEq69 rfl (by show 1 ≤ 38; decide) ok69 ?_
  simp only [body69, Tryz.f69]
  obtain ⟨ad, c, rfl⟩ := hs.shape
  obtain ⟨m, hm⟩ : ∃ m, m = l.length := ⟨_, rfl⟩
  rw [← hm] at hs ⊢
  simp -implicitDefEqProofs
  refine vc_loop (J39 (.slice ad m c) l m h) _ ⟨0, rfl, by omega, rfl, by simp, by simp, rfl⟩ ?_
  rintro n ⟨T, ⟨x, H⟩⟩ ⟨i, rfl, hi, hH, g0, g3, hall⟩
  simp at hH g0 g3
  subst hH
  simp -implicitDefEqProofs [g0, g3]
  refine condQ_of (fun hc => ?_) (fun hc => ?_) <;> simp only [decide_eq_true_eq, decide_eq_false_iff_not] at hc
  · have hil : i < m := by omega
    have hti : l[i]? = some l[i] := List.getElem?_eq_getElem (by omega)
    obtain ⟨_, b, o, wb, cs, r, rfl, hb, hd, hlc, _⟩ := hs.at 3 poleC_len hti
    obtain ⟨t, ht⟩ : ∃ t, t = l[i] := ⟨_, rfl⟩
    rw [← ht] at hd hti
    have w1 : IntKind.wrap .i64 ((i : Int) + 1) = ((i + 1 : Nat) : Int) := by rw [i64wrap (by omega)]; omega
    have hlc' : o + i * 3 + 3 ≤ cs.length := hlc
    have l1 : o + i * 3 + 1 ≤ cs.length := by omega
    have l2 : o + i * 3 + 1 + 1 ≤ cs.length := by omega
    have l3 : o + i * 3 + 2 + 1 ≤ cs.length := by omega
    have d1 : (cs.drop (o + i * 3)).take 1 = [.int .i64 t.x] := by rw [hd]; rfl
    have d2 : (cs.drop (o + i * 3 + 1)).take 1 = [.int .i64 t.y] := by rw [← List.drop_drop, hd]; rfl
    have d3 : (cs.drop (o + i * 3 + 2)).take 1 = [.int .i64 t.r] := by rw [← List.drop_drop, hd]; rfl
    have fin : poleI l i = false → polesOK l = false := fun hp => by unfold polesOK; rw [all_false (by omega) hp]; rfl
    simp -implicitDefEqProofs [g0, g3, hil, hb, d1, l1]
    refine (rcoord_ok t.x H).mono ?_
    rintro v h' ⟨rfl, rfl⟩
    simp -implicitDefEqProofs [callQ]
    intro _
    by_cases h1 : inB t.x (-1048576) 1048576 = true
    · simp -implicitDefEqProofs [h1, g0, g3, hil, hb, d2, l2]
      refine (rcoord_ok t.y h').mono ?_
      rintro v h2 ⟨rfl, rfl⟩
      simp -implicitDefEqProofs [callQ]
      intro _
      by_cases h3 : inB t.y (-1048576) 1048576 = true
      · simp -implicitDefEqProofs [h3, g0, g3, hil, hb, d3, l3]
        refine (rin_ok t.r 1 1048576 h2).mono ?_
        rintro v h4 ⟨rfl, rfl⟩
        simp -implicitDefEqProofs [callQ]
        intro _
        by_cases h5 : inB t.r 1 1048576 = true
        · have hp : poleI l i = true := by simp [poleI, hti, poleOK, h1, h3, h5]
          simp -implicitDefEqProofs [h5, g0, g3, w1]
          exact ⟨m - (i + 1), by omega, i + 1, rfl, by omega, rfl, by simp [g0], by simp, all_succ hall hp⟩
        · have hp : poleI l i = false := by simp [poleI, hti, poleOK, h1, h3, h5]
          simp -implicitDefEqProofs [h5, fin hp]
      · have hp : poleI l i = false := by simp [poleI, hti, poleOK, h1, h3]
        simp -implicitDefEqProofs [h3, fin hp]
    · have hp : poleI l i = false := by simp [poleI, hti, poleOK, h1]
      simp -implicitDefEqProofs [h1, fin hp]
  · have : i = m := by omega
    subst this
    rw [hm] at hall
    have he : polesOK l = decide (l.length ≤ 200) := by unfold polesOK; rw [hall]; rfl
    rw [he, ← hm]
    by_cases h2 : (i : Int) ≤ 200
    · have h2' : i ≤ 200 := by omega
      simp -implicitDefEqProofs [g0, h2, h2']
    · have h2' : ¬ i ≤ 200 := by omega
      simp -implicitDefEqProofs [g0, h2, h2']
theorem rwrong_ok (v : VenR) (cs : List Value) (hv : venSmall v) (h : Heap) (H : VenC h v cs) : ACalls PP 36 [.agg ⟨cs⟩] h (fun r h' => h' = h ∧ r = .string (B (wrongV v))) := by
  refine acalls_of_vc mix fn36 bodyEq36 rfl (by show 1 ≤ 31; decide) ok36 ?_
  simp only [body36, Tryz.f36]
  obtain ⟨s, k, p, rfl, h1, h2, h3⟩ := H
  obtain ⟨ad1, c1, e1⟩ := h1.shape
  obtain ⟨ad2, c2, e2⟩ := h2.shape
  obtain ⟨ad3, c3, e3⟩ := h3.shape
  subst e1; subst e2; subst e3
  unfold wrongV
  simp -implicitDefEqProofs
  refine (rseats_ok _ v.seats hv.1 h h1).mono ?_
  rintro r h' ⟨rfl, rfl⟩
  simp -implicitDefEqProofs [callQ]
  intro _
  by_cases q1 : seatsOK v.seats = true
  · simp -implicitDefEqProofs [q1]
    refine (rin_ok v.gap 1 1048576 h').mono ?_
    rintro r h' ⟨rfl, rfl⟩
    simp -implicitDefEqProofs [callQ]
    intro _
    by_cases q2 : inB v.gap 1 1048576 = true
    · simp -implicitDefEqProofs [q2]
      refine (rin_ok v.radius 0 1048576 h').mono ?_
      rintro r h' ⟨rfl, rfl⟩
      simp -implicitDefEqProofs [callQ]
      intro _
      by_cases q3 : inB v.radius 0 1048576 = true
      · simp -implicitDefEqProofs [q3]
        refine (rkills_ok _ v.kills v.seats.length (by have := hv.1; omega) hv.2.1 h' h2).mono ?_
        rintro r h' ⟨rfl, rfl⟩
        simp -implicitDefEqProofs [callQ]
        intro _
        by_cases q4 : killsOK v.kills v.seats.length = true
        · simp -implicitDefEqProofs [q4]
          refine (rpoles_ok _ v.poles hv.2.2 h' h3).mono ?_
          rintro r h' ⟨rfl, rfl⟩
          simp -implicitDefEqProofs [callQ]
          intro _
          by_cases q5 : polesOK v.poles = true
          · simp -implicitDefEqProofs [q5]
          · simp -implicitDefEqProofs [q5]
        · simp -implicitDefEqProofs [q4]
      · simp -implicitDefEqProofs [q3]
    · simp -implicitDefEqProofs [q2]
  · simp -implicitDefEqProofs [q1]
theorem rmay_ok (v : VenR) (cs : List Value) (hv : venSmall v) (h : Heap) (H : VenC h v cs) : ACalls PP 18 [.agg ⟨cs⟩] h (fun r h' => h' = h ∧ r = .bool (mayV v)) := by
  refine acalls_of_vc mix fn18 bodyEq18 rfl (by show 1 ≤ 6; decide) ok18 ?_
  simp only [body18, Tryz.f18]
  have hw := rwrong_ok v cs hv h H
  obtain ⟨s, k, p, rfl, h1, h2, h3⟩ := H
  simp -implicitDefEqProofs
  refine hw.mono ?_
  rintro r h' ⟨rfl, rfl⟩
  simp -implicitDefEqProofs [callQ, mayV]
end Go.Proofs.Yph.V
namespace Go.Proofs.Yph.V
open Go Go.Am
set_option maxRecDepth 20000
set_option maxHeartbeats 4000000
/-- a number put into a rising list -/
def PutR (l : List Int) (n : Int) (zs : List Int) : Prop := ∃ k, k ≤ l.length ∧ (∀ j a, k ≤ j → l[j]? = some a → n < a) ∧ (∀ a, 1 ≤ k → l[k - 1]? = some a → a ≤ n) ∧
  ((∃ j, j + 1 = k ∧ l[j]? = some n ∧ zs = l) ∨ ((∀ j, j + 1 = k → l[j]? ≠ some n) ∧ zs = l.take k ++ [n] ++ l.drop k))
def J31 (lv : Value) (l : List Int) (n : Int) (h : Heap) (m : Nat) (σ : St) : Prop := m ≤ l.length ∧ σ.m.h = h ∧ σ.t.get 0 = some lv ∧ σ.t.get 1 = some (.int .i64 n) ∧ σ.t.get 5 = some (.int .i64 (m : Nat)) ∧ (∀ j a, m ≤ j → l[j]? = some a → n < a)
def PutP (h0 h : Heap) (l : List Int) (n : Int) (r : Value) (h' : Heap) : Prop := Ext h h' ∧ ∃ zs o', PutR l n zs ∧ OwO 3 intC h0 h' o' zs r
theorem put_ok (lv : Value) (l : List Int) (n : Int) (hl : l.length ≤ 1000000) (h0 h : Heap) (hn0 : h0.n ≤ h.n) (o : Option Nat) (hs : OwO 3 intC h0 h o l lv) :
    ACalls PP 66 [lv, .int .i64 n] h (PutP h0 h l n) := by
  refine acalls_of_vc mix fn66 bodyEq66 rfl (by show 2 ≤ 45; decide) ok66 ?_
  simp only [body66, Tryz.f66]
  obtain ⟨rfl, ho⟩ := id hs
  obtain ⟨m, hm⟩ : ∃ m, m = l.length := ⟨_, rfl⟩
  rw [← hm]
  simp -implicitDefEqProofs
  refine vc_loop (J31 (.slice (o.map fun b => ⟨b, 0, none⟩) m m) l n h) m ⟨by omega, rfl, by simp, by simp, by simp, fun j a hj ha => by have := (List.getElem?_eq_some_iff.mp ha).1; omega⟩ ?_
  rintro k ⟨T, ⟨x, H⟩⟩ ⟨hk, hH, g0, g1, g5, hup⟩
  simp at hH g0 g1 g5
  subst hH
  have hr1 : List.range 1 = [0] := rfl
  -- the exit
  have out : (∀ a, 1 ≤ k → l[k - 1]? = some a → a ≤ n) → (∀ j, j + 1 = k → l[j]? ≠ some n) → ∀ H2, Ext H H2 → ∀ b2, H2.f b2 = .row true 3 ((l.take k ++ [n] ++ l.drop k).flatMap intC) → H.n ≤ b2 → b2 < H2.n →
      PutP h0 H l n (.slice (some ⟨b2, 0, none⟩) (k + 1 + (m - k)) (k + 1 + (m - k))) H2 := by
    intro q1 q2 H2 E b2 f2 l2 l3
    refine ⟨E, l.take k ++ [n] ++ l.drop k, some b2, ⟨k, hk, hup, q1, .inr ⟨q2, rfl⟩⟩, ?_, f2, by omega, l3⟩
    have : (l.take k ++ [n] ++ l.drop k).length = k + 1 + (m - k) := by simp; omega
    rw [this]; rfl
  obtain ⟨F, hF⟩ : ∃ F, F = l.flatMap intC := ⟨_, rfl⟩
  have hFl : F.length = m := by have := flatA_len 1 intC_len l; rw [← hF] at this; omega
  have hFone : F.all Go.Am.one = true := by
    rw [List.all_eq_true]; intro y hy
    rw [hF, int_map] at hy
    obtain ⟨s, _, rfl⟩ := List.mem_map.1 hy
    rfl
  have hFd : ∀ j (hj : j < l.length), (F.drop j).take 1 = [.int .i64 l[j]] := fun j hj => by
    rw [hF, int_map, ← List.map_drop, List.drop_eq_getElem_cons hj]; rfl
  have hFr : (l.take k ++ [n] ++ l.drop k).flatMap intC = F.take k ++ [.int .i64 n] ++ F.drop k := by
    rw [hF, int_map, int_map, List.map_append, List.map_append, List.map_take, List.map_drop]; rfl
  have hkm : k ≤ m := by omega
  have c1 : ¬ H.n = H.n + 1 + 1 := by omega
  have c2 : ¬ H.n = H.n + 1 + 1 + 1 := by omega
  have c3 : ¬ H.n + 1 = H.n + 1 + 1 + 1 := by omega
  have c4 : ¬ H.n + 1 + 1 = H.n := by omega
  have c5 : ¬ H.n + 1 + 1 + 1 = H.n := by omega
  have c6 : ¬ H.n + 1 + 1 + 1 = H.n + 1 := by omega
  cases o with
  | none =>
    simp only at ho
    subst ho
    have hm0 : m = 0 := by rw [hm]; rfl
    have hk0 : k = 0 := by simpa using hk
    subst hk0
    subst hm0
    have out' := out (fun a h => by omega) (fun j h => by omega)
    rw [hFr] at out'
    have hF0 : F = [] := List.length_eq_zero_iff.1 hFl
    subst hF0
    simp -implicitDefEqProofs [g0, g1, g5]
    rw [altQ_cons, altQ_cons, altQ_cons, altQ_nil]
    refine ⟨?_, ?_, ?_, trivial⟩ <;>
    · simp -implicitDefEqProofs [opBuildSlice, hr1, opAppend, srcCells, maxA, g0, g1, g5, c1, c2, c3, c4, c5, c6]
      apply out'
      · repeat' (first | exact Ext.new _ _ | apply Ext.newOf | refine Ext.setOf ?_ ?_ _)
        all_goals omega
      · simp
      · omega
      · simp
  | some b =>
    simp only at ho
    obtain ⟨hb, hb1, hb2⟩ := ho
    rw [← hF] at hb
    have tail : (∀ a, 1 ≤ k → l[k - 1]? = some a → a ≤ n) → (∀ j, j + 1 = k → l[j]? ≠ some n) → ∀ H2, Ext H H2 → ∀ b2, H2.f b2 = .row true 3 (F.take k ++ [.int .i64 n] ++ F.drop k) → H.n ≤ b2 → b2 < H2.n →
      PutP h0 H l n (.slice (some ⟨b2, 0, none⟩) (k + 1 + (m - k)) (k + 1 + (m - k))) H2 := by rw [hFr] at out; exact out
    obtain ⟨FD, hFD⟩ : ∃ z, z = F.drop k := ⟨_, rfl⟩
    have hFDl : FD.length = m - k := by rw [hFD, List.length_drop, hFl]
    obtain ⟨FT, hFT⟩ : ∃ z, z = F.take k := ⟨_, rfl⟩
    have hFTl : FT.length = k := by rw [hFT, List.length_take, hFl]; omega
    have t1 : FD.take (m - k) = FD := List.take_of_length_le (by omega)
    have t1' : FT.take k = FT := List.take_of_length_le (by omega)
    have t2 : FD.all Go.Am.one = true := by rw [List.all_eq_true] at hFone ⊢; intro z hz; exact hFone z (List.mem_of_mem_drop (hFD ▸ hz))
    have t3 : FT.all Go.Am.one = true := by rw [List.all_eq_true] at hFone ⊢; intro z hz; exact hFone z (List.mem_of_mem_take (hFT ▸ hz))
    have q1 : k * 8 ≤ 140737488355328 := by omega
    have q2 : (k + 1) * 8 ≤ 140737488355328 := by omega
    have q3 : (k + 1 + (m - k)) * 8 ≤ 140737488355328 := by omega
    have q5 : k + (m - k) ≤ m := by omega
    have hif : (if k = 0 then some (([] : List Value), 0) else some (FT, k)) = some (FT, k) := by
      by_cases z : k = 0
      · rw [if_pos z, hFT, z]; rfl
      · rw [if_neg z]
    have hif2 : (if m - k = 0 then some (([] : List Value), 0) else some (FD, m - k)) = some (FD, m - k) := by
      by_cases z : m - k = 0
      · rw [if_pos z, z]
        have : FD = [] := List.length_eq_zero_iff.1 (by omega)
        rw [this]
      · rw [if_neg z]
    have t4 : (FT ++ [Value.int .i64 n]).take (k + 1) = FT ++ [Value.int .i64 n] := List.take_of_length_le (by simp; omega)
    have b1 : ¬ b = H.n := by omega
    have b2 : ¬ b = H.n + 1 := by omega
    have b3 : ¬ b = H.n + 1 + 1 := by omega
    have b4 : ¬ b = H.n + 1 + 1 + 1 := by omega
    rw [← hFT, ← hFD] at tail
    by_cases hk0 : k = 0
    · have hk0' : (k : Int) = 0 := by omega
      have tail' := tail (fun a h => by omega) (fun j h => by omega)
      have hnk : ¬ 0 < k := by omega
      simp -implicitDefEqProofs [g0, g1, g5, hnk]
      rw [altQ_cons, altQ_cons, altQ_cons, altQ_nil]
      refine ⟨?_, ?_, ?_, trivial⟩ <;>
      · simp -implicitDefEqProofs [opBuildSlice, hr1, opAppend, srcCells, maxA, g0, g1, g5, hb, hFl, ← hFT, ← hFD, t1, t1', t2, t3, q1, q2, q3, q5, hkm, hif, hif2, b1, b2, b3, b4, hFTl, hFDl, t4, c1, c2, c3, c4, c5, c6]
        apply tail'
        · repeat' (first | exact Ext.new _ _ | apply Ext.newOf | refine Ext.setOf ?_ ?_ _)
          all_goals omega
        · simp
        · omega
        · simp
    · obtain ⟨j, hkk⟩ : ∃ j, k = j + 1 := ⟨k - 1, by omega⟩
      have hjl : j < l.length := by omega
      have hjm : j < m := by omega
      have hlj : l[j]? = some l[j] := List.getElem?_eq_getElem hjl
      have d1 := hFd j hjl
      obtain ⟨t, ht⟩ : ∃ t, t = l[j] := ⟨_, rfl⟩
      rw [← ht] at d1 hlj
      have w1 : IntKind.wrap .i64 ((k : Int) - 1) = (j : Int) := by rw [i64wrap (by omega)]; omega
      have hkp : 0 < k := by omega
      have hj1 : j + 1 ≤ m := by omega
      by_cases hgt : n < t
      · simp -implicitDefEqProofs [g0, g1, g5, hkp, w1, hjm, hb, d1, hFl, hj1, hgt]
        exact ⟨j, by omega, by omega, rfl, by simp [g0], by simp [g1], by simp, fun i a hi ha => by
          rcases Nat.lt_or_ge i k with q | q
          · have : i = j := by omega
            subst this
            rw [hlj] at ha
            obtain rfl := Option.some.inj ha
            exact hgt
          · exact hup i a q ha⟩
      · by_cases heq : t = n
        · simp -implicitDefEqProofs [g0, g1, g5, hkp, w1, hjm, hb, d1, hFl, hj1, hgt, heq]
          refine ⟨Ext.rfl' H, l, some b, ⟨k, hk, hup, fun a _ ha => ?_, .inl ⟨j, hkk.symm, by rw [hlj, heq], rfl⟩⟩, ?_⟩
          · rw [show k - 1 = j by omega, hlj] at ha; obtain rfl := Option.some.inj ha; omega
          · rw [hm]; exact hs
        · have tail' := tail (fun a _ ha => by rw [show k - 1 = j by omega, hlj] at ha; obtain rfl := Option.some.inj ha; omega) (fun i hi => by rw [show i = j by omega, hlj]; intro e; exact heq (Option.some.inj e))
          simp -implicitDefEqProofs [g0, g1, g5, hkp, w1, hjm, hb, d1, hFl, hj1, hgt, heq]
          rw [altQ_cons, altQ_cons, altQ_cons, altQ_nil]
          refine ⟨?_, ?_, ?_, trivial⟩ <;>
          · simp -implicitDefEqProofs [opBuildSlice, hr1, opAppend, srcCells, maxA, g0, g1, g5, hb, hFl, ← hFT, ← hFD, t1, t1', t2, t3, q1, q2, q3, q5, hkm, hif, hif2, b1, b2, b3, b4, hFTl, hFDl, t4, c1, c2, c3, c4, c5, c6]
            apply tail'
            · repeat' (first | exact Ext.new _ _ | apply Ext.newOf | refine Ext.setOf ?_ ?_ _)
              all_goals omega
            · simp
            · omega
            · simp
end Go.Proofs.Yph.V
namespace Go.Proofs.Yph.V
open Go Go.Am
set_option maxRecDepth 20000
set_option maxHeartbeats 4000000
def SoP (xs : List SeatR) : Prop := xs.Pairwise (fun a b => lessS b a = false)
theorem SoP.sorted {xs : List SeatR} (h : SoP xs) : SortedS xs := by
  intro i j a b hij ha hb
  have h1 := (List.getElem?_eq_some_iff.mp ha)
  have h2 := (List.getElem?_eq_some_iff.mp hb)
  obtain ⟨p1, rfl⟩ := h1
  obtain ⟨p2, rfl⟩ := h2
  exact (List.pairwise_iff_getElem.1 h) i j p1 p2 hij
theorem lessS_no {a b : SeatR} : lessS a b = false ↔ ¬ (a.row < b.row ∨ a.row = b.row ∧ a.x < b.x) := by
  rw [← lessS_iff]; cases lessS a b <;> simp
theorem ins_sorted {xs : List SeatR} {s : SeatR} {k : Nat} (hk : k ≤ xs.length) (h : SoP xs) (h1 : ∀ j a, k ≤ j → xs[j]? = some a → lessS s a = true) (h2 : ∀ j a, j + 1 = k → xs[j]? = some a → lessS s a = false) : SoP (xs.take k ++ [s] ++ xs.drop k) := by
  have hx := h
  unfold SoP at hx ⊢
  rw [← List.take_append_drop k xs, List.pairwise_append] at hx
  obtain ⟨p1, p2, p3⟩ := hx
  rw [List.pairwise_append, List.pairwise_append]
  have hd : ∀ b ∈ xs.drop k, lessS s b = true := fun b hb => by
    obtain ⟨i, hi⟩ := List.mem_iff_getElem?.1 hb
    rw [List.getElem?_drop] at hi
    exact h1 _ b (by omega) hi
  refine ⟨⟨p1, by simp, fun a ha b hb => ?_⟩, p2, fun a ha b hb => ?_⟩
  · obtain rfl := List.mem_singleton.1 hb
    cases k with
    | zero => simp at ha
    | succ k =>
      obtain ⟨i, hi⟩ := List.mem_iff_getElem?.1 ha
      rw [List.getElem?_take] at hi
      split at hi
      rotate_left
      · cases hi
      rename_i hik
      rcases Nat.lt_or_ge k xs.length with q | q
      · have e : xs[k]? = some xs[k] := List.getElem?_eq_getElem q
        have q1 := h2 k _ rfl e
        by_cases hik2 : i = k
        · subst hik2
          rw [e] at hi
          obtain rfl := Option.some.inj hi
          exact q1
        · have q2 := h.sorted i k a _ (by omega) hi e
          rw [lessS_no] at *
          omega
      · omega
  · rcases List.mem_append.1 ha with q | q
    · exact p3 a q b hb
    · obtain rfl := List.mem_singleton.1 q
      have := hd b hb
      rw [lessS_no]
      rw [lessS_iff] at this
      omega
def insS (xs : List SeatR) (k : Nat) (s : SeatR) : List SeatR := xs.take k ++ [s] ++ xs.drop k
theorem insS_perm (xs : List SeatR) (k : Nat) (s : SeatR) : (insS xs k s).Perm (xs ++ [s]) := by
  have h1 : (insS xs k s).Perm (xs.take k ++ xs.drop k ++ [s]) := by
    unfold insS
    rw [List.append_assoc, List.append_assoc]
    exact List.Perm.append_left _ List.perm_append_comm
  rwa [List.take_append_drop] at h1
theorem insS_flat {xs : List SeatR} {k : Nat} {s : SeatR} (hk : k ≤ xs.length) : (insS xs k s).flatMap seatC = (xs.flatMap seatC).take (k * 4) ++ seatC s ++ (xs.flatMap seatC).drop (k * 4) := by
  unfold insS
  rw [List.flatMap_append, List.flatMap_append, flatA_drop 4 seatC_len]
  congr 1
  congr 1
  have e : xs.flatMap seatC = (xs.take k).flatMap seatC ++ (xs.drop k).flatMap seatC := by rw [← List.flatMap_append, List.take_append_drop]
  have := flatA_len 4 seatC_len (xs.take k)
  rw [e, List.take_append_of_le_length (by rw [this, List.length_take]; omega)]
  exact (List.take_of_length_le (by rw [this, List.length_take]; omega)).symm
def Ri (ks : List Int) : Prop := ks.Pairwise (fun a b => a < b)
/-- what a venue in order is, whoever puts it in order -/
def NormG (v : VenR) (h : Heap) (r : Value) (h' : Heap) : Prop := Ext h h' ∧
  ((killsIn v = false ∧ r = .tuple #[.agg ⟨zVen⟩, .bool false]) ∨
   (killsIn v = true ∧ ∃ ys ks, ys.Perm v.seats ∧ SortedS ys ∧ Ri ks ∧ (∀ x, x ∈ ks ↔ x ∈ (killedL v).map (fun s => findA (atS s) ys)) ∧
     ((mayV ⟨ys, v.gap, v.radius, ks, v.poles⟩ = true ∧ ∃ co, VenC h' ⟨ys, v.gap, v.radius, ks, v.poles⟩ co ∧ r = .tuple #[.agg ⟨co⟩, .bool true]) ∨
      (mayV ⟨ys, v.gap, v.radius, ks, v.poles⟩ = false ∧ r = .tuple #[.agg ⟨zVen⟩, .bool false]))))
theorem put_len {l zs : List Int} {n : Int} (p : PutR l n zs) : zs.length ≤ l.length + 1 := by
  obtain ⟨k, hk, h1, h2, ⟨j, hj, hl, rfl⟩ | ⟨hne, rfl⟩⟩ := p
  · omega
  · simp; omega
theorem put_ri {l zs : List Int} {n : Int} (h : Ri l) (p : PutR l n zs) : Ri zs ∧ ∀ x, x ∈ zs ↔ x ∈ l ∨ x = n := by
  obtain ⟨k, hk, h1, h2, ⟨j, hj, hl, rfl⟩ | ⟨hne, rfl⟩⟩ := p
  · refine ⟨h, fun x => ⟨fun q => .inl q, fun q => ?_⟩⟩
    rcases q with q | rfl
    · exact q
    · exact List.mem_of_getElem? hl
  · have hx := h
    unfold Ri at hx ⊢
    rw [← List.take_append_drop k l, List.pairwise_append] at hx
    obtain ⟨p1, p2, p3⟩ := hx
    have hd : ∀ b ∈ l.drop k, n < b := fun b hb => by
      obtain ⟨i, hi⟩ := List.mem_iff_getElem?.1 hb
      rw [List.getElem?_drop] at hi
      exact h1 _ b (by omega) hi
    refine ⟨?_, fun x => ?_⟩
    · rw [List.pairwise_append, List.pairwise_append]
      refine ⟨⟨p1, by simp, fun a ha b hb => ?_⟩, p2, fun a ha b hb => ?_⟩
      · obtain rfl := List.mem_singleton.1 hb
        cases k with
        | zero => simp at ha
        | succ k =>
          have e : l[k]? = some l[k] := List.getElem?_eq_getElem (by omega)
          have q1 := h2 l[k] (by omega) (by simp)
          have q2 : l[k] ≠ b := fun z => hne k rfl (by rw [e, z])
          obtain ⟨i, hi⟩ := List.mem_iff_getElem?.1 ha
          rw [List.getElem?_take] at hi
          split at hi
          rotate_left
          · cases hi
          rename_i hik
          have hil := (List.getElem?_eq_some_iff.mp hi)
          obtain ⟨z1, rfl⟩ := hil
          by_cases hik2 : i = k
          · subst hik2; omega
          · have := (List.pairwise_iff_getElem.1 h) i k z1 (by omega) (by omega)
            omega
      · rcases List.mem_append.1 ha with q | q
        · exact p3 a q b hb
        · obtain rfl := List.mem_singleton.1 q
          exact hd b hb
    · have : x ∈ l ↔ x ∈ l.take k ∨ x ∈ l.drop k := by rw [← List.mem_append, List.take_append_drop]
      simp only [List.mem_append, List.mem_singleton, this]
      constructor
      · rintro ((q | q) | q)
        · exact .inl (.inl q)
        · exact .inr q
        · exact .inl (.inr q)
      · rintro ((q | q) | q)
        · exact .inl (.inl q)
        · exact .inr q
        · exact .inl (.inr q)
theorem ri_eq {a b : List Int} (ha : Ri a) (hb : Ri b) (h : ∀ x, x ∈ a ↔ x ∈ b) : a = b := by
  have n1 : a.Nodup := ha.imp (fun {x y} hxy => by omega)
  have n2 : b.Nodup := hb.imp (fun {x y} hxy => by omega)
  have hp : a.Perm b := (List.perm_ext_iff_of_nodup n1 n2).2 h
  exact hp.eq_of_pairwise (fun x y _ _ q1 q2 => by omega) ha hb
def J12a (h : Heap) (v : VenR) (cs : List Value) (pv : Value) (m : Nat) (σ : St) : Prop := ∃ (i : Nat) (xs : List SeatR) (o : Option Nat) (sv : Value), m = v.seats.length - i ∧ i ≤ v.seats.length ∧ Ext h σ.m.h ∧ SoP xs ∧ xs.Perm (v.seats.take i) ∧ OwO 57 seatC h σ.m.h o xs sv ∧
  σ.t.get 1 = some (.pointer (some ⟨1, 0, some 0⟩)) ∧ σ.t.get 2 = some (.pointer (some ⟨2, 0, some 0⟩)) ∧ σ.t.get 4 = some (.pointer (some ⟨4, 0, some 0⟩)) ∧ σ.t.get 5 = some (.int .i64 (i : Nat)) ∧
  σ.m.x.look 1 = some (33, cs) ∧ σ.m.x.look 2 = some (33, zVen) ∧ σ.m.x.look 4 = some (33, [sv, .int .i64 v.gap, .int .i64 v.radius, .slice none 0 0, pv])
def J12b (H : Heap) (v : VenR) (cs : List Value) (pv sv : Value) (i : Nat) (s : SeatR) (xs : List SeatR) (k : Nat) (σ : St) : Prop := k ≤ xs.length ∧ σ.m.h = H ∧ (∀ j a, k ≤ j → xs[j]? = some a → lessS s a = true) ∧
  σ.t.get 1 = some (.pointer (some ⟨1, 0, some 0⟩)) ∧ σ.t.get 2 = some (.pointer (some ⟨2, 0, some 0⟩)) ∧ σ.t.get 4 = some (.pointer (some ⟨4, 0, some 0⟩)) ∧ σ.t.get 5 = some (.int .i64 (i : Nat)) ∧ σ.t.get 6 = some (.int .i64 (k : Nat)) ∧
  σ.m.x.look 1 = some (33, cs) ∧ σ.m.x.look 2 = some (33, zVen) ∧ σ.m.x.look 4 = some (33, [sv, .int .i64 v.gap, .int .i64 v.radius, .slice none 0 0, pv])
def J12c (h H0 : Heap) (v : VenR) (cs : List Value) (ys : List SeatR) (sv pv : Value) (m : Nat) (σ : St) : Prop := ∃ (i : Nat) (ks : List Int) (o : Option Nat) (kv : Value), m = v.kills.length - i ∧ i ≤ v.kills.length ∧ Ext H0 σ.m.h ∧ Ri ks ∧ ks.length ≤ i ∧ (∀ x, x ∈ ks ↔ x ∈ ((killedL v).take i).map (fun s => findA (atS s) ys)) ∧
  (∀ j k, j < i → v.kills[j]? = some k → 0 ≤ k ∧ k < v.seats.length) ∧ OwO 3 intC h σ.m.h o ks kv ∧
  σ.t.get 1 = some (.pointer (some ⟨1, 0, some 0⟩)) ∧ σ.t.get 2 = some (.pointer (some ⟨2, 0, some 0⟩)) ∧ σ.t.get 4 = some (.pointer (some ⟨4, 0, some 0⟩)) ∧ σ.t.get 7 = some (.int .i64 (i : Nat)) ∧
  σ.m.x.look 1 = some (33, cs) ∧ σ.m.x.look 2 = some (33, zVen) ∧ σ.m.x.look 4 = some (33, [sv, .int .i64 v.gap, .int .i64 v.radius, kv, pv])
def J12d (H : Heap) (v : VenR) (cs : List Value) (ys : List SeatR) (s : SeatR) (sv pv kv : Value) (i : Nat) (m : Nat) (σ : St) : Prop := ∃ a : Nat, m = ys.length - a ∧ a < ys.length ∧ σ.m.h = H ∧ (∀ j t, j < a → ys[j]? = some t → atS s t = false) ∧
  σ.t.get 1 = some (.pointer (some ⟨1, 0, some 0⟩)) ∧ σ.t.get 2 = some (.pointer (some ⟨2, 0, some 0⟩)) ∧ σ.t.get 4 = some (.pointer (some ⟨4, 0, some 0⟩)) ∧ σ.t.get 7 = some (.int .i64 (i : Nat)) ∧ σ.t.get 8 = some (.pointer (some ⟨8, 0, some 0⟩)) ∧ σ.t.get 9 = some (.int .i64 (a : Nat)) ∧
  σ.m.x.look 1 = some (33, cs) ∧ σ.m.x.look 2 = some (33, zVen) ∧ σ.m.x.look 4 = some (33, [sv, .int .i64 v.gap, .int .i64 v.radius, kv, pv]) ∧ σ.m.x.look 8 = some (57, seatC s)
theorem rnorm_ok (v : VenR) (cs : List Value) (hv : v.seats.length ≤ 4000 ∧ v.kills.length ≤ 4000 ∧ v.poles.length ≤ 4000) (h : Heap) (HV : VenC h v cs) : ACalls PP 34 [.agg ⟨cs⟩] h (NormG v h) := by
  refine acalls_of_vc mix fn34 bodyEq34 rfl (by show 1 ≤ 136; decide) ok34 ?_
  simp only [body34, Tryz.f34]
  obtain ⟨sq, kq, pv, rfl, h1, h2, h3⟩ := id HV
  obtain ⟨ad1, c1, e1⟩ := h1.shape
  obtain ⟨ad2, c2, e2⟩ := h2.shape
  obtain ⟨ad3, c3, e3⟩ := h3.shape
  subst e1; subst e2; subst e3
  have hr4 : List.range 4 = [0, 1, 2, 3] := rfl
  obtain ⟨n, hn⟩ : ∃ n, n = v.seats.length := ⟨_, rfl⟩
  obtain ⟨kn, hkn⟩ : ∃ n, n = v.kills.length := ⟨_, rfl⟩
  rw [← hn] at h1 HV ⊢
  rw [← hkn] at h2 HV ⊢
  obtain ⟨pn, hpn⟩ : ∃ n, n = v.poles.length := ⟨_, rfl⟩
  rw [← hpn] at h3 HV ⊢
  obtain ⟨cv, hcv⟩ : ∃ cv, cv = [Value.slice ad1 n c1, .int .i64 v.gap, .int .i64 v.radius, .slice ad2 kn c2, .slice ad3 pn c3] := ⟨_, rfl⟩
  simp -implicitDefEqProofs
  refine vc_loop (J12a h v cv (.slice ad3 pn c3)) n ⟨0, [], none, .slice none 0 0, by omega, by omega, Ext.rfl' h, by simp [SoP], by simp, OwO.nil, by simp, by simp, by simp, by simp, by simp [hcv], by simp [zVen], by simp⟩ ?_
  rintro m ⟨T, ⟨x, H⟩⟩ ⟨i, xs, o, sv, rfl, hi, hE, hso, hpe, hO, g1, g2, g4, g5, x1, x2, x4⟩
  simp at hE hO g1 g2 g4 g5 x1 x2 x4
  rw [← hn] at hi
  rw [hcv] at x1
  simp -implicitDefEqProofs [g1, g2, g4, g5, x1, x2, x4]
  by_cases hin : i < n
  · have hin4 : (i : Int) ≤ 4096 := by omega
    have hin4' : i ≤ 4096 := by omega
    have hti : v.seats[i]? = some v.seats[i] := List.getElem?_eq_getElem (by omega)
    obtain ⟨_, b, of, wb, cells, r, rfl, hb, hd, hlc, hbn⟩ := h1.at 4 seatC_len hti
    obtain ⟨t, ht⟩ : ∃ t, t = v.seats[i] := ⟨_, rfl⟩
    rw [← ht] at hd hti
    have hbH : H.f b = .row wb 57 cells := by rw [hE.f b hbn]; exact hb
    have hxl : xs.length = i := by have := hpe.length_eq; rw [List.length_take] at this; omega
    obtain ⟨rfl, ho⟩ := id hO
    simp -implicitDefEqProofs [hin, hin4, hin4', g1, g2, g4, g5, x1, x2, x4]
    refine vc_loop (J12b H v cv (.slice ad3 pn c3) (.slice (o.map fun b => ⟨b, 0, none⟩) xs.length xs.length) i t xs) xs.length ⟨Nat.le_refl _, rfl, fun j a hj ha => by have := (List.getElem?_eq_some_iff.mp ha).1; omega, by simp, by simp, by simp, by simp, by simp, by simp [hcv], by simp, by simp⟩ ?_
    clear g1 g2 g4 g5 x1 x2 x4
    rintro k ⟨T, ⟨x, H'⟩⟩ ⟨hk, rfl, hup, g1, g2, g4, g5, g6, x1, x2, x4⟩
    simp at g1 g2 g4 g5 g6 x1 x2 x4 hE hbH hO ho
    rw [hcv] at x1
    rw [hxl] at x4
    obtain ⟨m, hm⟩ : ∃ m, m = i := ⟨_, rfl⟩
    have w1 : IntKind.wrap .i64 ((i : Int) + 1) = ((i + 1 : Nat) : Int) := by rw [i64wrap (by omega)]; omega
    have hd4 : (cells.drop (of + i * 4)).take 4 = seatC t := by rw [hd]; rfl
    have hlc' : of + i * 4 + 4 ≤ cells.length := hlc
    have nxt : (∀ j a, j + 1 = k → xs[j]? = some a → lessS t a = false) → ∀ b2 σ2, Ext H' σ2.m.h → σ2.m.h.f b2 = .row true 57 ((insS xs k t).flatMap seatC) → H'.n ≤ b2 → b2 < σ2.m.h.n →
        σ2.t.get 1 = some (.pointer (some ⟨1, 0, some 0⟩)) → σ2.t.get 2 = some (.pointer (some ⟨2, 0, some 0⟩)) → σ2.t.get 4 = some (.pointer (some ⟨4, 0, some 0⟩)) → σ2.t.get 5 = some (.int .i64 ((i + 1 : Nat) : Int)) →
        σ2.m.x.look 1 = some (33, cv) → σ2.m.x.look 2 = some (33, zVen) → σ2.m.x.look 4 = some (33, [.slice (some ⟨b2, 0, none⟩) (k + 1 + (i - k)) (k + 1 + (i - k)), .int .i64 v.gap, .int .i64 v.radius, .slice none 0 0, .slice ad3 pn c3]) →
        ∃ j, j < v.seats.length - i ∧ J12a h v cv (.slice ad3 pn c3) j σ2 := by
      intro q1 b2 σ2 E f2 l2 l3 r1 r2 r4 r5 y1 y2 y4
      have hil : (insS xs k t).length = k + 1 + (i - k) := by unfold insS; simp; omega
      refine ⟨v.seats.length - (i + 1), by omega, i + 1, insS xs k t, some b2, _, rfl, by omega, hE.trans E, ins_sorted hk hso hup q1, ?_, ⟨by rw [hil], f2, ?_, l3⟩, r1, r2, r4, r5, y1, y2, by rw [y4]; rfl⟩
      · refine (insS_perm xs k t).trans ?_
        rw [List.take_add_one, hti]
        exact List.Perm.append_right _ hpe
      · have := hE.n; omega
    have hnH := hE.n
    have hw1 : IntKind.wrap .i64 1 = 1 := rfl
    have a1 : ¬ b = H'.n := by omega
    have a2 : ¬ b = H'.n + 1 := by omega
    have a3 : ¬ b = H'.n + 1 + 1 := by omega
    have a4 : ¬ b = H'.n + 1 + 1 + 1 := by omega
    have c1 : ¬ H'.n = H'.n + 1 + 1 := by omega
    have c2 : ¬ H'.n = H'.n + 1 + 1 + 1 := by omega
    have c3 : ¬ H'.n + 1 = H'.n + 1 + 1 + 1 := by omega
    have c4 : ¬ H'.n + 1 + 1 = H'.n := by omega
    have c5 : ¬ H'.n + 1 + 1 + 1 = H'.n := by omega
    have c6 : ¬ H'.n + 1 + 1 + 1 = H'.n + 1 := by omega
    have hd4' : (cells.drop (of + i * 4)).take 4 = [Value.int .i64 t.row, .int .i64 t.x, .int .i64 t.y, .int .i64 t.kind] := hd4
    clear hO
    cases o with
    | none =>
      simp only at ho
      subst ho
      obtain rfl : i = 0 := by simpa using hxl.symm
      obtain rfl : k = 0 := by simpa using hk
      have tail := nxt (fun j a hj => by omega)
      simp only [Nat.sub_zero, Nat.zero_add, Nat.add_zero] at tail
      simp only [Nat.zero_mul, Nat.add_zero] at hlc' hd4'
      simp -implicitDefEqProofs [g1, g2, g4, g5, g6, x1, x2, x4]
      rw [altQ_cons, altQ_cons, altQ_cons, altQ_nil]
      refine ⟨?_, ?_, ?_, trivial⟩ <;>
      · simp -implicitDefEqProofs [opBuildSlice, hr4, opAppend, srcCells, maxA, g1, g2, g4, g5, g6, x1, x2, x4, hin, hbH, hlc', hd4', w1, hw1, a1, a2, a3, a4, c1, c2, c3, c4, c5, c6]
        apply tail (H'.n + 1 + 1 + 1 + 1)
        · repeat' (first | exact Ext.new _ _ | apply Ext.newOf | refine Ext.setOf ?_ ?_ _)
          all_goals omega
        · simp [insS, seatC]
        · omega
        · simp
        · simp
        · simp
        · simp
        · simp
        · simp [hcv]
        · simp [zVen]
        · simp
    | some bu =>
      simp only at ho
      obtain ⟨hbu, hb1, hb2⟩ := ho
      obtain ⟨F, hF⟩ : ∃ F, F = xs.flatMap seatC := ⟨_, rfl⟩
      have hFl : F.length = i * 4 := by rw [hF, flatA_len 4 seatC_len, hxl]
      rw [← hF] at hbu
      have hrow : (insS xs k t).flatMap seatC = F.take (k * 4) ++ seatC t ++ F.drop (k * 4) := by
        rw [hF]; exact insS_flat hk
      obtain ⟨FD, hFD⟩ : ∃ z, z = F.drop (k * 4) := ⟨_, rfl⟩
      have hFDl : FD.length = (i - k) * 4 := by rw [hFD, List.length_drop, hFl]; omega
      obtain ⟨FT, hFT⟩ : ∃ z, z = F.take (k * 4) := ⟨_, rfl⟩
      have hFTl : FT.length = k * 4 := by rw [hFT, List.length_take, hFl]; omega
      have hone := seat_one xs
      rw [← hF] at hone
      have t1 : FD.take ((i - k) * 4) = FD := List.take_of_length_le (by omega)
      have t1' : FT.take (k * 4) = FT := List.take_of_length_le (by omega)
      have t2 : FD.all Go.Am.one = true := by rw [List.all_eq_true] at hone ⊢; intro z hz; exact hone z (List.mem_of_mem_drop (hFD ▸ hz))
      have t3 : FT.all Go.Am.one = true := by rw [List.all_eq_true] at hone ⊢; intro z hz; exact hone z (List.mem_of_mem_take (hFT ▸ hz))
      have q1 : k * 32 ≤ 140737488355328 := by omega
      have q2 : (k + 1) * 32 ≤ 140737488355328 := by omega
      have q3 : (k + 1 + (i - k)) * 32 ≤ 140737488355328 := by omega
      have q4 : k * 4 ≤ i * 4 := by omega
      have q5 : k * 4 + (i - k) * 4 ≤ i * 4 := by omega
      have hki : k ≤ i := by omega
      have hif : (if k = 0 then some (([] : List Value), 0) else some (FT, k)) = some (FT, k) := by
        by_cases z : k = 0
        · rw [if_pos z, hFT, z]; rfl
        · rw [if_neg z]
      have hif2 : (if i - k = 0 then some (([] : List Value), 0) else some (FD, i - k)) = some (FD, i - k) := by
        by_cases z : i - k = 0
        · rw [if_pos z, z]
          have : FD = [] := List.length_eq_zero_iff.1 (by omega)
          rw [this]
        · rw [if_neg z]
      have q6 : (k + 1) * 4 ≤ k * 4 + 4 := by omega
      have t4 : (FT ++ [Value.int .i64 t.row, .int .i64 t.x, .int .i64 t.y, .int .i64 t.kind]).take ((k + 1) * 4) = FT ++ [Value.int .i64 t.row, .int .i64 t.x, .int .i64 t.y, .int .i64 t.kind] := List.take_of_length_le (by simp; omega)
      have b1 : ¬ bu = H'.n := by omega
      have b2 : ¬ bu = H'.n + 1 := by omega
      have b3 : ¬ bu = H'.n + 1 + 1 := by omega
      have b4 : ¬ bu = H'.n + 1 + 1 + 1 := by omega
      rw [hrow, ← hFT, ← hFD] at nxt
      by_cases hk0 : k = 0
      · have hnk : ¬ 0 < k := by omega
        have tail := nxt (fun j a hj => by omega)
        simp -implicitDefEqProofs [g1, g2, g4, g5, g6, x1, x2, x4, hnk]
        rw [altQ_cons, altQ_cons, altQ_cons, altQ_nil]
        refine ⟨?_, ?_, ?_, trivial⟩ <;>
        · simp -implicitDefEqProofs [opBuildSlice, hr4, opAppend, srcCells, maxA, g1, g2, g4, g5, g6, x1, x2, x4, hin, hbH, hlc', hd4', w1, hw1, a1, a2, a3, a4, c1, c2, c3, c4, c5, c6, hbu, hFl, ← hFT, ← hFD, t1, t1', t2, t3, q1, q2, q3, q4, q5, hki, hif, hif2, b1, b2, b3, b4, hFTl, hFDl, q6, t4]
          apply tail (H'.n + 1 + 1 + 1 + 1)
          · repeat' (first | exact Ext.new _ _ | apply Ext.newOf | refine Ext.setOf ?_ ?_ _)
            all_goals omega
          · simp [seatC]
          · omega
          · simp
          · simp
          · simp
          · simp
          · simp
          · simp [hcv]
          · simp [zVen]
          · simp
      · obtain ⟨j, hkk⟩ : ∃ j, k = j + 1 := ⟨k - 1, by omega⟩
        have hji : j < i := by omega
        have htj : xs[j]? = some xs[j] := List.getElem?_eq_getElem (by omega)
        obtain ⟨p, hp⟩ : ∃ p, p = xs[j] := ⟨_, rfl⟩
        rw [← hp] at htj
        have hdj : (F.drop (j * 4)).take 4 = [Value.int .i64 p.row, .int .i64 p.x, .int .i64 p.y, .int .i64 p.kind] := by
          rw [hF, flatA_drop 4 seatC_len, List.drop_eq_getElem_cons (by omega), ← hp]; rfl
        have hj4 : j * 4 + 4 ≤ i * 4 := by omega
        have w2 : IntKind.wrap .i64 ((k : Int) - 1) = (j : Int) := by rw [i64wrap (by omega)]; omega
        have hkp : 0 < k := by omega
        simp -implicitDefEqProofs [g1, g2, g4, g5, g6, x1, x2, x4, hkp, hin, hbH, hlc', hd4', hbu, hFl, hji, hdj, hj4, w2]
        refine (rless_ok t p H').mono ?_
        rintro r H3 ⟨e3, rfl⟩
        replace e3 := e3.symm
        subst e3
        simp -implicitDefEqProofs [callP]
        intro _
        cases hless : lessS t p with
        | true =>
          simp -implicitDefEqProofs [g1, g2, g4, g5, g6, x1, x2, x4, w2]
          exact ⟨j, by omega, by omega, rfl, fun i' a hi' ha => by
            rcases Nat.lt_or_ge i' k with q | q
            · have : i' = j := by omega
              subst this
              rw [htj] at ha
              obtain rfl := Option.some.inj ha
              exact hless
            · exact hup i' a q ha, by simp, by simp, by simp, by simp, by simp, by simp [hcv], by simp [zVen], by simp [hxl]⟩
        | false =>
          have tail := nxt (fun i' a hi' ha => by rw [show i' = j by omega, htj] at ha; obtain rfl := Option.some.inj ha; exact hless)
          simp -implicitDefEqProofs [g1, g2, g4, g5, g6, x1, x2, x4]
          rw [altQ_cons, altQ_cons, altQ_cons, altQ_nil]
          refine ⟨?_, ?_, ?_, trivial⟩ <;>
          · simp -implicitDefEqProofs [opBuildSlice, hr4, opAppend, srcCells, maxA, g1, g2, g4, g5, g6, x1, x2, x4, hin, hbH, hlc', hd4', w1, hw1, a1, a2, a3, a4, c1, c2, c3, c4, c5, c6, hbu, hFl, ← hFT, ← hFD, t1, t1', t2, t3, q1, q2, q3, q4, q5, hki, hif, hif2, b1, b2, b3, b4, hFTl, hFDl, q6, t4]
            apply tail (H'.n + 1 + 1 + 1 + 1)
            · repeat' (first | exact Ext.new _ _ | apply Ext.newOf | refine Ext.setOf ?_ ?_ _)
              all_goals omega
            · simp [seatC]
            · omega
            · simp
            · simp
            · simp
            · simp
            · simp
            · simp [hcv]
            · simp [zVen]
            · simp
  · have hie : i = n := by omega
    have hye : xs.Perm v.seats := by rw [hie, hn, List.take_length] at hpe; exact hpe
    have hxl : xs.length = n := by have := hye.length_eq; omega
    obtain ⟨rfl, ho⟩ := id hO
    have hwx : List.length xs = n := hxl
    rw [hxl] at x4
    simp -implicitDefEqProofs [hin, g1, g2, g4, g5, x1, x2, x4]
    refine vc_loop (J12c h H v cv xs (.slice (o.map fun b => ⟨b, 0, none⟩) n n) (.slice ad3 pn c3)) kn ⟨0, [], none, .slice none 0 0, by omega, by omega, Ext.rfl' H, by simp [Ri], by simp, by simp, fun j k hj => by omega, OwO.nil, by simp, by simp, by simp, by simp, by simp [hcv], by simp [zVen], by simp⟩ ?_
    clear g1 g2 g4 g5 x1 x2 x4
    rintro m ⟨T, ⟨x, H'⟩⟩ ⟨i2, ks, o2, kv, rfl, hi2, hE2, hri, hkl, hmem, hinr, hO2, g1, g2, g4, g7, x1, x2, x4⟩
    simp at hE2 hO2 g1 g2 g4 g7 x1 x2 x4
    rw [hcv] at x1
    obtain ⟨rfl, _⟩ := id hO2
    simp -implicitDefEqProofs [g1, g2, g4, g7, x1, x2, x4]
    refine condQ_of (fun hc => ?_) (fun hc => ?_) <;> simp only [decide_eq_true_eq, decide_eq_false_iff_not] at hc
    · have him : i2 < kn := by omega
      have hti : v.kills[i2]? = some v.kills[i2] := List.getElem?_eq_getElem (by omega)
      obtain ⟨_, b1, of1, wb1, cs1, r1, rfl, hb1, hd1, hl1, _⟩ := ((h2.ext hE).ext hE2).at 1 intC_len hti
      obtain ⟨t, ht⟩ : ∃ t, t = v.kills[i2] := ⟨_, rfl⟩
      rw [← ht] at hd1 hti
      rw [Nat.mul_one] at hd1 hl1
      have d1 : (cs1.drop (of1 + i2)).take 1 = [.int .i64 t] := by rw [hd1]; rfl
      have w3 : IntKind.wrap .i64 ((n : Int) - 1) = (n : Int) - 1 := i64wrap (by omega)
      simp -implicitDefEqProofs [g1, g2, g4, g7, x1, x2, x4, him, hb1, d1, hl1, w3]
      refine (rin_ok t 0 ((n : Int) - 1) H').mono ?_
      rintro r H3 ⟨e3, rfl⟩
      replace e3 := e3.symm
      subst e3
      simp -implicitDefEqProofs [callP]
      intro _
      by_cases q1 : inB t 0 ((n : Int) - 1) = true
      rotate_left
      · have hno : killsIn v = false := by
          unfold killsIn
          rw [Bool.eq_false_iff]
          intro q
          rw [List.all_eq_true] at q
          have := q t (List.mem_of_getElem? hti)
          simp only [inB, Bool.and_eq_true, decide_eq_true_eq] at q1 this
          omega
        simp -implicitDefEqProofs [q1, g1, g2, g4, g7, x1, x2, x4]
        exact ⟨hE.trans hE2, .inl ⟨hno, by simp [zVen]⟩⟩
      simp only [inB, Bool.and_eq_true, decide_eq_true_eq] at q1
      have q1' : inB t 0 ((n : Int) - 1) = true := by simp [inB]; omega
      obtain ⟨a, ha⟩ : ∃ a : Nat, t = a := ⟨t.toNat, by omega⟩
      subst ha
      have hal : a < n := by omega
      have hsa : v.seats[a]? = some v.seats[a] := List.getElem?_eq_getElem (by omega)
      obtain ⟨_, b2, of2, wb2, cs2, r2, rfl, hb2, hd2, hl2, hbn2⟩ := ((h1.ext hE).ext hE2).at 4 seatC_len hsa
      obtain ⟨u, hu⟩ : ∃ u, u = v.seats[a] := ⟨_, rfl⟩
      rw [← hu] at hd2 hsa
      have d2 : (cs2.drop (of2 + a * 4)).take 4 = [Value.int .i64 u.row, .int .i64 u.x, .int .i64 u.y, .int .i64 u.kind] := by rw [hd2]; rfl
      have hl2' : of2 + a * 4 + 4 ≤ cs2.length := hl2
      simp -implicitDefEqProofs [q1', g1, g2, g4, g7, x1, x2, x4, him, hb1, d1, hl1, hal, hb2, d2, hl2']
      have huin : u ∈ xs := hye.symm.subset (List.mem_of_getElem? hsa)
      have hx0 : 0 < n := by omega
      obtain ⟨bu, rfl⟩ : ∃ bu, o = some bu := by
        cases o with
        | none => simp only at ho; rw [ho] at huin; simp at huin
        | some b => exact ⟨b, rfl⟩
      simp only at ho
      obtain ⟨hbu, hb1', hb2'⟩ := ho
      have hbu' : H'.f bu = .row true 57 (xs.flatMap seatC) := by rw [hE2.f bu hb2']; exact hbu
      obtain ⟨F, hF⟩ : ∃ F, F = xs.flatMap seatC := ⟨_, rfl⟩
      have hFl : F.length = n * 4 := by rw [hF, flatA_len 4 seatC_len, hxl]
      rw [← hF] at hbu'
      refine vc_loop (J12d H' v cv xs u (.slice (some ⟨bu, 0, none⟩) n n) (.slice ad3 pn c3) (.slice (o2.map fun b => ⟨b, 0, none⟩) ks.length ks.length) i2) n ⟨0, by omega, by omega, rfl, fun j t hj => by omega, by simp, by simp, by simp, by simp, by simp, by simp, by simp [hcv], by simp [zVen], by simp, by simp [seatC]⟩ ?_
      clear g1 g2 g4 g7 x1 x2 x4
      rintro m ⟨T, ⟨x, H3⟩⟩ ⟨e, rfl, he, rfl, hnot, g1, g2, g4, g7, g8, g9, x1, x2, x4, x8⟩
      simp at g1 g2 g4 g7 g8 g9 x1 x2 x4 x8 hE2 hbu' hO2
      rw [hcv] at x1
      rw [hxl] at he
      have htj : xs[e]? = some xs[e] := List.getElem?_eq_getElem (by omega)
      obtain ⟨p, hp⟩ : ∃ p, p = xs[e] := ⟨_, rfl⟩
      rw [← hp] at htj
      have hde : F.drop (e * 4) = seatC p ++ (xs.drop (e + 1)).flatMap seatC := by
        rw [hF, flatA_drop 4 seatC_len, List.drop_eq_getElem_cons (by omega), ← hp]; rfl
      have f1 : (F.drop (e * 4)).take 1 = [.int .i64 p.row] := by rw [hde]; rfl
      have f2 : (F.drop (e * 4 + 1)).take 1 = [.int .i64 p.x] := by rw [← List.drop_drop, hde]; rfl
      have m1 : e * 4 + 1 ≤ n * 4 := by omega
      have m2 : e * 4 + 1 + 1 ≤ n * 4 := by omega
      obtain ⟨e1, he1⟩ : ∃ e1, e1 = e + 1 := ⟨_, rfl⟩
      have w4 : IntKind.wrap .i64 ((e : Int) + 1) = (e1 : Int) := by rw [i64wrap (by omega)]; omega
      simp only [seatC] at x8
      have w5 : IntKind.wrap .i64 ((i2 : Int) + 1) = ((i2 + 1 : Nat) : Int) := by rw [i64wrap (by omega)]; omega
      have hkt : (killedL v).take (i2 + 1) = (killedL v).take i2 ++ [u] := by
        rw [List.take_add_one]
        congr 1
        simp [killedL, hti, hsa]
      have nxt : findA (atS u) xs = e → ∀ {H4 : Heap}, Ext H3 H4 → ∀ zs o4, PutR ks e zs → ∀ σ2 : St, σ2.m.h = H4 → OwO 3 intC h H4 o4 zs (.slice (o4.map fun b => ⟨b, 0, none⟩) zs.length zs.length) →
          σ2.t.get 1 = some (.pointer (some ⟨1, 0, some 0⟩)) → σ2.t.get 2 = some (.pointer (some ⟨2, 0, some 0⟩)) → σ2.t.get 4 = some (.pointer (some ⟨4, 0, some 0⟩)) → σ2.t.get 7 = some (.int .i64 ((i2 + 1 : Nat) : Int)) →
          σ2.m.x.look 1 = some (33, cv) → σ2.m.x.look 2 = some (33, zVen) → σ2.m.x.look 4 = some (33, [.slice (some ⟨bu, 0, none⟩) n n, .int .i64 v.gap, .int .i64 v.radius, .slice (o4.map fun b => ⟨b, 0, none⟩) zs.length zs.length, .slice ad3 pn c3]) →
          ∃ j, j < v.kills.length - i2 ∧ J12c h H v cv xs (.slice (some ⟨bu, 0, none⟩) n n) (.slice ad3 pn c3) j σ2 := by
        intro hfa H4 E4 zs o4 hPut σ2 hσ hO4 r1 r2 r4 r7 y1 y2 y4
        subst hσ
        obtain ⟨pr1, pr2⟩ := put_ri hri hPut
        have pl := put_len hPut
        refine ⟨v.kills.length - (i2 + 1), by omega, i2 + 1, zs, o4, _, rfl, by omega, hE2.trans E4, pr1, by omega, fun z => ?_, ?_, hO4, r1, r2, r4, r7, y1, y2, y4⟩
        · rw [pr2, hmem, hkt, List.map_append, List.mem_append]
          simp [hfa]
        · intro j k hj hjk
          rcases Nat.lt_or_ge j i2 with z | z
          · exact hinr j k z hjk
          · have : j = i2 := by omega
            subst this
            rw [hti] at hjk
            obtain rfl := Option.some.inj hjk
            omega
      by_cases hlast : e1 < n
      · have hl' : (e1 : Int) < (n : Int) := by omega
        have cont : atS u p = false → ∀ σ2 : St, σ2.m.h = H3 → σ2.t.get 1 = some (.pointer (some ⟨1, 0, some 0⟩)) → σ2.t.get 2 = some (.pointer (some ⟨2, 0, some 0⟩)) → σ2.t.get 4 = some (.pointer (some ⟨4, 0, some 0⟩)) → σ2.t.get 7 = some (.int .i64 (i2 : Nat)) → σ2.t.get 8 = some (.pointer (some ⟨8, 0, some 0⟩)) → σ2.t.get 9 = some (.int .i64 (e1 : Nat)) →
            σ2.m.x.look 1 = some (33, cv) → σ2.m.x.look 2 = some (33, zVen) → σ2.m.x.look 4 = some (33, [.slice (some ⟨bu, 0, none⟩) n n, .int .i64 v.gap, .int .i64 v.radius, .slice (o2.map fun b => ⟨b, 0, none⟩) ks.length ks.length, .slice ad3 pn c3]) → σ2.m.x.look 8 = some (57, seatC u) →
            ∃ j, j < xs.length - e ∧ J12d H3 v cv xs u (.slice (some ⟨bu, 0, none⟩) n n) (.slice ad3 pn c3) (.slice (o2.map fun b => ⟨b, 0, none⟩) ks.length ks.length) i2 j σ2 := by
          intro hq σ2 hσ r1 r2 r4 r7 r8 r9 y1 y2 y4 y8
          refine ⟨xs.length - e1, by omega, e1, rfl, by omega, hσ, fun j t hj hjt => ?_, r1, r2, r4, r7, r8, r9, y1, y2, y4, y8⟩
          rcases Nat.lt_or_ge j e with z | z
          · exact hnot j t z hjt
          · have : j = e := by omega
            subst this
            rw [htj] at hjt
            obtain rfl := Option.some.inj hjt
            exact hq
        by_cases r1 : p.row = u.row
        · by_cases r2 : p.x = u.x
          · have hfa : findA (atS u) xs = e := find_hit htj (by simp [atS, r1, r2]) hnot
            simp -implicitDefEqProofs [g1, g2, g4, g7, g8, g9, x1, x2, x4, x8, w4, hlast, hl', he, hbu', hFl, f1, f2, m1, m2, r1, r2]
            refine (put_ok _ ks e (by omega) h H3 (by have := hE.n; have := hE2.n; omega) o2 hO2).mono ?_
            rintro r H4 ⟨E4, zs, o4, hPut, hO4⟩
            obtain ⟨rfl, _⟩ := id hO4
            simp -implicitDefEqProofs [callQ]
            intro _
            simp -implicitDefEqProofs [g1, g2, g4, g7, x1, x2, x4, w5]
            exact nxt hfa E4 zs o4 hPut _ (by simp) (by simpa using hO4) (by simp) (by simp) (by simp) (by simp) (by simp [hcv]) (by simp [zVen]) (by simp)
          · simp -implicitDefEqProofs [g1, g2, g4, g7, g8, g9, x1, x2, x4, x8, w4, hlast, hl', he, hbu', hFl, f1, f2, m1, m2, r1, r2]
            exact cont (by simp [atS, r2]) _ (by simp) (by simp) (by simp) (by simp) (by simp) (by simp) (by simp) (by simp [hcv]) (by simp [zVen]) (by simp) (by simp [seatC])
        · simp -implicitDefEqProofs [g1, g2, g4, g7, g8, g9, x1, x2, x4, x8, w4, hlast, hl', he, hbu', hFl, f1, f2, m1, m2, r1]
          exact cont (by simp [atS, r1]) _ (by simp) (by simp) (by simp) (by simp) (by simp) (by simp) (by simp) (by simp [hcv]) (by simp [zVen]) (by simp) (by simp [seatC])
      · have hl' : ¬ (e1 : Int) < (n : Int) := by omega
        have hfa : findA (atS u) xs = e := by
          obtain ⟨j, hj⟩ := List.mem_iff_getElem?.1 huin
          have hjn := (List.getElem?_eq_some_iff.mp hj).1
          rcases Nat.lt_or_ge j e with z | z
          · have := hnot j u z hj
            simp [atS] at this
          · have : j = e := by omega
            subst this
            exact find_hit hj (by simp [atS]) hnot
        simp -implicitDefEqProofs [g1, g2, g4, g7, g8, g9, x1, x2, x4, x8, w4, hlast, hl']
        refine (put_ok _ ks e (by omega) h H3 (by have := hE.n; have := hE2.n; omega) o2 hO2).mono ?_
        rintro r H4 ⟨E4, zs, o4, hPut, hO4⟩
        obtain ⟨rfl, _⟩ := id hO4
        simp -implicitDefEqProofs [callQ]
        intro _
        simp -implicitDefEqProofs [g1, g2, g4, g7, x1, x2, x4, w5]
        exact nxt hfa E4 zs o4 hPut _ (by simp) (by simpa using hO4) (by simp) (by simp) (by simp) (by simp) (by simp [hcv]) (by simp [zVen]) (by simp)
    · have hik : i2 = kn := by omega
      have hki : killsIn v = true := by
        unfold killsIn
        rw [List.all_eq_true]
        intro t ht
        obtain ⟨j, hj⟩ := List.mem_iff_getElem?.1 ht
        have := (List.getElem?_eq_some_iff.mp hj).1
        have := hinr j t (by omega) hj
        simp only [Bool.and_eq_true, decide_eq_true_eq]
        omega
      have hmem' : ∀ x, x ∈ ks ↔ x ∈ (killedL v).map (fun s => findA (atS s) xs) := by
        intro x
        rw [hmem, List.take_of_length_le (by simp [killedL]; omega)]
      have hs1 := (hO.own.sl).ext hE2
      rw [hxl] at hs1
      have hcu : VenC H' ⟨xs, v.gap, v.radius, ks, v.poles⟩ [.slice (o.map fun b => ⟨b, 0, none⟩) n n, .int .i64 v.gap, .int .i64 v.radius, .slice (o2.map fun b => ⟨b, 0, none⟩) ks.length ks.length, .slice ad3 pn c3] :=
        ⟨_, _, _, rfl, hs1, hO2.own.sl, (h3.ext hE).ext hE2⟩
      have hsm : venSmall ⟨xs, v.gap, v.radius, ks, v.poles⟩ := ⟨by simp only; omega, by simp only; omega, by simp only; omega⟩
      simp -implicitDefEqProofs [g1, g2, g4, g7, x1, x2, x4]
      refine (rmay_ok _ _ hsm H' hcu).mono ?_
      rintro r H3 ⟨e3, rfl⟩
      replace e3 := e3.symm
      subst e3
      simp -implicitDefEqProofs [callQ]
      intro _
      cases hmay : mayV ⟨xs, v.gap, v.radius, ks, v.poles⟩ with
      | true =>
        simp -implicitDefEqProofs [g1, g2, g4, g7, x1, x2, x4]
        exact ⟨hE.trans hE2, .inr ⟨hki, xs, ks, hye, hso.sorted, hri, hmem', .inl ⟨hmay, _, hcu, rfl⟩⟩⟩
      | false =>
        simp -implicitDefEqProofs [g1, g2, g4, g7, x1, x2, x4]
        exact ⟨hE.trans hE2, .inr ⟨hki, xs, ks, hye, hso.sorted, hri, hmem', .inr ⟨hmay, by simp [zVen]⟩⟩⟩
end Go.Proofs.Yph.V
namespace Go.Proofs
open Go.Shelf Go.RowKit Go.Lib Go.Sort
def Tryz.compactInts_ren : Go.Shelf.Ren := ⟨fun | 20 => 58 | n => n, fun | 22 => 22 | 3 => 3 | 4 => 4 | 0 => 0 | n => n, fun | n => n⟩
theorem Tryz.compactInts : Lays2.n20 Tryz.prog Tryz.compactInts_ren := {
  mixed := by kernel_rfl,
  f20 := Tryz.func58.trans (congrArg some (by kernel_rfl)),
  t0 := Tryz.underlying0,
  a0 := Tryz.isAgg0,
  z0 := Tryz.sizeOf0,
  v0 := Tryz.zeroValue0,
  t3 := Tryz.underlying3,
  a3 := Tryz.isAgg3,
  z3 := Tryz.sizeOf3,
  v3 := Tryz.zeroValue3,
  t4 := Tryz.underlying4,
  a4 := Tryz.isAgg4,
  z4 := Tryz.sizeOf4,
  v4 := Tryz.zeroValue4,
  t22 := Tryz.underlying22,
  a22 := Tryz.isAgg22,
  z22 := Tryz.sizeOf22,
  v22 := Tryz.zeroValue22,
  i3 := by kernel_rfl }
end Go.Proofs
namespace Go.Proofs.Yph.V
open Go Go.Am
set_option maxRecDepth 20000
set_option maxHeartbeats 2000000
theorem cp_len (xs : List Int) : (Lib.compact xs).length ≤ xs.length := by
  unfold Lib.compact Lib.compactUpTo
  rw [List.length_map]
  exact Nat.le_trans (List.length_filter_le _ _) (by simp)
def cpZ (xs : List Int) : List Int := Lib.compact xs ++ List.replicate (xs.length - (Lib.compact xs).length) 0
theorem cpZ_len (xs : List Int) : (cpZ xs).length = xs.length := by
  have := cp_len xs
  unfold cpZ
  simp; omega
theorem compactI_ok (b c : Nat) (xs : List Int) (hn : xs ≠ []) (hl : xs.length ≤ 1073741824) (h : Heap) (hb : h.f b = .row true 3 (xs.flatMap intC)) :
    ACalls PP 58 [.slice (some ⟨b, 0, none⟩) xs.length c] h (fun r h' => r = .slice (some ⟨b, 0, none⟩) (Lib.compact xs).length (Lib.compact xs).length ∧ h' = h.set b (.row true 3 ((cpZ xs).flatMap intC))) := by
  rw [PP_eq]
  refine ⟨⟨Tryz.f58, Tryz.func58, by kernel_rfl, by kernel_rfl⟩, fun ρ w args' hbx R V => ?_⟩
  obtain ⟨v0, hv0, V0⟩ := V.2 0 _ rfl
  have hargs : args' = [v0] := by
    have := V.1
    match args', hv0, this with
    | [p], h0, _ => simp at h0; rw [h0]
  subst hargs
  have hlen : 0 < xs.length := List.length_pos_iff.2 hn
  obtain ⟨pl, cap, hk, hc1, hc2, e0⟩ : ∃ pl cap, ρ (false, b) = some pl ∧ xs.length ≤ cap ∧ 0 + cap * pl.sz ≤ pl.n ∧ v0 = .slice (some ⟨pl.B, pl.o, none⟩) xs.length cap := by
    rcases V0.slice_some with ⟨a', e, _⟩ | ⟨b', off, pl, cap, e, hk, hc, hn', rfl⟩
    · omega
    · simp only [Addr.mk.injEq, and_true] at e
      obtain ⟨rfl, rfl⟩ := e
      exact ⟨pl, cap, hk, hc, hn', by simp⟩
  subst e0
  obtain ⟨C, e', fz, c1, c2, c3, c4, c5, c6⟩ := R.row (false, b) pl true 3 (xs.flatMap intC) hk (by simp [Mem.row?, hb])
  obtain rfl := c2 rfl
  have hblk := R.bound _ _ hk
  have hfl : (xs.flatMap intC).length = xs.length := by have := flatA_len 1 intC_len xs; omega
  have hcell : ∀ j (hj : j < xs.length), C[pl.o + j]? = some (.int .i64 xs[j]) := by
    intro j hj
    obtain ⟨v', q1, q2⟩ := c6 j _ (int_get xs j hj)
    rw [q1]
    congr 1
    exact q2.flat1 rfl
  have hH : Go.Sort.Holds (Value.int .i64) w pl.B pl.o xs.toArray := by
    intro j hj
    have hj' : j < xs.length := by simpa using hj
    have e : xs.toArray[j]! = xs[j] := by simp [hj']
    rw [e]
    constructor
    · unfold World.cell?
      simp only [c1, Option.isSome_none]
      exact hcell j hj'
    · unfold World.frozen?
      simp only [c1]
      simp
  have hcon' : Calls Tryz.prog 58 ⟨[.slice (some ⟨pl.B, pl.o, none⟩) xs.length cap]⟩ w _ := Any.slices_Compact_int Tryz.compactInts pl.B pl.o cap xs w hH (by omega) (by omega)
  refine hcon'.mono ?_
  rintro e w' ⟨rfl, n, rfl⟩
  have hd : (cpZ xs).length = xs.length := cpZ_len xs
  refine ⟨.slice (some ⟨b, 0, none⟩) (Lib.compact xs).length (Lib.compact xs).length, .slice (some ⟨pl.B, pl.o, none⟩) (Lib.compact xs).length cap, _, ρ, rfl, ⟨rfl, rfl⟩, hbx, ?_⟩
  have hfl' : ((cpZ xs).flatMap intC).length = xs.length := by have := flatA_len 1 intC_len (cpZ xs); omega
  have hheap : (Go.Sort.putRow (Value.int .i64) (Go.Sort.ahead w n) pl.B pl.o (cpZ xs).toArray).heap = (w.heap.modify pl.B (Go.Sort.onCells (Go.Sort.putCells (Value.int .i64) pl.o (cpZ xs).toArray))) := rfl
  have hsz : (w.heap.modify pl.B (Go.Sort.onCells (Go.Sort.putCells (Value.int .i64) pl.o (cpZ xs).toArray))).size = w.heap.size := by simp
  obtain ⟨q1, q2⟩ := turned R hk hb (cs' := (cpZ xs).flatMap intC) (by rw [hfl', hfl]) (w' := Go.Sort.putRow (Value.int .i64) (Go.Sort.ahead w n) pl.B pl.o (cpZ xs).toArray) rfl rfl rfl (Nat.le_add_right _ _) (by rw [hheap, hsz]; omega)
    (fun B hB hne => by
      rw [hheap, Array.getElem?_modify, if_neg (Ne.symm hne)])
    (fun C2 e2 fz2 hC2 => by
      rw [c1] at hC2
      simp only [Option.some.injEq, Obj.cells.injEq] at hC2
      obtain ⟨rfl, rfl, rfl⟩ := hC2
      refine ⟨Go.Sort.putCells (Value.int .i64) pl.o (cpZ xs).toArray C, ?_, by simp [Go.Sort.putCells], fun i v hi => ?_⟩
      · rw [hheap, Array.getElem?_modify, if_pos rfl, c1]; rfl
      · have hi' : i < (cpZ xs).length := by have := (List.getElem?_eq_some_iff.mp hi).1; omega
        rw [int_get _ i hi'] at hi
        obtain rfl := Option.some.inj hi
        have hin : pl.o + i < C.size := by omega
        refine ⟨.int .i64 (cpZ xs)[i], ?_, .int _ _⟩
        unfold Go.Sort.putCells
        rw [Array.getElem?_mapIdx, Array.getElem?_eq_getElem hin]
        simp only [Option.map_some]
        rw [if_pos ⟨by omega, by simp; omega⟩, Nat.add_sub_cancel_left]
        simp [hi'])
  have hz : (Lib.compact xs).length ≤ cap := Nat.le_trans (cp_len xs) (by omega)
  exact ⟨q1, q2, by have := VR.sl (ρ := ρ) b 0 (Lib.compact xs).length (Lib.compact xs).length pl cap hk hz (by omega); simpa using this⟩

/-- of a sorted list it is the rising one of the same numbers -/
theorem compact_rise (xs : List Int) (hs : xs.Pairwise (fun a b => a ≤ b)) : (Lib.compact xs).Pairwise (fun a b => a < b) ∧ ∀ x, x ∈ Lib.compact xs ↔ x ∈ xs := by
  have key : ∀ m, m ≤ xs.length → (Lib.compactUpTo xs.toArray m).Pairwise (fun a b => a < b) ∧ (∀ x, x ∈ Lib.compactUpTo xs.toArray m ↔ x ∈ xs.take m) := by
    intro m
    induction m with
    | zero => intro _; simp [Lib.compactUpTo]
    | succ m ih =>
      intro hm
      obtain ⟨i1, i2⟩ := ih (by omega)
      have e : xs.toArray[m]! = xs[m] := by simp [show m < xs.length by omega]
      rw [Lib.compactUpTo_succ, e, List.take_add_one, List.getElem?_eq_getElem (by omega : m < xs.length)]
      cases hk : Lib.keeps xs.toArray m with
      | true =>
        rw [if_pos rfl]
        refine ⟨?_, fun x => by rw [List.mem_append, i2, List.mem_append]; simp⟩
        rw [List.pairwise_append]
        refine ⟨i1, by simp, fun a ha b hb => ?_⟩
        obtain rfl := List.mem_singleton.1 hb
        obtain ⟨j, hj⟩ := List.mem_iff_getElem?.1 ((i2 a).1 ha)
        rw [List.getElem?_take] at hj
        split at hj
        rotate_left
        · cases hj
        rename_i hjm
        obtain ⟨z1, rfl⟩ := List.getElem?_eq_some_iff.mp hj
        have h1 := (List.pairwise_iff_getElem.1 hs) j (m - 1) z1 (by omega)
        have h2 := (List.pairwise_iff_getElem.1 hs) (m - 1) m (by omega) (by omega) (by omega)
        have h3 : xs[j] ≤ xs[m - 1]'(by omega) := by
          by_cases q : j = m - 1
          · subst q; omega
          · exact h1 (by omega)
        have h4 : xs[m] ≠ xs[m - 1]'(by omega) := by
          unfold Lib.keeps at hk
          rw [decide_eq_true_eq] at hk
          rcases hk with q | q
          · omega
          · rw [e] at q
            have e2 : xs.toArray[m - 1]! = xs[m - 1]'(by omega) := by simp [show m - 1 < xs.length by omega]
            rw [e2] at q
            exact q
        omega
      | false =>
        rw [if_neg (by simp), List.append_nil]
        refine ⟨i1, fun x => ?_⟩
        rw [i2, List.mem_append]
        constructor
        · intro q; exact .inl q
        · rintro (q | q)
          · exact q
          · simp at q
            subst q
            unfold Lib.keeps at hk
            rw [decide_eq_false_iff_not] at hk
            have hm0 : m ≠ 0 := fun z => hk (.inl z)
            have e2 : xs.toArray[m - 1]! = xs[m - 1]'(by omega) := by simp [show m - 1 < xs.length by omega]
            have h4 : xs[m] = xs[m - 1]'(by omega) := by
              apply Classical.byContradiction
              intro z
              exact hk (.inr (by rw [e, e2]; exact z))
            rw [h4]
            exact List.mem_take_iff_getElem.2 ⟨m - 1, by omega, rfl⟩
  obtain ⟨k1, k2⟩ := key xs.length (Nat.le_refl _)
  rw [List.take_length] at k2
  exact ⟨k1, k2⟩
end Go.Proofs.Yph.V
namespace Go.Proofs.Yph.V
open Go Go.Am
set_option maxRecDepth 20000
set_option maxHeartbeats 4000000
theorem compact_any (v : Value) (xs : List Int) (h0 h : Heap) (hl : xs.length ≤ 1073741824) (ho : OwA 3 intC h0 h v xs) :
    ACalls PP 58 [v] h (fun r h' => SlA 3 intC h' r (Lib.compact xs) ∧ (h' = h ∨ ∃ b cs, h0.n ≤ b ∧ b < h.n ∧ h' = h.set b (.row true 3 cs))) := by
  by_cases hx : xs = []
  · subst hx
    refine (compactN_ok v [] hl (fun i a b h1 _ => by simp at h1) h ho.sl).mono ?_
    rintro r h' ⟨rfl, rfl⟩
    exact ⟨ho.sl, .inl rfl⟩
  · obtain ⟨ad, rfl, z⟩ := ho
    rcases z with ⟨_, z⟩ | ⟨b, rfl, hb, hb1, hb2⟩
    · exact absurd z hx
    refine (compactI_ok b xs.length xs hx hl h hb).mono ?_
    rintro r h' ⟨rfl, rfl⟩
    refine ⟨⟨_, _, rfl, fun q => by simp at q, .inr ⟨b, 0, true, (cpZ xs).flatMap intC, (List.replicate (xs.length - (Lib.compact xs).length) (0 : Int)).flatMap intC, rfl, by simp, ?_, by simp, ?_⟩⟩, .inr ⟨b, _, hb1, hb2, rfl⟩⟩
    · unfold cpZ; rw [List.drop_zero, List.flatMap_append]
    · exact hb2
theorem norm2_ok (v : VenR) (cs : List Value) (hv : venSmall v) (hk : v.kills.length ≤ 1000000) (h : Heap) (H : VenC h v cs) :
    ACalls PP 28 [.agg ⟨cs⟩] h (NormG v h) := by
  refine acalls_of_vc mix fn28 bodyEq28 rfl (by show 1 ≤ 78; decide) ok28 ?_
  simp only [body28, Tryz.f28]
  obtain ⟨s, k, p, rfl, h1, h2, h3⟩ := H
  obtain ⟨ad1, c1, e1⟩ := h1.shape
  obtain ⟨ad2, c2, e2⟩ := h2.shape
  obtain ⟨ad3, c3, e3⟩ := h3.shape
  subst e1; subst e2; subst e3
  obtain ⟨m, hm⟩ : ∃ m, m = v.kills.length := ⟨_, rfl⟩
  have hm' := hm
  rw [← hm] at h2 hk ⊢
  simp -implicitDefEqProofs
  refine vc_loop (J11a _ v (.slice ad2 m c2) h) _ ⟨0, .slice none 0 0, rfl, by omega, Ext.rfl' h, by simpa using OwA.nil, fun j k hj => by omega, by simp, by simp, by simp, by simp, by simp [hm], by simp, by simp; rfl, by simp [zVen]⟩ ?_
  rintro n ⟨T, ⟨x, H⟩⟩ ⟨i, kv, rfl, hi, hE, hO, hin, g1, g2, g4, g11, g12, g13, x1, x2⟩
  simp at hE hO g1 g2 g4 g11 g12 g13 x1 x2
  rw [← hm] at g12 hi
  simp -implicitDefEqProofs [g1, g2, g4, g11, g12, g13, x1, x2]
  refine condQ_of (fun hc => ?_) (fun hc => ?_) <;> simp only [decide_eq_true_eq, decide_eq_false_iff_not] at hc
  · have him : i < m := by omega
    have hti : v.kills[i]? = some v.kills[i] := List.getElem?_eq_getElem (by omega)
    obtain ⟨_, b1, o1, wb1, cs1, r1, rfl, hb1, hd1, hl1, _⟩ := (h2.ext hE).at 1 intC_len hti
    obtain ⟨t, ht⟩ : ∃ t, t = v.kills[i] := ⟨_, rfl⟩
    rw [← ht] at hd1 hti
    rw [Nat.mul_one] at hd1 hl1
    have bad : (t < 0 ∨ (v.seats.length : Int) ≤ t) → killsIn v = false := by
      intro hb
      unfold killsIn
      rw [Bool.eq_false_iff]
      intro q
      rw [List.all_eq_true] at q
      have := q t (List.mem_of_getElem? hti)
      simp at this
      omega
    by_cases q1 : t < 0
    · simp -implicitDefEqProofs [g1, g2, g4, g11, g12, g13, x1, x2, him, hb1, hd1, hl1, intC, q1]
      exact ⟨hE, .inl ⟨bad (.inl q1), by simp [zVen]⟩⟩
    · by_cases q2 : (v.seats.length : Int) ≤ t
      · simp -implicitDefEqProofs [g1, g2, g4, g11, g12, g13, x1, x2, him, hb1, hd1, hl1, intC, q1, q2]
        exact ⟨hE, .inl ⟨bad (.inr q2), by simp [zVen]⟩⟩
      · obtain ⟨a, ha⟩ : ∃ a : Nat, t = a := ⟨t.toNat, by omega⟩
        subst ha
        have hal : a < v.seats.length := by omega
        have hsa : v.seats[a]? = some v.seats[a] := List.getElem?_eq_getElem hal
        obtain ⟨_, b2, o2, wb2, cs2, r2, rfl, hb2, hd2, hl2, hbn2⟩ := (h1.ext hE).at 4 seatC_len hsa
        obtain ⟨u, hu⟩ : ∃ u, u = v.seats[a] := ⟨_, rfl⟩
        rw [← hu] at hd2 hsa
        have w1 : IntKind.wrap .i64 ((i : Int) + 1) = ((i + 1 : Nat) : Int) := by rw [i64wrap (by omega)]; omega
        have hkt : (killedL v).take (i + 1) = (killedL v).take i ++ [u] := by
          rw [List.take_add_one]
          congr 1
          simp [killedL, hti, hsa]
        have hkl : ((killedL v).take i).length = i := by rw [List.length_take]; simp [killedL]; omega
        have hin' : ∀ j k, j < i + 1 → v.kills[j]? = some k → 0 ≤ k ∧ k < v.seats.length := by
          intro j k hj hjk
          rcases Nat.lt_or_ge j i with z | z
          · exact hin j k z hjk
          · have : j = i := by omega
            subst this
            rw [hti] at hjk
            obtain rfl := Option.some.inj hjk
            omega
        have hr4 : List.range 4 = [0, 1, 2, 3] := rfl
        obtain ⟨ad, ekv, hz⟩ := hO
        rw [hkl] at ekv
        subst ekv
        rcases hz with ⟨rfl, hz⟩ | ⟨b, rfl, hbb, hb3, hb4⟩
        · have hi0 : i = 0 := by have := congrArg List.length hz; rw [hkl] at this; simpa using this
          have hsl : Value.slice none i i = Value.slice none 0 0 := by rw [hi0]
          simp only [hsl] at g4 ⊢
          simp -implicitDefEqProofs [g1, g2, g4, g11, g12, g13, x1, x2, him, hb1, hd1, hl1, intC, q1, q2, hal, hb2, hd2, hl2, seatC, opAppend, srcCells, opBuildSlice, maxA, hr4, w1]
          refine ⟨m - (i + 1), by omega, i + 1, _, by rw [← hm], by omega, (hE.newOf _).newOf _, ⟨some ⟨H.n + 1, 0, none⟩, ?_, .inr ⟨H.n + 1, rfl, ?_, ?_, by simp⟩⟩, hin', by simp, by simp, by simp; rfl, by simp [g11], by simp [hm], by simp, by simp, by simp⟩
          · rw [hkt, List.length_append, hkl, hi0]; rfl
          · simp [hkt, hz, seatC]
          · have := hE.n; omega
        · have hbn : ¬ b = H.n := by omega
          have hmx : (i + 1) * 32 ≤ 140737488355328 := by omega
          obtain ⟨F, hF⟩ : ∃ F, F = ((killedL v).take i).flatMap seatC := ⟨_, rfl⟩
          have hFl : F.length = i * 4 := by rw [hF, flatA_len 4 seatC_len, hkl]
          rw [← hF] at hbb
          simp -implicitDefEqProofs [g1, g2, g4, g11, g12, g13, x1, x2, him, hb1, hd1, hl1, intC, q1, q2, hal, hb2, hd2, hl2, seatC, opAppend, srcCells, opBuildSlice, maxA, hr4, w1, hbn, hbb, hFl, hmx]
          refine ⟨m - (i + 1), by omega, i + 1, _, by rw [← hm], by omega, ((hE.newOf _).setOf hb3 _).newOf _, ⟨some ⟨H.n + 1, 0, none⟩, ?_, .inr ⟨H.n + 1, rfl, ?_, ?_, by simp⟩⟩, hin', by simp, by simp, by simp; rfl, by simp [g11], by simp [hm], by simp, by simp, by simp⟩
          · rw [hkt, List.length_append, hkl]; rfl
          · have e8 : List.take (i * 4) (((killedL v).take i).flatMap seatC) = ((killedL v).take i).flatMap seatC := by rw [← hF]; exact List.take_of_length_le (by omega)
            simp [hkt, seatC, hF, e8]
          · have := hE.n; omega
  · have hie : i = m := by omega
    subst hie
    have hki : killsIn v = true := by
      unfold killsIn
      rw [List.all_eq_true]
      intro k hk'
      obtain ⟨j, hj, rfl⟩ := List.mem_iff_getElem.1 hk'
      have := hin j _ (by omega) (List.getElem?_eq_getElem hj)
      simp; omega
    have hkl : (killedL v).take i = killedL v := List.take_of_length_le (by simp [killedL]; omega)
    rw [hkl] at hO
    have hkll : (killedL v).length = i := by simp [killedL]; omega
    have hkv : ∃ ad, kv = .slice ad i i := by obtain ⟨ad, e, _⟩ := hO; exact ⟨ad, by rw [e, hkll]⟩
    obtain ⟨adK, eK⟩ := hkv
    subst eK
    simp -implicitDefEqProofs [g1, g2, g4, g11, g12, g13, x1, x2]
    refine (clone_ok _ v.seats hv.1 H (h1.ext hE)).mono ?_
    rintro w1 hA ⟨EA, OA⟩
    simp -implicitDefEqProofs [callP]
    intro _
    have hwA : ∃ ad, w1 = .slice ad v.seats.length v.seats.length := by obtain ⟨ad, e, _⟩ := OA; exact ⟨ad, e⟩
    refine (cloneP_ok _ v.poles hv.2.2 hA ((h3.ext hE).ext EA)).mono ?_
    rintro w2 hB ⟨EB, OB⟩
    have OA2 := OA.ext EB
    obtain ⟨adA, eA⟩ := hwA
    subst eA
    have hwB : ∃ ad, w2 = .slice ad v.poles.length v.poles.length := by obtain ⟨ad, e, _⟩ := OB; exact ⟨ad, e⟩
    obtain ⟨adB, eB⟩ := hwB
    subst eB
    simp -implicitDefEqProofs [callP]
    intro _
    refine (sortF_any _ v.seats H hB hv.1 OA2).mono ?_
    rintro r hC ⟨rfl, ys, hperm, hsort, OS, hch⟩
    have hys : ys.length = v.seats.length := hperm.length_eq
    have hbA : ∀ b n c, Value.slice adA v.seats.length v.seats.length = .slice (some ⟨b, 0, none⟩) n c → b < hA.n := by
      intro b n c e
      obtain ⟨ad, e2, z⟩ := OA
      rw [e2] at e
      simp only [Value.slice.injEq] at e
      rcases z with ⟨z, _⟩ | ⟨b', z, _, _, z4⟩
      · rw [z] at e; simp at e
      · rw [z] at e; simp at e; rw [← e.1]; exact z4
    have EHC : Ext H hC := by
      rcases hch with rfl | ⟨b, n, c, cs, e, hb1, hb2, rfl⟩
      · exact EA.trans EB
      · exact (EA.trans EB).setOf hb1 _
    have OB2 : OwA 93 poleC hA hC (.slice adB v.poles.length v.poles.length) v.poles := by
      rcases hch with rfl | ⟨b, n, c, cs, e, hb1, hb2, rfl⟩
      · exact OB
      · exact OwA.setNe OB cs (hbA b n c e)
    have OK := hO.ext EHC
    obtain ⟨K, hK⟩ : ∃ K, K = (killedL v).map (fun s => findA (atS s) ys) := ⟨_, rfl⟩
    have hKl : K.length = i := by rw [hK, List.length_map, hkll]
    simp -implicitDefEqProofs [callQ]
    intro _
    refine vc_loop (J11b (fun kq => [.slice adA v.seats.length v.seats.length, .int .i64 v.gap, .int .i64 v.radius, kq, .slice adB v.poles.length v.poles.length]) (.slice adK i i) K hC) _ ⟨0, .slice none 0 0, rfl, by omega, Ext.rfl' hC, by simpa using OwA.nil, by simp, by simp, by simp, by simp [hKl], by simp, by simp, by simp⟩ ?_
    clear g1 g2 g4 g11 g12 g13 x1 x2 hc
    rintro n ⟨T, ⟨x, D⟩⟩ ⟨j, kq, rfl, hj, ED, OQ, g2, g7, g50, g51, g52, x2, x7⟩
    simp at ED OQ g2 g7 g50 g51 g52 x2 x7
    rw [hKl] at g51 hj
    simp -implicitDefEqProofs [g2, g7, g50, g51, g52, x2, x7]
    refine condQ_of (fun hc => ?_) (fun hc => ?_) <;> simp only [decide_eq_true_eq, decide_eq_false_iff_not] at hc
    · have hji : j < i := by omega
      have hua : (killedL v)[j]? = some (killedL v)[j] := List.getElem?_eq_getElem (by omega)
      have OKD := OK.sl.ext ED
      obtain ⟨_, b1, o1, wb1, cs1, r1, e1, hb1, hd1, hl1, hbn1⟩ := (hkll ▸ OKD : SlA 57 seatC D (.slice adK i i) (killedL v)).at 4 seatC_len hua
      subst e1
      obtain ⟨u, hu⟩ : ∃ u, u = (killedL v)[j] := ⟨_, rfl⟩
      rw [← hu] at hd1 hua
      have hbD : ¬ b1 = D.n := by omega
      have w1 : IntKind.wrap .i64 ((j : Int) + 1) = ((j + 1 : Nat) : Int) := by rw [i64wrap (by omega)]; omega
      have hKj : K[j]? = some (findA (atS u) ys) := by rw [hK, List.getElem?_map, hua]; rfl
      have hKt : K.take (j + 1) = K.take j ++ [findA (atS u) ys] := by rw [List.take_add_one, hKj]; rfl
      have hKjl : (K.take j).length = j := by rw [List.length_take]; omega
      simp -implicitDefEqProofs [g2, g7, g50, g51, g52, x2, x7, hji, hb1, hd1, hl1, seatC]
      have ED2 : Ext D ((D.new (Blk.row true 57 [.int .i64 0, .int .i64 0, .int .i64 0, .int .i64 0])).set D.n (Blk.row true 57 [.int .i64 u.row, .int .i64 u.x, .int .i64 u.y, .int .i64 u.kind])) := (Ext.new D _).setOf (Nat.le_refl _) _
      have hsD : SeatS ((D.new (Blk.row true 57 [.int .i64 0, .int .i64 0, .int .i64 0, .int .i64 0])).set D.n (Blk.row true 57 [.int .i64 u.row, .int .i64 u.x, .int .i64 u.y, .int .i64 u.kind])) (.slice adA v.seats.length v.seats.length) ys := (OS.sl.ext ED).ext ED2
      refine (indexF_ok _ ys u D.n true (by have := hv.1; omega) _ hsD (by simp [seatC])).mono ?_
      rintro r h' ⟨rfl, rfl⟩
      obtain ⟨q, hq⟩ : ∃ q, q = findA (atS u) ys := ⟨_, rfl⟩
      rw [← hq] at hKt ⊢
      have hr1 : List.range 1 = [0] := rfl
      obtain ⟨ad, ekq, hz⟩ := OQ
      rw [hKjl] at ekq
      subst ekq
      have hGn : ((D.new (Blk.row true 57 [.int .i64 0, .int .i64 0, .int .i64 0, .int .i64 0])).set D.n (Blk.row true 57 [.int .i64 u.row, .int .i64 u.x, .int .i64 u.y, .int .i64 u.kind])).n = D.n + 1 := rfl
      obtain ⟨G, hG⟩ : ∃ G, G = ((D.new (Blk.row true 57 [.int .i64 0, .int .i64 0, .int .i64 0, .int .i64 0])).set D.n (Blk.row true 57 [.int .i64 u.row, .int .i64 u.x, .int .i64 u.y, .int .i64 u.kind])) := ⟨_, rfl⟩
      rw [← hG] at ED2 hGn ⊢
      have EDG : Ext hC G := ED.trans ED2
      rcases hz with ⟨rfl, hz⟩ | ⟨b, rfl, hbb, hb3, hb4⟩
      · have hj0 : j = 0 := by have := congrArg List.length hz; rw [hKjl] at this; simpa using this
        have hsl : Value.slice none j j = Value.slice none 0 0 := by rw [hj0]
        simp only [hsl] at x7 ⊢
        simp -implicitDefEqProofs [callP]
        intro _
        simp -implicitDefEqProofs [opAppend, srcCells, opBuildSlice, maxA, hr1, g2, g7, g50, g51, g52, w1]
        refine ⟨i - (j + 1), by omega, j + 1, _, by rw [hKl], by omega, (EDG.newOf _).newOf _, ⟨some ⟨G.n + 1, 0, none⟩, ?_, .inr ⟨G.n + 1, rfl, ?_, ?_, by simp⟩⟩, by simp, by simp, by simp, by simp [hKl], by simp, by simp, by simp; rfl⟩
        · rw [hKt, List.length_append, hKjl, hj0]; rfl
        · simp [hKt, hz, intC]
        · have := EDG.n; omega
      · have hbn : ¬ b = G.n := by omega
        have hbG : G.f b = .row true 3 ((K.take j).flatMap intC) := by rw [ED2.f b hb4, hbb]
        have hmx : (j + 1) * 8 ≤ 140737488355328 := by omega
        obtain ⟨F, hF⟩ : ∃ F, F = (K.take j).flatMap intC := ⟨_, rfl⟩
        have hFl : F.length = j := by have := flatA_len 1 intC_len (K.take j); rw [← hF, hKjl] at this; omega
        rw [← hF] at hbG
        have e8 : F.take j = F := List.take_of_length_le (by omega)
        simp -implicitDefEqProofs [callP]
        intro _
        simp -implicitDefEqProofs [opAppend, srcCells, opBuildSlice, maxA, hr1, g2, g7, g50, g51, g52, w1, hbn, hbG, hFl, hmx, e8]
        refine ⟨i - (j + 1), by omega, j + 1, _, by rw [hKl], by omega, ((EDG.newOf _).setOf hb3 _).newOf _, ⟨some ⟨G.n + 1, 0, none⟩, ?_, .inr ⟨G.n + 1, rfl, ?_, ?_, by simp⟩⟩, by simp, by simp, by simp, by simp [hKl], by simp, by simp, by simp; rfl⟩
        · rw [hKt, List.length_append, hKjl]; rfl
        · simp [hKt, intC, hF]
        · have := EDG.n; omega
    · have hji : j = i := by omega
      subst hji
      have hKt : K.take j = K := List.take_of_length_le (by omega)
      rw [hKt] at OQ
      have hkq : ∃ ad, kq = .slice ad j j := by obtain ⟨ad, e, _⟩ := OQ; exact ⟨ad, by rw [e, hKl]⟩
      obtain ⟨adQ, eQ⟩ := hkq
      subst eQ
      simp -implicitDefEqProofs [g2, g7, g50, g51, g52, x2, x7]
      refine (sortI_any _ K hC D (by omega) OQ).mono ?_
      rintro r hD ⟨rfl, OD, hch2⟩
      have ECD : Ext hC hD := by
        rcases hch2 with rfl | ⟨b, n, c, cs, e, hb1, hb2, rfl⟩
        · exact ED
        · exact ED.setOf hb1 _
      simp -implicitDefEqProofs [callQ]
      intro _
      have hsl : (sortI K).length = K.length := List.length_mergeSort _
      refine (compact_any _ (sortI K) hC hD (by omega) OD).mono ?_
      rintro r hE' ⟨OE, hch3⟩
      have ECE : Ext hC hE' := by
        rcases hch3 with rfl | ⟨b, cs, hb1, hb2, rfl⟩
        · exact ECD
        · exact ECD.setOf hb1 _
      obtain ⟨adR, cR, eR⟩ := OE.shape
      subst eR
      simp -implicitDefEqProofs [callQ]
      intro _
      have hsrt : (sortI K).Pairwise (fun a b => a ≤ b) := by
        have := List.pairwise_mergeSort (le := fun a b : Int => decide (a ≤ b)) (fun a b c h1 h2 => by simp at *; omega) (fun a b => by simp; omega) K
        exact this.imp (fun h => by simpa using h)
      obtain ⟨cr1, cr2⟩ := compact_rise (sortI K) hsrt
      obtain ⟨ks, hks⟩ : ∃ ks, ks = Lib.compact (sortI K) := ⟨_, rfl⟩
      have hkl2 := cp_len (sortI K)
      rw [← hks] at cr1 cr2 OE hkl2 ⊢
      have hmem : ∀ x, x ∈ ks ↔ x ∈ (killedL v).map (fun s => findA (atS s) ys) := fun x => by rw [cr2, ← hK]; exact (List.mergeSort_perm K _).mem_iff
      have hVC : VenC hE' ⟨ys, v.gap, v.radius, ks, v.poles⟩ [.slice adA v.seats.length v.seats.length, .int .i64 v.gap, .int .i64 v.radius, .slice adR ks.length cR, .slice adB v.poles.length v.poles.length] :=
        ⟨_, _, _, rfl, OS.sl.ext ECE, OE, OB2.sl.ext ECE⟩
      have hsm : venSmall ⟨ys, v.gap, v.radius, ks, v.poles⟩ := ⟨by show ys.length ≤ _; have := hv.1; omega, by show ks.length ≤ _; omega, hv.2.2⟩
      refine (may_ok _ _ hsm hE' hVC).mono ?_
      rintro r hF ⟨rfl, rfl⟩
      have EF : Ext h hF := (hE.trans EHC).trans ECE
      simp -implicitDefEqProofs [callQ]
      intro _
      by_cases hmay : mayV ⟨ys, v.gap, v.radius, ks, v.poles⟩ = true
      · simp -implicitDefEqProofs [hmay, g2, g7, x2, x7]
        exact ⟨EF, .inr ⟨hki, ys, ks, hperm, hsort, cr1, hmem, .inl ⟨hmay, _, hVC, rfl⟩⟩⟩
      · have hmay' : mayV ⟨ys, v.gap, v.radius, ks, v.poles⟩ = false := by simpa using hmay
        simp -implicitDefEqProofs [hmay', g2, g7, x2, x7]
        exact ⟨EF, .inr ⟨hki, ys, ks, hperm, hsort, cr1, hmem, .inr ⟨hmay', by simp [zVen]⟩⟩⟩
end Go.Proofs.Yph.V
/- What is read may be: the plain law. -/
namespace Go.Proofs.Yph
open Go Go.Am
set_option maxRecDepth 20000
set_option maxHeartbeats 4000000
open T (Tok tokC tokV spotV TokS allV)
open V (SeatR PoleR VenR seatC poleC intC inB IntS seatOK poleOK seatsOK killsOK polesOK mayV wrongV lessS SortedS Ri killedL killsIn findA atS)
open F (FR ChA GlobOK)
structure RdGood (r : Rd) : Prop where
  ok : rdOK r
  seats : ∀ s ∈ r.seats, seatOK s = true
  dist : r.seats.Pairwise (fun a b => ¬ (a.row = b.row ∧ a.x = b.x))
  gap : r.gap = 0 ∨ inB r.gap 1 1048576 = true
  radius : inB r.radius 0 1048576 = true
  poles : ∀ p ∈ r.poles, poleOK p = true
theorem rd0_good : RdGood rd0 := ⟨⟨by simp [rd0], by simp [rd0], by simp [rd0]⟩, by simp [rd0], by simp [rd0], .inl rfl, by decide, by simp [rd0]⟩
theorem placeF_none {row x : Int} {l : List SeatR} {i : Nat} (h : placeF row x l i = none) : ∀ s ∈ l, ¬ (s.row = row ∧ s.x = x) := by
  induction l generalizing i with
  | nil => intro s hs; cases hs
  | cons a r ih =>
    rw [placeF] at h
    split at h
    · cases h
    · rename_i hn
      intro s hs
      rcases List.mem_cons.1 hs with rfl | q
      · exact hn
      · exact ih h s q
theorem placeF_some {row x : Int} {l : List SeatR} {i n : Nat} (h : placeF row x l i = some n) : i ≤ n ∧ n < i + l.length ∧ ∃ s, l[n - i]? = some s ∧ s.row = row ∧ s.x = x := by
  induction l generalizing i with
  | nil => cases h
  | cons a r ih =>
    rw [placeF] at h
    split at h
    · rename_i hn
      simp only [Option.some.injEq] at h
      subst h
      exact ⟨Nat.le_refl _, by simp, a, by simp, hn.1, hn.2⟩
    · obtain ⟨q1, q2, s, q3, q4⟩ := ih h
      refine ⟨by omega, by simp; omega, s, ?_, q4⟩
      obtain ⟨d, hd⟩ : ∃ d, n - i = d + 1 := ⟨n - i - 1, by omega⟩
      rw [hd, List.getElem?_cons_succ, show d = n - (i + 1) by omega]
      exact q3
theorem placeAt_lt {l : List SeatR} {row x : Int} {n : Nat} (h : placeAt l row x = some n) : n < l.length := by
  have := placeF_some h
  omega
theorem numMay_all : ∀ {bs : List Nat} {rest : List Tok}, numMay bs rest = none → rest.length = bs.length → ∀ (i f : Nat) (t : Tok), bs[i]? = some f → rest[i]? = some t → mayF f t.n = true := by
  intro bs
  induction bs with
  | nil => intro rest _ _ i f t h; simp at h
  | cons b bs ih =>
    intro rest h hl i f t h1 h2
    cases rest with
    | nil => simp at hl
    | cons t' rest =>
      rw [numMay] at h
      split at h
      · rename_i hm
        cases i with
        | zero =>
          simp at h1 h2
          subst h1; subst h2
          exact hm
        | succ i =>
          simp at h1 h2 hl
          exact ih h hl i f t h1 h2
      · cases h
theorem lineErr_may {t0 : Tok} {rest : List Tok} {bl bc : Int} (h : lineErr (t0 :: rest) bl bc = none) : ∃ bs, bnds t0.text = some bs ∧ rest.length = bs.length ∧ numMay bs rest = none := by
  obtain ⟨bs, h1, h2⟩ := lineErr_none h
  refine ⟨bs, h1, h2, ?_⟩
  have hw : wordB t0 = some bs := by
    unfold lineErr at h
    simp only at h
    cases hw : wordB t0 with
    | none => rw [hw] at h; cases h
    | some b2 =>
      have : bnds t0.text = some b2 := by unfold wordB at hw; split at hw; exact hw; cases hw
      rw [h1] at this
      exact this.symm
  simp only [lineErr, hw, numErr] at h
  cases hc : numChk bl bc bs rest with
  | some e => rw [hc] at h; cases h
  | none =>
    rw [hc] at h
    simp only at h
    rw [← h2, List.drop_length] at h
    exact h
theorem addR_good {r : Rd} {t0 : Tok} {rest : List Tok} {bl bc : Int} (G : RdGood r) (hle : lineErr (t0 :: rest) bl bc = none) (ha : (addR r t0 rest).2 = true) : RdGood (addR r t0 rest).1 := by
  obtain ⟨bs, hb, hl, hm⟩ := lineErr_may hle
  have hok := addR_ok G.ok ha
  have hall := numMay_all hm hl
  rcases rest_cases hb hl with ⟨hw, a, rfl⟩ | ⟨hw, a, b, rfl⟩ | ⟨hw, a, b, c, rfl⟩
  · rcases hw with hw | hw
    · have hbs : bs = [94] := by rw [hw] at hb; simpa [bnds, wGap, wSeat, wWheel, wComp] using hb.symm
      have h0 := hall 0 94 a (by rw [hbs]; rfl) rfl
      by_cases hg : 0 < r.gap
      · have hres : addR r t0 [a] = (r, false) := by simp [addR, hw, hg]
        rw [hres] at ha; cases ha
      · have hres : addR r t0 [a] = ({ r with gap := a.n }, true) := by simp [addR, hw, hg]
        rw [hres] at hok ⊢
        exact ⟨hok, G.seats, G.dist, .inr (by simpa [mayF] using h0), G.radius, G.poles⟩
    · have hbs : bs = [93] := by rw [hw] at hb; simpa [bnds, wRad, wGap, wSeat, wWheel, wComp] using hb.symm
      have hw2 : ¬ wRad = wGap := by decide
      have h0 := hall 0 93 a (by rw [hbs]; rfl) rfl
      cases hg : r.rad with
      | true =>
        have hres : addR r t0 [a] = (r, false) := by simp [addR, hw, hg, hw2]
        rw [hres] at ha; cases ha
      | false =>
        have hres : addR r t0 [a] = ({ r with rad := true, radius := a.n }, true) := by simp [addR, hw, hg, hw2]
        rw [hres] at hok ⊢
        refine ⟨hok, G.seats, G.dist, G.gap, ?_, G.poles⟩
        simp [mayF, inB] at h0
        simp [inB]
        omega
  · have hw1 : ¬ wKill = wGap := by decide
    have hw2 : ¬ wKill = wRad := by decide
    have hres : addR r t0 [a, b] = ({ r with kills := r.kills ++ [⟨a.n, b.n, t0.line, t0.col, a.line, a.col⟩] }, decide ((r.kills ++ [(⟨a.n, b.n, t0.line, t0.col, a.line, a.col⟩ : KillR)]).length ≤ 200)) := by simp [addR, hw, hw1, hw2]
    rw [hres] at hok ⊢
    exact ⟨hok, G.seats, G.dist, G.gap, G.radius, G.poles⟩
  · by_cases hwp : t0.text = wPole
    · have hbs : bs = [96, 96, 94] := by rw [hwp] at hb; simpa [bnds, wPole, wKill, wRad, wGap, wSeat, wWheel, wComp] using hb.symm
      have hw1 : ¬ wPole = wGap := by decide
      have hw2 : ¬ wPole = wRad := by decide
      have hw3 : ¬ wPole = wKill := by decide
      have h0 := hall 0 96 a (by rw [hbs]; rfl) rfl
      have h1 := hall 1 96 b (by rw [hbs]; rfl) rfl
      have h2 := hall 2 94 c (by rw [hbs]; rfl) rfl
      have hres : addR r t0 [a, b, c] = ({ r with poles := r.poles ++ [⟨a.n, b.n, c.n⟩] }, decide ((r.poles ++ [(⟨a.n, b.n, c.n⟩ : PoleR)]).length ≤ 200)) := by simp [addR, hwp, hw1, hw2, hw3]
      rw [hres] at hok ⊢
      refine ⟨hok, G.seats, G.dist, G.gap, G.radius, fun p hp => ?_⟩
      rcases List.mem_append.1 hp with q | q
      · exact G.poles p q
      · obtain rfl := List.mem_singleton.1 q
        simp [mayF] at h0 h1 h2
        simp [poleOK, h0, h1, h2]
    · have hws : t0.text = wSeat ∨ t0.text = wWheel ∨ t0.text = wComp := by
        rcases hw with q | q
        · exact absurd q hwp
        · exact q
      have z1 : ¬ t0.text = wGap := by rcases hws with q | q | q <;> rw [q] <;> decide
      have z2 : ¬ t0.text = wRad := by rcases hws with q | q | q <;> rw [q] <;> decide
      have z3 : ¬ t0.text = wKill := by rcases hws with q | q | q <;> rw [q] <;> decide
      have hbs : bs = [95, 96, 96] := by
        have e : bnds t0.text = some [95, 96, 96] := by rw [bnds, if_pos hws]
        rw [e] at hb; simpa using hb.symm
      have h0 := hall 0 95 a (by rw [hbs]; rfl) rfl
      have h1 := hall 1 96 b (by rw [hbs]; rfl) rfl
      have h2 := hall 2 96 c (by rw [hbs]; rfl) rfl
      have hkd : inB (kindW t0.text) 0 2 = true := by rcases hws with q | q | q <;> rw [q] <;> decide
      cases hp : placeAt r.seats a.n b.n with
      | some q =>
        have hres : addR r t0 [a, b, c] = (r, false) := by simp [addR, z1, z2, z3, hwp, hp]
        rw [hres] at ha; cases ha
      | none =>
        have hres : addR r t0 [a, b, c] = ({ r with seats := r.seats ++ [⟨a.n, b.n, c.n, kindW t0.text⟩] }, decide ((r.seats ++ [(⟨a.n, b.n, c.n, kindW t0.text⟩ : SeatR)]).length ≤ 4096)) := by simp [addR, z1, z2, z3, hwp, hp]
        rw [hres] at hok ⊢
        refine ⟨hok, fun s hs => ?_, ?_, G.gap, G.radius, G.poles⟩
        · rcases List.mem_append.1 hs with q | q
          · exact G.seats s q
          · obtain rfl := List.mem_singleton.1 q
            simp [mayF] at h0 h1 h2
            simp [seatOK, h0, h1, h2, hkd]
        · show (r.seats ++ _).Pairwise _
          rw [List.pairwise_append]
          refine ⟨G.dist, by simp, fun s hs t ht => ?_⟩
          obtain rfl := List.mem_singleton.1 ht
          exact placeF_none hp s hs
theorem linesR_good (ts : List Tok) (el ec : Int) : ∀ (f a : Nat) (r : Rd), RdGood r → (linesR ts el ec f a r).2 = none → RdGood (linesR ts el ec f a r).1 := by
  intro f
  induction f with
  | zero => intro a r G _; exact G
  | succ f ih =>
    intro a r G h
    by_cases ha : a < ts.length
    · cases hr : rowAt ts a with
      | nil =>
        rw [linesR_nil ha hr] at h ⊢
        exact ih _ _ G h
      | cons t0 rest =>
        rw [linesR_cons ha hr] at h ⊢
        cases hle : lineErr (t0 :: rest) (behAt ts el ec (a + (rest.length + 1))).1 (behAt ts el ec (a + (rest.length + 1))).2 with
        | some e => rw [hle] at h; cases h
        | none =>
          rw [hle] at h
          simp only at h ⊢
          by_cases h2 : (addR r t0 rest).2 = true
          · rw [if_pos h2] at h ⊢
            exact ih _ _ (addR_good G hle h2) h
          · rw [if_neg h2] at h; cases h
    · rw [linesR, if_neg ha]; exact G
theorem killsF_ok (seats : List SeatR) : ∀ (l : List KillR) (acc : List Int), (∀ k ∈ acc, 0 ≤ k ∧ k < seats.length) → (killsF seats l acc).2 = none →
    (∀ k ∈ (killsF seats l acc).1, 0 ≤ k ∧ k < seats.length) ∧ (killsF seats l acc).1.length = acc.length + l.length := by
  intro l
  induction l with
  | nil => intro acc h _; exact ⟨h, rfl⟩
  | cons k r ih =>
    intro acc h h2
    cases hp : placeAt seats k.row k.x with
    | none => rw [killsF_none hp] at h2; cases h2
    | some n =>
      have hlt := placeAt_lt hp
      by_cases hm : (n : Int) ∈ acc
      · rw [killsF_twice hp hm] at h2; cases h2
      · rw [killsF_go hp hm] at h2 ⊢
        obtain ⟨q1, q2⟩ := ih (acc ++ [(n : Int)]) (fun k hk => by
          rcases List.mem_append.1 hk with q | q
          · exact h k q
          · obtain rfl := List.mem_singleton.1 q; omega) h2
        exact ⟨q1, by rw [q2]; simp; omega⟩
theorem nodup_len : ∀ (a b : List Int), a.Nodup → (∀ x ∈ a, x ∈ b) → a.length ≤ b.length := by
  intro a
  induction a with
  | nil => intro b _ _; simp
  | cons x r ih =>
    intro b hn hs
    rw [List.nodup_cons] at hn
    have hx := hs x List.mem_cons_self
    have h1 := ih (b.erase x) hn.2 (fun y hy => (List.mem_erase_of_ne (by rintro rfl; exact hn.1 hy)).2 (hs y (List.mem_cons_of_mem _ hy)))
    rw [List.length_erase_of_mem hx] at h1
    have : 0 < b.length := List.length_pos_of_mem hx
    simp; omega
def venOf (r : Rd) (ks : List Int) : VenR := ⟨r.seats, r.gap, r.radius, ks, r.poles⟩
theorem good_may {r : Rd} {K : List Int} (G : RdGood r) (hs : r.seats ≠ []) (hg : r.gap ≠ 0) (hK : ∀ k ∈ K, 0 ≤ k ∧ k < r.seats.length) (hKl : K.length ≤ 200) {ys : List SeatR} {ks : List Int} (hp : ys.Perm r.seats) (hso : SortedS ys) (hri : Ri ks)
    (hm : ∀ x, x ∈ ks ↔ x ∈ (killedL (venOf r K)).map (fun s => findA (atS s) ys)) : mayV ⟨ys, r.gap, r.radius, ks, r.poles⟩ = true := by
  have hyl := hp.length_eq
  have hpos : 0 < r.seats.length := List.length_pos_iff.2 hs
  have h1 : seatsOK ys = true := by
    unfold seatsOK
    rw [Bool.and_eq_true, Bool.and_eq_true, List.all_eq_true]
    refine ⟨fun i hi => ?_, by simp; omega, by have := G.ok.1; simp; omega⟩
    rw [List.mem_range] at hi
    have e := List.getElem?_eq_getElem hi
    unfold V.pairOK
    rw [e]
    simp only [Bool.and_eq_true, Bool.or_eq_true, decide_eq_true_eq]
    refine ⟨G.seats _ (hp.subset (List.getElem_mem hi)), ?_⟩
    by_cases hi0 : i = 0
    · exact .inl hi0
    · right
      have hi1 : i - 1 < ys.length := by omega
      rw [List.getElem?_eq_getElem hi1]
      simp only
      have q1 := hso (i - 1) i _ _ (by omega) (List.getElem?_eq_getElem hi1) e
      have hd : ys.Pairwise (fun a b => ¬ (a.row = b.row ∧ a.x = b.x)) := by
        refine (hp.pairwise_iff (R := fun a b => ¬ (a.row = b.row ∧ a.x = b.x)) (fun {a b} h q => h ⟨q.1.symm, q.2.symm⟩)).2 G.dist
      have q2 := (List.pairwise_iff_getElem.1 hd) (i - 1) i hi1 hi (by omega)
      rw [V.lessS_iff]
      rw [← Bool.not_eq_true, V.lessS_iff] at q1
      omega
  have h2 : inB r.gap 1 1048576 = true := G.gap.resolve_left hg
  have h4 : killsOK ks ys.length = true := by
    unfold killsOK
    rw [Bool.and_eq_true, List.all_eq_true]
    refine ⟨fun i hi => ?_, ?_⟩
    · rw [List.mem_range] at hi
      have e := List.getElem?_eq_getElem hi
      unfold V.killOK
      rw [e]
      simp only [Bool.and_eq_true, Bool.or_eq_true, decide_eq_true_eq]
      have hx := (hm ks[i]).1 (List.getElem_mem hi)
      rw [List.mem_map] at hx
      obtain ⟨s, hsm, hfx⟩ := hx
      unfold killedL venOf at hsm
      rw [List.mem_map] at hsm
      obtain ⟨k, hk, rfl⟩ := hsm
      have hkb := hK k hk
      have hkn : k.toNat < r.seats.length := by omega
      have hin : r.seats.getD k.toNat default ∈ ys := by
        rw [List.getD_eq_getElem?_getD, List.getElem?_eq_getElem hkn, Option.getD_some]
        exact hp.symm.subset (List.getElem_mem hkn)
      have hany : ys.any (atS (r.seats.getD k.toNat default)) = true := List.any_eq_true.2 ⟨_, hin, by simp [atS]⟩
      have hfl : findA (atS (r.seats.getD k.toNat default)) ys = (ys.findIdx (atS (r.seats.getD k.toNat default)) : Int) := by unfold findA; rw [if_pos hany]
      have hlt : ys.findIdx (atS (r.seats.getD k.toNat default)) < ys.length := List.findIdx_lt_length_of_exists ⟨_, hin, by simp [atS]⟩
      rw [hfl] at hfx
      refine ⟨by omega, by omega, ?_⟩
      by_cases hi0 : i = 0
      · exact .inl hi0
      · right
        have hi1 : i - 1 < ks.length := by omega
        rw [List.getElem?_eq_getElem hi1]
        simp only [decide_eq_true_eq]
        exact (List.pairwise_iff_getElem.1 hri) (i - 1) i hi1 hi (by omega)
    · have hn : ks.Nodup := hri.imp (fun {x y} hxy => by omega)
      have := nodup_len ks _ hn (fun x hx => (hm x).1 hx)
      rw [List.length_map] at this
      unfold killedL venOf at this
      rw [List.length_map] at this
      simp only at this
      simp; omega
  have h5 : polesOK r.poles = true := by
    unfold polesOK
    rw [Bool.and_eq_true, List.all_eq_true]
    refine ⟨fun i hi => ?_, by have := G.ok.2.2; simpa using this⟩
    rw [List.mem_range] at hi
    unfold V.poleI
    rw [List.getElem?_eq_getElem hi]
    exact G.poles _ (List.getElem_mem hi)
  unfold mayV wrongV
  rw [decide_eq_true_eq]
  simp only
  rw [if_neg (by rw [h1]; decide), if_neg (by rw [h2]; decide), if_neg (by rw [G.radius]; decide), if_neg (by rw [h4]; decide), if_neg (by rw [h5]; decide)]
/-- what a text is read as: where it is wrong, or the venue that it says -/
def parO (l : List UInt8) : Option (Int × Int) × VenR :=
  if (allV l).code ≠ 0 then (some ((allV l).ln, (allV l).col), ⟨[], 0, 0, [], []⟩)
  else match linesR (allV l).ts (allV l).ln (allV l).col ((allV l).ts.length + 1) 0 rd0 with
    | (_, some e) => (some e, ⟨[], 0, 0, [], []⟩)
    | (r, none) => match wholeR r (allV l).ln (allV l).col with
      | (_, some e) => (some e, ⟨[], 0, 0, [], []⟩)
      | (ks, none) => (none, venOf r ks)
/-- w is v in order -/
def Normed (v w : VenR) : Prop := w.seats.Perm v.seats ∧ SortedS w.seats ∧ Ri w.kills ∧ (∀ x, x ∈ w.kills ↔ x ∈ (killedL v).map (fun s => findA (atS s) w.seats)) ∧ w.gap = v.gap ∧ w.radius = v.radius ∧ w.poles = v.poles ∧ mayV w = true
theorem wholeR_none {r : Rd} {el ec : Int} (h : (wholeR r el ec).2 = none) (hk : r.kills.length ≤ 200) : r.seats ≠ [] ∧ r.gap ≠ 0 ∧ (∀ k ∈ (wholeR r el ec).1, 0 ≤ k ∧ k < r.seats.length) ∧ (wholeR r el ec).1.length ≤ 200 := by
  unfold wholeR at h ⊢
  by_cases hb : r.seats = [] ∨ r.gap = 0
  · rw [if_pos hb] at h; cases h
  · rw [if_neg hb] at h ⊢
    obtain ⟨q1, q2⟩ := killsF_ok r.seats r.kills [] (fun k hk => by cases hk) h
    exact ⟨fun q => hb (.inl q), fun q => hb (.inr q), q1, by rw [q2]; simpa using hk⟩
theorem norm_good {r : Rd} {ks : List Int} (G : RdGood r) (hs : r.seats ≠ []) (hg : r.gap ≠ 0) (hK : ∀ k ∈ ks, 0 ≤ k ∧ k < r.seats.length) (hKl : ks.length ≤ 200) {h h' : Heap} {v : Value} (N : V.NormG (venOf r ks) h v h') :
    Ext h h' ∧ ∃ w co, Normed (venOf r ks) w ∧ V.VenC h' w co ∧ v = .tuple #[.agg ⟨co⟩, .bool true] := by
  obtain ⟨E, N⟩ := N
  refine ⟨E, ?_⟩
  have hin : killsIn (venOf r ks) = true := by
    unfold killsIn
    rw [List.all_eq_true]
    intro k hk
    have := hK k hk
    show (decide (0 ≤ k) && decide (k < (r.seats.length : Int))) = true
    simp; omega
  rcases N with ⟨q, _⟩ | ⟨_, ys, kz, p, so, ri, hm, N⟩
  · rw [hin] at q; cases q
  · have hmay := good_may G hs hg hK hKl p so ri hm
    rcases N with ⟨_, co, hc, rfl⟩ | ⟨q, _⟩
    · exact ⟨⟨ys, r.gap, r.radius, kz, r.poles⟩, co, ⟨p, so, ri, hm, rfl, rfl, rfl, hmay⟩, hc, rfl⟩
    · rw [show mayV ⟨ys, (venOf r ks).gap, (venOf r ks).radius, kz, (venOf r ks).poles⟩ = true from hmay] at q; cases q
end Go.Proofs.Yph
/- A manifest's venue; its code and where it is wrong. -/
namespace Go.Proofs.Yph
open Go Go.Am
set_option maxRecDepth 20000
set_option maxHeartbeats 4000000
open T (Tok tokC tokV spotV TokS allV allL nextV)
open V (SeatR PoleR VenR seatC poleC intC inB IntS)
open F (FR ChA GlobOK)
theorem allL_code (l : List UInt8) : ∀ (n a : Nat) (ln col : Int), (allL l n a ln col).code = 0 ∨ (allL l n a ln col).code = 2 := by
  intro n
  induction n with
  | zero => intro a ln col; exact .inl rfl
  | succ n ih =>
    intro a ln col
    rw [allL]
    rcases T.nextV_code l a ln col with h | h | h <;> simp [h]
    exact ih _ _ _
theorem allV_code (l : List UInt8) : (allV l).code = 0 ∨ (allV l).code = 2 := allL_code l _ _ _ _
theorem allL_len (l : List UInt8) : ∀ (n a : Nat) (ln col : Int), (allL l n a ln col).ts.length ≤ n := by
  intro n
  induction n with
  | zero => intro a ln col; simp [allL]
  | succ n ih =>
    intro a ln col
    rw [allL]
    split
    · have := ih (nextV l a ln col).to (nextV l a ln col).ln (nextV l a ln col).col; simp; omega
    · split <;> simp
def VenueP (l : List UInt8) (h : Heap) (v : Value) (h' : Heap) : Prop := Ext h h' ∧ match (parO l).1 with
  | some e => ∃ E, v = .tuple #[.agg ⟨V.zVen⟩, E] ∧ ChA h' h'.n E (errL e.1 e.2)
  | none => ∃ w co, Normed (parO l).2 w ∧ V.VenC h' w co ∧ v = .tuple #[.agg ⟨co⟩, .nilIface]
theorem venue_ok (l : List UInt8) (hl : l.length ≤ 1048576) (h : Heap) : ACalls PP 13 [.string (B l)] h (VenueP l h) := by
  refine acalls_of_vc mix fn13 bodyEq13 rfl (by show 1 ≤ 60; decide) ok13 ?_
  simp only [body13, Tryz.f13]
  simp -implicitDefEqProofs
  refine (T.all_ok l hl h).mono ?_
  rintro v H1 ⟨E1, s, hs, rfl⟩
  obtain ⟨ad, rfl, _⟩ := id hs
  have hp : parO l = if (allV l).code ≠ 0 then (some ((allV l).ln, (allV l).col), ⟨[], 0, 0, [], []⟩) else _ := rfl
  simp -implicitDefEqProofs [callQ, spotV]
  intro _
  rcases allV_code l with hc | hc
  rotate_left
  · rw [if_pos (by rw [hc]; decide)] at hp
    have wr := wrong_ok (allV l).ln (allV l).col H1
    simp only [spotV] at wr
    simp -implicitDefEqProofs [hc]
    refine wr.mono ?_
    intro E H2 hE
    obtain ⟨be, rfl⟩ := err_shape hE
    simp -implicitDefEqProofs [callQ]
    intro _
    refine ⟨E1.trans hE.1, ?_⟩
    rw [hp]
    exact ⟨_, by simp [V.zVen], hE.2⟩
  · rw [if_neg (by rw [hc]; decide)] at hp
    simp -implicitDefEqProofs [hc]
    have htl : (allV l).ts.length ≤ 1048577 := by have := allL_len l (l.length + 1) 0 1 1; show (allL l (l.length + 1) 0 1 1).ts.length ≤ _; omega
    obtain ⟨M, hM⟩ : ∃ M, M = (H1.new (Blk.obj (Obj.map #[] 0))).new (Blk.row true 71 [Value.slice none 0 0, Value.int IntKind.i64 0, Value.int IntKind.i64 0, Value.slice none 0 0, Value.slice none 0 0, Value.int IntKind.i64 (allV l).ln, Value.int IntKind.i64 (allV l).col, Value.map (some H1.n), Value.slice none 0 0, Value.bool false]) := ⟨_, rfl⟩
    have EM : Ext H1 M := by rw [hM]; exact (Ext.new _ _).newOf _
    have RM : RdH H1 M rd0 (allV l).ln (allV l).col (.slice none 0 0) (H1.n + 1) := by
      rw [hM]
      exact ⟨none, none, none, _, _, _, H1.n, by simp [rd0], by omega, by simp, F.OwO.nil, F.OwO.nil, F.OwO.nil, by simp [rd0, ents, entsF], Nat.le_refl _, by simp; omega⟩
    rw [← hM]
    refine (lines_ok (allV l).ts htl H1 M (allV l).ln (allV l).col (.slice none 0 0) rfl (H1.n + 1) rd0 ⟨by simp [rd0], by simp [rd0], by simp [rd0]⟩ _ hs.tokS EM RM).mono ?_
    rintro v H2 ⟨E2, R2, hL⟩
    obtain ⟨L, hLd⟩ : ∃ L, L = linesR (allV l).ts (allV l).ln (allV l).col ((allV l).ts.length + 1) 0 rd0 := ⟨_, rfl⟩
    rw [← hLd] at R2 hL hp
    obtain ⟨r, re⟩ := L
    cases re with
    | some e =>
      simp only at R2 hL hp
      obtain ⟨be, rfl⟩ := err_shape (h := H2) (a := e.1) (b := e.2) ⟨Ext.rfl' _, hL⟩
      simp -implicitDefEqProofs [callQ]
      intro _
      refine ⟨E1.trans E2, ?_⟩
      rw [hp]
      exact ⟨_, by simp [V.zVen], hL⟩
    | none =>
      simp only at R2 hL hp
      obtain ⟨rfl, hok⟩ := hL
      have G : RdGood r := by
        have := linesR_good (allV l).ts (allV l).ln (allV l).col ((allV l).ts.length + 1) 0 rd0 rd0_good (by rw [← hLd])
        rw [← hLd] at this
        exact this
      simp -implicitDefEqProofs [callQ]
      intro _
      refine (whole_ok H1 H2 r (allV l).ln (allV l).col (H1.n + 1) E2 ⟨none, _, F.OwO.nil, R2⟩ hok).mono ?_
      rintro v H3 ⟨E3, hW⟩
      obtain ⟨W, hWd⟩ : ∃ W, W = wholeR r (allV l).ln (allV l).col := ⟨_, rfl⟩
      have hwn := wholeR_none (r := r) (el := (allV l).ln) (ec := (allV l).col)
      rw [← hWd] at hW hp hwn
      obtain ⟨ks, we⟩ := W
      cases we with
      | some e =>
        simp only at hW hp
        obtain ⟨be, rfl⟩ := err_shape (h := H3) (a := e.1) (b := e.2) ⟨Ext.rfl' _, hW⟩
        simp -implicitDefEqProofs [callQ]
        intro _
        refine ⟨E1.trans E3, ?_⟩
        rw [hp]
        exact ⟨_, by simp [V.zVen], hW⟩
      | none =>
        simp only at hW hp hwn
        obtain ⟨rfl, R3⟩ := hW
        obtain ⟨n1, n2, n3, n4⟩ := hwn trivial hok.2.1
        obtain ⟨o3, kv, hk3, os, op, ok, ss, sp, sk, bm, hbr, hbr1, hbr2, hos, hop, hokk, _⟩ := R3
        have hVC : V.VenC H3 (venOf r ks) [ss, .int .i64 r.gap, .int .i64 r.radius, kv, sp] := ⟨_, _, _, rfl, hos.own.sl, hk3.own.sl, hop.own.sl⟩
        simp -implicitDefEqProofs [callQ, hbr]
        intro _
        refine (V.norm2_ok (venOf r ks) _ ⟨by have := hok.1; show r.seats.length ≤ _; omega, by show ks.length ≤ _; omega, by have := hok.2.2; show r.poles.length ≤ _; omega⟩ (by show ks.length ≤ _; omega) H3 hVC).mono ?_
        intro v H4 hN
        obtain ⟨E4, w, co, hw, hc, rfl⟩ := norm_good G n1 n2 n3 n4 hN
        obtain ⟨s', k', p', rfl, v1, v2, v3⟩ := id hc
        obtain ⟨ad1, cc1, rfl⟩ := v1.shape
        obtain ⟨ad2, cc2, rfl⟩ := v2.shape
        obtain ⟨ad3, cc3, rfl⟩ := v3.shape
        simp -implicitDefEqProofs [callQ]
        intro _
        refine ⟨(E1.trans E3).trans E4, ?_⟩
        rw [hp]
        exact ⟨w, _, hw, hc, rfl⟩
end Go.Proofs.Yph
/- Places are from one on; a manifest's code and place. -/
namespace Go.Proofs.Yph
open Go Go.Am
set_option maxRecDepth 20000
set_option maxHeartbeats 4000000
open T (Tok tokC tokV spotV TokS allV allL nextV nextV' numV)
open V (SeatR PoleR VenR seatC poleC intC inB IntS)
open F (FR ChA GlobOK)
def tokPos (t : Tok) : Prop := 1 ≤ t.line ∧ 1 ≤ t.col
theorem nextV_pos (l : List UInt8) (a : Nat) (ln col : Int) (h1 : 1 ≤ ln) (h2 : 1 ≤ col) : 1 ≤ (nextV l a ln col).ln ∧ 1 ≤ (nextV l a ln col).col ∧ ((nextV l a ln col).code = 0 → tokPos (nextV l a ln col).tok) := by
  unfold nextV nextV' tokPos
  generalize hk : a + T.skipL false (l.drop a) = k
  have hak : a ≤ k := by omega
  have hnv := T.numV_ge l k
  cases hg : l[k]? with
  | none => dsimp only; refine ⟨by omega, by omega, by simp⟩
  | some c =>
    dsimp only
    (repeat' split) <;> refine ⟨by dsimp only; omega, by dsimp only; omega, ?_⟩ <;> intro q <;> first | (exfalso; revert q; dsimp only; omega) | exact ⟨by dsimp only; omega, by dsimp only; omega⟩
theorem allL_pos (l : List UInt8) : ∀ (n a : Nat) (ln col : Int), 1 ≤ ln → 1 ≤ col → 1 ≤ (allL l n a ln col).ln ∧ 1 ≤ (allL l n a ln col).col ∧ ∀ t ∈ (allL l n a ln col).ts, tokPos t := by
  intro n
  induction n with
  | zero => intro a ln col h1 h2; exact ⟨h1, h2, fun t ht => by cases ht⟩
  | succ n ih =>
    intro a ln col h1 h2
    obtain ⟨p1, p2, p3⟩ := nextV_pos l a ln col h1 h2
    rw [allL]
    by_cases h0 : (nextV l a ln col).code = 0
    · simp only [h0, if_true]
      obtain ⟨q1, q2, q3⟩ := ih (nextV l a ln col).to _ _ p1 p2
      refine ⟨q1, q2, fun t ht => ?_⟩
      rcases List.mem_cons.1 ht with rfl | z
      · exact p3 h0
      · exact q3 t z
    · simp only [h0, if_false]
      split <;> exact ⟨p1, p2, fun t ht => by cases ht⟩
theorem allV_pos (l : List UInt8) : 1 ≤ (allV l).ln ∧ 1 ≤ (allV l).col ∧ ∀ t ∈ (allV l).ts, tokPos t := allL_pos l _ _ _ _ (by omega) (by omega)
def spPos (e : Int × Int) : Prop := 1 ≤ e.1 ∧ 1 ≤ e.2
theorem numChk_pos {bl bc : Int} (hb : spPos (bl, bc)) : ∀ {bs : List Nat} {rest : List Tok} {e : Int × Int}, (∀ t ∈ rest, tokPos t) → numChk bl bc bs rest = some e → spPos e := by
  intro bs
  induction bs with
  | nil => intro rest e _ h; cases h
  | cons b bs ih =>
    intro rest e hr h
    cases rest with
    | nil => rw [numChk] at h; simp only [Option.some.injEq] at h; rw [← h]; exact hb
    | cons t r =>
      rw [numChk] at h
      split at h
      · exact ih (fun t ht => hr t (List.mem_cons_of_mem _ ht)) h
      · simp only [Option.some.injEq] at h; rw [← h]; exact hr t List.mem_cons_self
theorem numMay_pos : ∀ {bs : List Nat} {rest : List Tok} {e : Int × Int}, (∀ t ∈ rest, tokPos t) → numMay bs rest = some e → spPos e := by
  intro bs
  induction bs with
  | nil => intro rest e _ h; cases h
  | cons b bs ih =>
    intro rest e hr h
    cases rest with
    | nil => cases h
    | cons t r =>
      rw [numMay] at h
      split at h
      · exact ih (fun t ht => hr t (List.mem_cons_of_mem _ ht)) h
      · simp only [Option.some.injEq] at h; rw [← h]; exact hr t List.mem_cons_self
theorem lineErr_pos {ts : List Tok} {bl bc : Int} {e : Int × Int} (hb : spPos (bl, bc)) (hr : ∀ t ∈ ts, tokPos t) (h : lineErr ts bl bc = some e) : spPos e := by
  cases ts with
  | nil => cases h
  | cons t0 rest =>
    have hr' : ∀ t ∈ rest, tokPos t := fun t ht => hr t (List.mem_cons_of_mem _ ht)
    simp only [lineErr] at h
    cases hw : wordB t0 with
    | none => rw [hw] at h; simp only [Option.some.injEq] at h; rw [← h]; exact hr t0 List.mem_cons_self
    | some bs =>
      rw [hw] at h
      simp only [numErr] at h
      cases hc : numChk bl bc bs rest with
      | some e' => rw [hc] at h; simp only [Option.some.injEq] at h; rw [← h]; exact numChk_pos hb hr' hc
      | none =>
        rw [hc] at h
        simp only at h
        cases hd : rest.drop bs.length with
        | cons t q => rw [hd] at h; simp only [Option.some.injEq] at h; rw [← h]; exact hr' t (List.mem_of_mem_drop (hd ▸ List.mem_cons_self))
        | nil => rw [hd] at h; exact numMay_pos hr' h
def killsPos (r : Rd) : Prop := ∀ k ∈ r.kills, spPos (k.line, k.col) ∧ spPos (k.rline, k.rcol)
theorem addR_pos {r : Rd} {t0 : Tok} {rest : List Tok} (H : killsPos r) (h0 : tokPos t0) (hr : ∀ t ∈ rest, tokPos t) (hl : 1 ≤ rest.length) : killsPos (addR r t0 rest).1 := by
  unfold addR
  dsimp only
  split
  · split <;> exact H
  split
  · split <;> exact H
  split
  · intro k hk
    rcases List.mem_append.1 hk with q | q
    · exact H k q
    · obtain rfl := List.mem_singleton.1 q
      cases rest with
      | nil => simp at hl
      | cons t q => exact ⟨h0, hr t List.mem_cons_self⟩
  split
  · exact H
  · split <;> exact H
theorem behAt_pos {ts : List Tok} {el ec : Int} (he : spPos (el, ec)) (hr : ∀ t ∈ ts, tokPos t) (k : Nat) : spPos ((behAt ts el ec k).1, (behAt ts el ec k).2) := by
  unfold behAt
  cases hk : ts[k]? with
  | none => exact he
  | some t => exact hr t (List.mem_of_getElem? hk)
theorem rowAt_mem {ts : List Tok} {a : Nat} {t : Tok} (h : t ∈ rowAt ts a) : t ∈ ts := by
  unfold rowAt at h
  exact List.mem_of_mem_take (List.mem_of_mem_drop h)
theorem linesR_pos (ts : List Tok) (el ec : Int) (he : spPos (el, ec)) (hts : ∀ t ∈ ts, tokPos t) : ∀ (f a : Nat) (r : Rd), killsPos r → killsPos (linesR ts el ec f a r).1 ∧ ∀ e, (linesR ts el ec f a r).2 = some e → spPos e := by
  intro f
  induction f with
  | zero => intro a r H; exact ⟨H, fun e h => by cases h⟩
  | succ f ih =>
    intro a r H
    by_cases ha : a < ts.length
    · cases hr : rowAt ts a with
      | nil => rw [linesR_nil ha hr]; exact ih _ _ H
      | cons t0 rest =>
        have hm : ∀ t ∈ t0 :: rest, tokPos t := fun t ht => hts t (rowAt_mem (a := a) (by rw [hr]; exact ht))
        have hm' : ∀ t ∈ rest, tokPos t := fun t ht => hm t (List.mem_cons_of_mem _ ht)
        rw [linesR_cons ha hr]
        cases hle : lineErr (t0 :: rest) (behAt ts el ec (a + (rest.length + 1))).1 (behAt ts el ec (a + (rest.length + 1))).2 with
        | some e =>
          refine ⟨H, fun e' h => ?_⟩
          simp only [Option.some.injEq] at h
          rw [← h]
          exact lineErr_pos (behAt_pos he hts _) hm hle
        | none =>
          obtain ⟨bs, hb, hl, _⟩ := lineErr_may hle
          have h1 := (bnds_le hb).2.1
          have ha := addR_pos H (hm t0 List.mem_cons_self) hm' (by omega)
          simp only
          split
          · exact ih _ _ ha
          · refine ⟨ha, fun e' h => ?_⟩
            simp only [Option.some.injEq] at h
            rw [← h]
            exact hm t0 List.mem_cons_self
    · rw [linesR, if_neg ha]; exact ⟨H, fun e h => by cases h⟩
theorem killsF_pos (seats : List SeatR) : ∀ (l : List KillR) (acc : List Int) (e : Int × Int), (∀ k ∈ l, spPos (k.line, k.col) ∧ spPos (k.rline, k.rcol)) → (killsF seats l acc).2 = some e → spPos e := by
  intro l
  induction l with
  | nil => intro acc e _ h; cases h
  | cons k r ih =>
    intro acc e H h
    have hk := H k List.mem_cons_self
    cases hp : placeAt seats k.row k.x with
    | none => rw [killsF_none hp] at h; simp only [Option.some.injEq] at h; rw [← h]; exact hk.2
    | some n =>
      by_cases hm : (n : Int) ∈ acc
      · rw [killsF_twice hp hm] at h; simp only [Option.some.injEq] at h; rw [← h]; exact hk.1
      · rw [killsF_go hp hm] at h
        exact ih _ _ (fun k hk => H k (List.mem_cons_of_mem _ hk)) h
theorem parO_pos {l : List UInt8} {e : Int × Int} (h : (parO l).1 = some e) : spPos e := by
  obtain ⟨p1, p2, p3⟩ := allV_pos l
  unfold parO at h
  split at h
  · simp only [Option.some.injEq] at h; rw [← h]; exact ⟨p1, p2⟩
  · have hL := linesR_pos (allV l).ts (allV l).ln (allV l).col ⟨p1, p2⟩ p3 ((allV l).ts.length + 1) 0 rd0 (fun k hk => by simp [rd0] at hk)
    revert h hL
    generalize linesR (allV l).ts (allV l).ln (allV l).col ((allV l).ts.length + 1) 0 rd0 = L
    intro h hL
    obtain ⟨r, re⟩ := L
    cases re with
    | some e' => simp only [Option.some.injEq] at h; rw [← h]; exact hL.2 _ rfl
    | none =>
      simp only at h
      have hw : ∀ e, (wholeR r (allV l).ln (allV l).col).2 = some e → spPos e := by
        intro e h
        unfold wholeR at h
        split at h
        · simp only [Option.some.injEq] at h; rw [← h]; exact ⟨p1, p2⟩
        · exact killsF_pos _ _ _ _ hL.1 h
      revert h hw
      generalize wholeR r (allV l).ln (allV l).col = W
      intro h hw
      obtain ⟨ks, we⟩ := W
      cases we with
      | some e' => simp only [Option.some.injEq] at h; rw [← h]; exact hw _ rfl
      | none => cases h
def checkV (l : List UInt8) : Int × Int × Int := match (parO l).1 with
  | some e => (2, e.1, e.2)
  | none => (0, 0, 0)
def CheckP (l : List UInt8) (h : Heap) (v : Value) (h' : Heap) : Prop := Ext h h' ∧ v = .tuple #[.int .i64 (checkV l).1, spotV (checkV l).2.1 (checkV l).2.2]
theorem spotL_err {e : Int × Int} (h : spPos e) : F.spotL (errL e.1 e.2) = e := by
  obtain ⟨h1, h2⟩ := h
  have a1 : F.mx0 e.1 = e.1 := by unfold F.mx0; rw [if_neg (by omega)]
  have a2 : F.mx0 e.2 = e.2 := by unfold F.mx0; rw [if_neg (by omega)]
  have hs : F.hasS ⟨2, e.1, e.2⟩ = true := by
    have : ¬ e.1 = 0 := by omega
    simp [F.hasS, this]
  simp only [errL, a1, a2, F.spotL]
  rw [if_neg (by decide), if_pos hs]
theorem pcheck_ok (l : List UInt8) (hl : l.length ≤ 1048576) (h : Heap) (G : GlobOK h) : ACalls PP 12 [.string (B l)] h (CheckP l h) := by
  refine acalls_of_vc mix fn12 bodyEq12 rfl (by show 1 ≤ 21; decide) ok12 ?_
  simp only [body12, Tryz.f12]
  simp -implicitDefEqProofs
  refine (venue_ok l hl h).mono ?_
  rintro v H1 ⟨E1, hV⟩
  have hcv : checkV l = match (parO l).1 with
    | some e => (2, e.1, e.2)
    | none => (0, 0, 0) := rfl
  have G1 := G.ext E1
  cases hp : (parO l).1 with
  | none =>
    rw [hp] at hV hcv
    obtain ⟨w, co, hw, hc, rfl⟩ := hV
    obtain ⟨s', k', p', rfl, v1, v2, v3⟩ := id hc
    obtain ⟨ad1, cc1, rfl⟩ := v1.shape
    obtain ⟨ad2, cc2, rfl⟩ := v2.shape
    obtain ⟨ad3, cc3, rfl⟩ := v3.shape
    simp -implicitDefEqProofs [callQ]
    intro _
    refine (F.as_nil_ok _ _ (G1.ext (Ext.new H1 _))).mono ?_
    rintro v H2 ⟨rfl, rfl⟩
    simp -implicitDefEqProofs [callQ]
    intro _
    refine ⟨E1.newOf _, ?_⟩
    rw [hcv]
    rfl
  | some e =>
    rw [hp] at hV hcv
    obtain ⟨E, rfl, hE⟩ := hV
    have hpos := parO_pos hp
    have hE' := hE
    rcases hE.shape with ⟨_, q⟩ | ⟨b, f, E', r, rfl, q, k1, k2, k3⟩
    · cases q
    simp -implicitDefEqProofs [callQ, V.zVen]
    intro _
    have EN : Ext H1 (H1.new (.row true 58 [.pointer none])) := Ext.new H1 _
    refine (F.as_hit_ok b H1.n (.pointer none) _ (G1.ext EN) (by simp)).mono ?_
    rintro v H2 ⟨rfl, rfl⟩
    have EN2 := EN.setOf (Nat.le_refl H1.n) (.row true 58 [.pointer (some ⟨b, 0, none⟩)])
    obtain ⟨M, hM⟩ : ∃ M, M = (H1.new (.row true 58 [.pointer none])).set H1.n (.row true 58 [.pointer (some ⟨b, 0, none⟩)]) := ⟨_, rfl⟩
    have hMn : M.f H1.n = .row true 58 [.pointer (some ⟨b, 0, none⟩)] := by rw [hM]; simp
    rw [← hM] at EN2 ⊢
    have hMb : M.f b = .row true 89 [.int .i64 f.code, .int .i64 f.line, .int .i64 f.col, E'] := by rw [EN2.f b k2]; exact k1
    simp -implicitDefEqProofs [callQ, hMn]
    intro _
    refine (fcode_ok b f E' M hMb).mono ?_
    rintro v H2 ⟨e1, rfl⟩
    replace e1 := e1.symm
    subst e1
    simp -implicitDefEqProofs [callQ]
    intro _
    refine (F.spot_ok _ _ (by simp [errL]) M (G1.ext EN2) (hE'.ext EN2)).mono ?_
    rintro v H2 ⟨E3, rfl⟩
    rw [spotL_err hpos]
    simp -implicitDefEqProofs [callQ]
    intro _
    refine ⟨(E1.trans EN2).trans E3, ?_⟩
    have hfc : f.code = 2 := by simp only [errL, List.cons.injEq] at q; rw [← q.1]
    rw [hcv, hfc]
    rfl
end Go.Proofs.Yph
/- The reference's reader of a whole text. -/
namespace Go.Proofs.Yph
open Go Go.Am
set_option maxRecDepth 20000
set_option maxHeartbeats 4000000
open T (Tok tokC tokV spotV TokS allV allL nextV)
open V (SeatR PoleR VenR seatC poleC intC inB IntS)
open F (FR ChA GlobOK)
theorem addR_seats (r : Rd) (t0 : Tok) (rest : List Tok) : (addR r t0 rest).1.seats.length ≤ r.seats.length + 1 := by
  unfold addR
  dsimp only
  split
  · split <;> simp
  split
  · split <;> simp
  split
  · simp
  split
  · simp
  · split <;> simp
theorem linesR_seats (ts : List Tok) (el ec : Int) : ∀ (f a : Nat) (r : Rd), (linesR ts el ec f a r).1.seats.length ≤ r.seats.length + f := by
  intro f
  induction f with
  | zero => intro a r; simp [linesR]
  | succ f ih =>
    intro a r
    by_cases ha : a < ts.length
    · cases hr : rowAt ts a with
      | nil => rw [linesR_nil ha hr]; have := ih (nextAt ts a) r; omega
      | cons t0 rest =>
        rw [linesR_cons ha hr]
        cases hle : lineErr (t0 :: rest) (behAt ts el ec (a + (rest.length + 1))).1 (behAt ts el ec (a + (rest.length + 1))).2 with
        | some e => simp
        | none =>
          simp only
          have := addR_seats r t0 rest
          split
          · have := ih (nextAt ts a) (addR r t0 rest).1; omega
          · simp; omega
    · rw [linesR, if_neg ha]; simp
theorem RfH.num {h0 h : Heap} {r : Rd} {ks : List Int} {br : Nat} {os op ok o1 o2 o3 o4 : Option Nat} {ss sp sk s1 s2 s3 s4 : Value} (R : RfH h0 h r ks br os op ok o1 o2 o3 o4 ss sp sk s1 s2 s3 s4) (E0 : Ext h0 h) (x : Int) {cells : List Value} (hc : cells = ks.flatMap intC ++ intC x) :
    (fun G => Ext h0 G ∧ RfE h0 G r (ks ++ [x]) br) ((growH h ok (.row true 3 (intC x)) (.row true 3 cells)).set br (.row true 79 [ss, .int .i64 r.gap, .int .i64 r.radius, .slice (some ⟨h.n + 1, 0, none⟩) (ks.length + 1) (ks.length + 1), sp, .int .i64 (gN r.gap), .int .i64 (rN r.rad), s1, s2, s3, s4])) := by
  have hi := R.hi
  have l1 := own_lt R.rows
  have l2 := own_lt R.xs
  refine ⟨ext_grow E0 (own_ge R.kills) _ _ R.lo _, os, op, some (h.n + 1), o1, o2, o3, o4, _, _, _, _, _, _, _, ⟨by rw [f_set, if_pos rfl], R.lo, by show br < (growH h ok _ _).n; rw [grow_n]; omega, own_other R.seats _ _ _ (own_sep R.seats R.kills (by decide)) (own_ne R.seats R.row (by decide)), own_other R.poles _ _ _ (own_sep R.poles R.kills (by decide)) (own_ne R.poles R.row (by decide)),
    own_grow R.kills E0.n _ x hc hi _, own_other R.rows _ _ _ R.ak1 (own_ne R.rows R.row (by decide)), own_other R.xs _ _ _ R.ak2 (own_ne R.xs R.row (by decide)),
    own_other R.words _ _ _ (own_sep R.words R.kills (by decide)) (own_ne R.words R.row (by decide)), own_other R.firsts _ _ _ (own_sep R.firsts R.kills (by decide)) (own_ne R.firsts R.row (by decide)), ?_, ?_, R.a12, R.a34, R.nil⟩⟩
  · intro b q q2
    have := l1 b q2
    simp at q; omega
  · intro b q q2
    have := l2 b q2
    simp at q; omega
def J14b (h0 : Heap) (r : Rd) (el ec : Int) (br : Nat) (n : Nat) (m : Nat) (σ : St) : Prop := ∃ (i : Nat) (ks : List Int), m = n - i ∧ i ≤ n ∧ ks.length ≤ i ∧ Ext h0 σ.m.h ∧ RfE h0 σ.m.h r ks br ∧ wholeR r el ec = killsF r.seats (r.kills.drop i) ks ∧
  σ.t.get 2 = some (.pointer (some ⟨2, 0, some 0⟩)) ∧ σ.t.get 4 = some (.pointer (some ⟨4, 0, some 0⟩)) ∧ σ.t.get 8 = some (.pointer (some ⟨br, 0, none⟩)) ∧ σ.t.get 15 = some (.int .i64 (i : Nat)) ∧ σ.m.x.look 2 = some (33, V.zVen) ∧ σ.m.x.look 4 = some (27, [.int .i64 0, .int .i64 0])
def J14c (H : Heap) (br : Nat) (i : Nat) (q : Nat) (ks : List Int) (n : Nat) (m : Nat) (σ : St) : Prop := ∃ j : Nat, m = n - j ∧ j ≤ n ∧ σ.m.h = H ∧ (∀ x ∈ ks.take j, x ≠ (q : Int)) ∧
  σ.t.get 2 = some (.pointer (some ⟨2, 0, some 0⟩)) ∧ σ.t.get 4 = some (.pointer (some ⟨4, 0, some 0⟩)) ∧ σ.t.get 8 = some (.pointer (some ⟨br, 0, none⟩)) ∧ σ.t.get 15 = some (.int .i64 (i : Nat)) ∧ σ.t.get 16 = some (.int .i64 (q : Nat)) ∧ σ.t.get 17 = some (.int .i64 (j : Nat)) ∧ σ.m.x.look 2 = some (33, V.zVen) ∧ σ.m.x.look 4 = some (27, [.int .i64 0, .int .i64 0])
def RParseP (l : List UInt8) (h : Heap) (v : Value) (h' : Heap) : Prop := Ext h h' ∧ match (parO l).1 with
  | some e => v = .tuple #[.agg ⟨V.zVen⟩, .int .i64 2, spotV e.1 e.2]
  | none => ∃ w co, Normed (parO l).2 w ∧ V.VenC h' w co ∧ v = .tuple #[.agg ⟨co⟩, .int .i64 0, spotV 0 0]
def J14a (ts : List Tok) (h0 : Heap) (el ec : Int) (br : Nat) (tv : Value) (m : Nat) (σ : St) : Prop := ∃ (f a : Nat) (r : Rd), m = ts.length - a ∧ a ≤ ts.length ∧ ts.length < f + a ∧ linesR ts el ec (ts.length + 1) 0 rd0 = linesR ts el ec f a r ∧ RdGood r ∧
  Ext h0 σ.m.h ∧ RfE h0 σ.m.h r [] br ∧ σ.t.get 2 = some (.pointer (some ⟨2, 0, some 0⟩)) ∧ σ.t.get 4 = some (.pointer (some ⟨4, 0, some 0⟩)) ∧ σ.t.get 5 = some tv ∧ σ.t.get 6 = some (.pointer (some ⟨6, 0, some 0⟩)) ∧ σ.t.get 8 = some (.pointer (some ⟨br, 0, none⟩)) ∧ σ.t.get 9 = some (.int .i64 (a : Nat)) ∧
  σ.m.x.look 2 = some (33, V.zVen) ∧ σ.m.x.look 4 = some (27, [.int .i64 0, .int .i64 0]) ∧ σ.m.x.look 6 = some (27, [.int .i64 el, .int .i64 ec])
def M14a (H : Heap) (br : Nat) (tv rv : Value) (nx : Nat) (a : Nat) (el ec bl bc : Int) (σ : St) : Prop := σ.m.h = H ∧ σ.t.get 2 = some (.pointer (some ⟨2, 0, some 0⟩)) ∧ σ.t.get 4 = some (.pointer (some ⟨4, 0, some 0⟩)) ∧ σ.t.get 5 = some tv ∧ σ.t.get 6 = some (.pointer (some ⟨6, 0, some 0⟩)) ∧ σ.t.get 8 = some (.pointer (some ⟨br, 0, none⟩)) ∧
  σ.t.get 10 = some rv ∧ σ.t.get 11 = some (.int .i64 (nx : Nat)) ∧ σ.t.get 12 = some (.pointer (some ⟨12, 0, some 0⟩)) ∧ σ.m.x.look 2 = some (33, V.zVen) ∧ σ.m.x.look 4 = some (27, [.int .i64 0, .int .i64 0]) ∧ σ.m.x.look 6 = some (27, [.int .i64 el, .int .i64 ec]) ∧ σ.m.x.look 12 = some (27, [.int .i64 bl, .int .i64 bc])
theorem rparse_ok (l : List UInt8) (hl : l.length ≤ 3000) (h : Heap) : ACalls PP 14 [.string (B l)] h (RParseP l h) := by
  refine acalls_of_vc mix fn14 bodyEq14 rfl (by show 1 ≤ 175; decide) ok14 ?_
  simp only [body14, Tryz.f14]
  simp -implicitDefEqProofs
  refine (T.rall_ok l (by omega) h).mono ?_
  rintro v H1 ⟨E1, s, hs, rfl⟩
  obtain ⟨ad, rfl, _⟩ := id hs
  have hp : parO l = if (allV l).code ≠ 0 then (some ((allV l).ln, (allV l).col), ⟨[], 0, 0, [], []⟩) else _ := rfl
  simp -implicitDefEqProofs [callQ, spotV]
  intro _
  rcases allV_code l with hc | hc
  rotate_left
  · rw [if_pos (by rw [hc]; decide)] at hp
    simp -implicitDefEqProofs [hc]
    refine ⟨E1, ?_⟩
    rw [hp]
    simp [V.zVen, spotV]
  · rw [if_neg (by rw [hc]; decide)] at hp
    have htl : (allV l).ts.length ≤ 3001 := by have := allL_len l (l.length + 1) 0 1 1; show (allL l (l.length + 1) 0 1 1).ts.length ≤ _; omega
    obtain ⟨ts, hts⟩ : ∃ ts, ts = (allV l).ts := ⟨_, rfl⟩
    obtain ⟨el, hel⟩ : ∃ el, el = (allV l).ln := ⟨_, rfl⟩
    obtain ⟨ec, hec⟩ : ∃ ec, ec = (allV l).col := ⟨_, rfl⟩
    rw [← hts] at hs htl
    rw [← hts, ← hel, ← hec] at hp
    simp -implicitDefEqProofs [hc, ← hts, ← hel, ← hec]
    obtain ⟨M, hM⟩ : ∃ M, M = H1.new (Blk.row true 79 [Value.slice none 0 0, Value.int IntKind.i64 0, Value.int IntKind.i64 0, Value.slice none 0 0, Value.slice none 0 0, Value.int IntKind.i64 0, Value.int IntKind.i64 0, Value.slice none 0 0, Value.slice none 0 0, Value.slice none 0 0, Value.slice none 0 0]) := ⟨_, rfl⟩
    rw [← hM]
    have EM : Ext H1 M := by rw [hM]; exact Ext.new _ _
    have RM : RfE H1 M rd0 [] H1.n := by
      rw [hM]
      exact ⟨none, none, none, none, none, none, none, _, _, _, _, _, _, _, ⟨by simp [rd0, gN, rN], Nat.le_refl _, by simp, F.OwO.nil, F.OwO.nil, F.OwO.nil, F.OwO.nil, F.OwO.nil, F.OwO.nil, F.OwO.nil, (fun n q => by cases q), (fun n q => by cases q), (fun n q => by cases q), (fun n q => by cases q), fun _ => ⟨rfl, rfl, rfl, rfl⟩⟩⟩
    obtain ⟨n, hn⟩ : ∃ n, n = ts.length := ⟨_, rfl⟩
    obtain ⟨c, hc'⟩ : ∃ c, c = ts.length := ⟨_, rfl⟩
    have htk := hs.tokS
    rw [← hc']
    have hsl : Value.slice ad c c = Value.slice ad n c := by rw [hn, hc']
    rw [hsl]
    have htk : TokS H1 (.slice ad n c) ts := by have := hs.tokS; rw [← hc', hsl] at this; exact this
    refine vc_loop (J14a ts H1 el ec H1.n (.slice ad n c)) n ⟨ts.length + 1, 0, rd0, by omega, by omega, by omega, rfl, rd0_good, EM, RM, by simp, by simp, by simp, by simp, by simp, by simp, by simp [V.zVen], by simp, by simp⟩ ?_
    rintro m ⟨Tf, ⟨x, H⟩⟩ ⟨f, a, r, rfl, ha, hf, hlr, hG, E2, R2, g2, g4, g5, g6, g8, g9, x2, x4, x6⟩
    simp at E2 R2 g2 g4 g5 g6 g8 g9 x2 x4 x6
    have htH := htk.ext E2
    have hok := hG.ok
    simp -implicitDefEqProofs [g2, g4, g5, g6, g8, g9, x2, x4, x6]
    refine condQ_of (fun hc => ?_) (fun hc => ?_) <;> simp only [decide_eq_true_eq, decide_eq_false_iff_not] at hc
    · have hal : a < ts.length := by omega
      obtain ⟨hrl, hkl⟩ := rowAt_len hal
      obtain ⟨k, hk⟩ : ∃ k, k = T.lineN (ts.drop a) := ⟨_, rfl⟩
      obtain ⟨row, hrow⟩ : ∃ row, row = rowAt ts a := ⟨_, rfl⟩
      obtain ⟨nx, hnx⟩ : ∃ nx, nx = nextAt ts a := ⟨_, rfl⟩
      have hng := nextAt_gt hal
      have hin : 0 ≤ (a : Int) ∧ (a : Int) < ts.length := by omega
      have hrow2 : T.lineL ts a = row := by rw [T.lineL, if_pos hin, hrow]; simp only [Int.toNat_natCast]; rfl
      have hnx2 : T.lineTo ts a = (nx : Nat) := by rw [T.lineTo, if_pos hin, hnx]; simp only [Int.toNat_natCast]; rfl
      rw [← hk, ← hrow] at hrl
      rw [← hk] at hkl
      rw [← hnx] at hng
      refine (T.rline_any _ ts a (by omega) H htH).mono ?_
      rintro v H2 ⟨e, s', hs', rfl⟩
      replace e := e.symm
      subst e
      rw [hrow2] at hs'
      rw [hnx2]
      obtain ⟨ad', c', rfl, _⟩ := id hs'
      rw [hrl]
      have w1 : IntKind.wrap .i64 ((a : Int) + (k : Int)) = ((a + k : Nat) : Int) := by rw [i64wrap (by omega)]; omega
      simp -implicitDefEqProofs [callQ, g2, g4, g5, g6, g8, g9, x2, x4, x6]
      intro _
      obtain ⟨bh, hbh⟩ : ∃ bh, bh = behAt ts el ec (a + k) := ⟨_, rfl⟩
      refine condQ_cut (M14a H H1.n (.slice ad n c) (.slice ad' k c') nx a el ec bh.1 bh.2) ?_ ?_
      · by_cases hak : a + k < ts.length
        · obtain ⟨t, htt⟩ : ∃ t, t = ts[a + k] := ⟨_, rfl⟩
          have hget : ts[a + k]? = some t := by rw [htt]; exact List.getElem?_eq_getElem hak
          have hbh2 : bh = (t.line, t.col) := by rw [hbh, behAt, hget]
          obtain ⟨_, b', off', w', cells', r', q1, q2, q3, q4, q5⟩ := htH.at hget
          obtain ⟨p0, p1, p4⟩ := tok_drop q3
          have spt := rspot_ok t H
          simp only [tokV, tokC] at spt
          subst q1
          have k0 : (0 : Int) ≤ (a : Int) + (k : Int) := by omega
          have hak1 : a + k < n := by omega
          have hak' : (a : Int) + (k : Int) < (n : Int) := by omega
          have tn : ((a : Int) + (k : Int)).toNat = a + k := by omega
          simp -implicitDefEqProofs [w1, hak1, hak', q2, p0, q4, k0, tn]
          refine spt.mono ?_
          rintro r1 H2 ⟨e, rfl⟩
          replace e := e.symm
          subst e
          simp -implicitDefEqProofs [callQ, spotV]
          intro _
          exact ⟨rfl, by simp [g2], by simp [g4], by simp [g5], by simp [g6], by simp [g8], by simp, by simp, by simp, by simp [x2], by simp [x4], by simp [x6], by simp [hbh2]⟩
        · have hbh2 : bh = (el, ec) := by rw [hbh, behAt, List.getElem?_eq_none (by omega)]
          have hak' : ¬ (a : Int) + (k : Int) < (n : Int) := by omega
          have hak1 : ¬ a + k < n := by omega
          simp -implicitDefEqProofs [w1, hak1, hak']
          exact ⟨rfl, by simp [g2], by simp [g4], by simp [g5], by simp [g6], by simp [g8], by simp, by simp, by simp, by simp [x2], by simp [x4], by simp [x6], by simp [hbh2]⟩
      · clear g2 g4 g5 g6 g8 g9 x2 x4 x6
        rintro ⟨Tg, ⟨y, H2⟩⟩ ⟨e, g2, g4, g5, g6, g8, g10, g11, g12, x2, x4, x6, x12⟩
        replace e : H = H2 := e.symm
        subst e
        simp at g2 g4 g5 g6 g8 g10 g11 g12 x2 x4 x6 x12
        obtain ⟨f', rfl⟩ : ∃ f', f = f' + 1 := ⟨f - 1, by omega⟩
        cases row with
        | nil =>
          have hk0 : k = 0 := by simpa using hrl.symm
          subst hk0
          have hstep := hlr.trans (linesR_nil hal hrow.symm)
          rw [← hnx] at hstep
          simp -implicitDefEqProofs [g2, g4, g5, g6, g8, g10, g11, g12, x2, x4, x6, x12]
          exact ⟨ts.length - nx, by omega, f', nx, r, rfl, hng.2, by omega, hstep, hG, E2, R2, by simp [g2], by simp [g4], by simp [g5], by simp [g6], by simp [g8], by simp, by simp [x2], by simp [x4], by simp [x6]⟩
        | cons t0 rest =>
          have hk1 : k = rest.length + 1 := by simpa using hrl.symm
          have hkne : (0 : Int) < (k : Int) := by omega
          have hkne' : 0 < k := by omega
          have hstep := hlr.trans (linesR_cons hal hrow.symm)
          rw [← hnx] at hstep
          simp only [← hk1, ← hbh] at hstep
          have hs2 := hs'
          rw [hrl] at hs2
          have lin := rline_ok H1 H r t0 rest bh.1 bh.2 [] H1.n (.slice ad' k c') (by omega) E2 R2 hok.small hs2
          simp only [spotV] at lin
          simp -implicitDefEqProofs [g2, g4, g5, g6, g8, g10, g11, g12, x2, x4, x6, x12, hkne, hkne']
          refine lin.mono ?_
          rintro v H3 ⟨E3, hN⟩
          cases hle : lineErr (t0 :: rest) bh.1 bh.2 with
          | some e =>
            rw [hle] at hN hstep
            subst hN
            have hp' : parO l = (some e, ⟨[], 0, 0, [], []⟩) := by rw [hp, hstep]
            simp -implicitDefEqProofs [callQ, spotV, g2, g4, g5, g6, g8, g10, g11, g12, x2, x4, x6, x12, V.zVen]
            intro _
            refine ⟨E1.trans E3, ?_⟩
            rw [hp']
            simp [V.zVen, spotV]
          | none =>
            rw [hle] at hN hstep
            obtain ⟨rfl, hR3⟩ := hN
            cases hok2 : (addR r t0 rest).2 with
            | true =>
              rw [hok2, if_pos rfl] at hstep
              simp -implicitDefEqProofs [callQ, spotV, g2, g4, g5, g6, g8, g10, g11, g12, x2, x4, x6, x12]
              intro _
              exact ⟨ts.length - nx, by omega, f', nx, (addR r t0 rest).1, rfl, hng.2, by omega, hstep, addR_good hG hle hok2, E3, hR3 hok2, by simp, by simp, by simp, by simp, by simp, by simp, by simp [x2], by simp [x4], by simp [x6]⟩
            | false =>
              rw [hok2, if_neg (by decide)] at hstep
              have hp' : parO l = (some (t0.line, t0.col), ⟨[], 0, 0, [], []⟩) := by rw [hp, hstep]
              simp -implicitDefEqProofs [callQ, spotV, g2, g4, g5, g6, g8, g10, g11, g12, x2, x4, x6, x12, V.zVen]
              intro _
              refine ⟨E1.trans E3, ?_⟩
              rw [hp']
              simp [V.zVen, spotV]
    · have hal : a = ts.length := by omega
      have hstep : linesR ts el ec f a r = (r, none) := by
        cases f with
        | zero => rfl
        | succ f => rw [linesR, if_neg (by omega)]
      have hsl := linesR_seats ts el ec (ts.length + 1) 0 rd0
      rw [hlr, hstep] at hsl
      have hsl' : r.seats.length ≤ 3002 := by have : rd0.seats.length = 0 := rfl; simp only at hsl; omega
      rw [hlr, hstep] at hp
      simp only at hp
      obtain ⟨os, op, ok, o1, o2, o3, o4, ss, sp, sk, s1, s2, s3, s4, R⟩ := id R2
      have hbr := R.row
      obtain ⟨rfl, _⟩ := id R.seats
      have hg0 : gN r.gap = 0 ↔ r.gap = 0 := by
        unfold gN
        rcases hG.gap with q | q
        · rw [q]; simp
        · have : 1 ≤ r.gap := by simp [inB] at q; exact q.1
          rw [if_pos (by omega)]; omega
      by_cases hb : r.seats = [] ∨ r.gap = 0
      · have hw : wholeR r el ec = ([], some (el, ec)) := by rw [wholeR, if_pos hb]
        rw [hw] at hp
        simp only at hp
        by_cases h1 : r.seats = []
        · have hsl0 : r.seats.length = 0 := by rw [h1]; rfl
          simp -implicitDefEqProofs [g2, g4, g5, g6, g8, g9, x2, x4, x6, hbr, hsl0, h1, V.zVen]
          refine ⟨E1.trans E2, ?_⟩
          rw [hp]
          simp [V.zVen, spotV]
        · have h2 : gN r.gap = 0 := hg0.2 (hb.resolve_left h1)
          simp -implicitDefEqProofs [g2, g4, g5, g6, g8, g9, x2, x4, x6, hbr, h1, h2, V.zVen]
          refine ⟨E1.trans E2, ?_⟩
          rw [hp]
          simp [V.zVen, spotV]
      · have hb1 : ¬ r.seats = [] := fun q => hb (.inl q)
        have hb2 : ¬ gN r.gap = 0 := fun q => hb (.inr (hg0.1 q))
        have hw : wholeR r el ec = killsF r.seats (r.kills.drop 0) [] := by rw [wholeR, if_neg hb]; rfl
        obtain ⟨nk, hnk⟩ : ∃ n, n = r.kills.length := ⟨_, rfl⟩
        simp -implicitDefEqProofs [g2, g4, g5, g6, g8, g9, x2, x4, x6, hbr, hb1, hb2]
        refine vc_loop (J14b H1 r el ec H1.n nk) nk ⟨0, [], by omega, by omega, by simp, E2, R2, hw, by simp [g2], by simp [g4], by simp [g8], by simp, by simp [x2], by simp [x4]⟩ ?_
        clear g2 g4 g5 g6 g8 g9 x2 x4 x6 hbr R R2 hstep hsl
        rintro m ⟨Tg, ⟨x, H⟩⟩ ⟨i, ks, rfl, hi, hkl, E3, R3, hw1, g2, g4, g8, g15, x2, x4⟩
        simp at E3 R3 g2 g4 g8 g15 x2 x4
        obtain ⟨os, op, ok, o1, o2, o3, o4, ss, sp, sk, s1, s2, s3, s4, R⟩ := id R3
        have hbr := R.row
        obtain ⟨e1, _⟩ := id R.rows
        obtain ⟨e2, _⟩ := id R.xs
        obtain ⟨e3, _⟩ := id R.words
        obtain ⟨e4, _⟩ := id R.firsts
        simp only [List.length_map, ← hnk] at e1 e2 e3 e4
        have hsz := hok.2.1
        have hsR := R.rows.own.sl
        have hsX := R.xs.own.sl
        have hsW := R.words.own.sl
        have hsF := R.firsts.own.sl
        rw [e1] at hbr hsR
        rw [e2] at hbr hsX
        rw [e3] at hbr hsW
        rw [e4] at hbr hsF
        simp -implicitDefEqProofs [g2, g4, g8, g15, x2, x4, hbr]
        refine condQ_of (fun hc => ?_) (fun hc => ?_) <;> simp only [decide_eq_true_eq, decide_eq_false_iff_not] at hc
        · have hin : i < nk := by omega
          have hti : r.kills[i]? = some r.kills[i] := List.getElem?_eq_getElem (by omega)
          obtain ⟨k, hk⟩ : ∃ k, k = r.kills[i] := ⟨_, rfl⟩
          rw [← hk] at hti
          have hdr : r.kills.drop i = k :: r.kills.drop (i + 1) := by rw [hk]; exact List.drop_eq_getElem_cons (by omega)
          obtain ⟨_, c1, f1, w1, cs1, r1, a1, hb1', hd1, hl1, _⟩ := hsR.at 1 (fun _ => rfl) (i := i) (t := k.row) (by rw [List.getElem?_map, hti]; rfl)
          obtain ⟨_, c2, f2, w2, cs2, r2, a2, hb2', hd2, hl2, _⟩ := hsX.at 1 (fun _ => rfl) (i := i) (t := k.x) (by rw [List.getElem?_map, hti]; rfl)
          obtain ⟨_, c3, f3, w3, cs3, r3, a3, hb3', hd3, hl3, _⟩ := hsW.at 2 (fun _ => rfl) (i := i) (t := (k.line, k.col)) (by rw [List.getElem?_map, hti]; rfl)
          obtain ⟨_, c4, f4, w4, cs4, r4, a4, hb4', hd4, hl4, _⟩ := hsF.at 2 (fun _ => rfl) (i := i) (t := (k.rline, k.rcol)) (by rw [List.getElem?_map, hti]; rfl)
          rw [Nat.mul_one] at hd1 hl1 hd2 hl2
          simp only [spC, intC, List.cons_append, List.nil_append] at hd1 hd2 hd3 hd4
          rw [a1, a2, a3, a4] at hbr
          have w0 : IntKind.wrap .i64 ((i : Int) + 1) = ((i + 1 : Nat) : Int) := by rw [i64wrap (by omega)]; omega
          have hat := rat_ok r.seats (by omega) H1.n ss _ k.row k.x H hbr R.seats.own.sl
          simp -implicitDefEqProofs [g2, g4, g8, g15, x2, x4, hbr, hin, hb1', hd1, hl1, hb2', hd2, hl2]
          refine hat.mono ?_
          rintro rr H2 ⟨e, rfl⟩
          replace e := e.symm
          subst e
          cases hpl : placeAt r.seats k.row k.x with
          | none =>
            have hpv : placeV r.seats k.row k.x = -1 := by unfold placeV; rw [hpl]
            have hw2 : wholeR r el ec = (ks, some (k.rline, k.rcol)) := by rw [hw1, hdr, killsF_none hpl]
            rw [hw2] at hp
            simp only at hp
            simp -implicitDefEqProofs [callP, hpv, g2, g4, g8, g15, x2, x4, hbr, hin, hb4', hd4, hl4, V.zVen]
            intro _
            refine ⟨E1.trans E3, ?_⟩
            rw [hp]
            simp [V.zVen, spotV]
          | some q =>
            have hpv : placeV r.seats k.row k.x = (q : Nat) := by unfold placeV; rw [hpl]
            have q0 : ¬ (q : Int) < 0 := by omega
            obtain ⟨m, hm⟩ : ∃ m, m = ks.length := ⟨_, rfl⟩
            simp -implicitDefEqProofs [callP, hpv, q0, g2, g4, g8, g15, x2, x4]
            intro _
            refine vc_loop (J14c H H1.n i q ks m) m ⟨0, by omega, by omega, rfl, by simp, by simp, by simp, by simp, by simp, by simp, by simp, by simp [x2], by simp [x4]⟩ ?_
            clear g2 g4 g8 g15 x2 x4
            rintro mm ⟨Th, ⟨x, H'⟩⟩ ⟨j, rfl, hj, hH, hno, g2, g4, g8, g15, g16, g17, x2, x4⟩
            simp at hH g2 g4 g8 g15 g16 g17 x2 x4
            replace hH := hH.symm
            subst hH
            have hkk := R.kills
            obtain ⟨rfl, hko⟩ := id hkk
            have hsK := hkk.own.sl
            rw [← hm] at hbr hsK
            simp -implicitDefEqProofs [g2, g4, g8, g15, g16, g17, x2, x4, hbr]
            refine condQ_of (fun hc2 => ?_) (fun hc2 => ?_) <;> simp only [decide_eq_true_eq, decide_eq_false_iff_not] at hc2
            · have hjm : j < m := by omega
              have htj : ks[j]? = some ks[j] := List.getElem?_eq_getElem (by omega)
              obtain ⟨t, htt⟩ : ∃ t, t = ks[j] := ⟨_, rfl⟩
              rw [← htt] at htj
              obtain ⟨_, c5, f5, w5, cs5, r5, a5, hb5', hd5, hl5, _⟩ := hsK.at 1 (fun _ => rfl) htj
              rw [Nat.mul_one] at hd5 hl5
              simp only [intC, List.cons_append, List.nil_append] at hd5
              rw [a5] at hbr
              have w6 : IntKind.wrap .i64 ((j : Int) + 1) = ((j + 1 : Nat) : Int) := by rw [i64wrap (by omega)]; omega
              by_cases hq : t = (q : Int)
              · have hmem : (q : Int) ∈ ks := by rw [← hq]; exact List.mem_of_getElem? htj
                have hw2 : wholeR r el ec = (ks, some (k.line, k.col)) := by rw [hw1, hdr, killsF_twice hpl hmem]
                rw [hw2] at hp
                simp only at hp
                simp -implicitDefEqProofs [g2, g4, g8, g15, g16, g17, x2, x4, hbr, hjm, hb5', hd5, hl5, hq, hin, hb3', hd3, hl3, V.zVen]
                refine ⟨E1.trans E3, ?_⟩
                rw [hp]
                simp [V.zVen, spotV]
              · simp -implicitDefEqProofs [g2, g4, g8, g15, g16, g17, x2, x4, hbr, hjm, hb5', hd5, hl5, hq, w6]
                refine ⟨m - (j + 1), by omega, j + 1, rfl, by omega, rfl, fun z hz => ?_, by simp [g2], by simp [g4], by simp [g8], by simp [g15], by simp [g16], by simp, by simp [x2], by simp [x4]⟩
                rw [List.take_add_one, htj] at hz
                rcases List.mem_append.1 hz with z1 | z1
                · exact hno z z1
                · simp at z1; rw [z1]; exact hq
            · have hjm : j = m := by omega
              have hmem : (q : Int) ∉ ks := fun hq => hno q (by rw [List.take_of_length_le (by omega)]; exact hq) rfl
              have hw2 : wholeR r el ec = killsF r.seats (r.kills.drop (i + 1)) (ks ++ [(q : Int)]) := by rw [hw1, hdr, killsF_go hpl hmem]
              have hr1 : List.range 1 = [0] := rfl
              have mk := fun cells hc => R.num (cells := cells) E3 (q : Int) hc
              have o2' : ¬ H1.n = H.n := by have := R.hi; omega
              have o3' : ¬ H1.n = H.n + 1 := by have := R.hi; omega
              rw [hm] at hbr
              rw [← a1] at hbr
              rw [← a2] at hbr
              rw [← a3] at hbr
              rw [← a4] at hbr
              rw [e1, e2, e3, e4] at mk
              cases ok with
              | none =>
                simp only at hko
                subst hko
                obtain ⟨k1, k2⟩ := mk (intC (q : Int)) rfl
                simp -implicitDefEqProofs [g2, g4, g8, g15, g16, g17, x2, x4, hbr, opBuildSlice, hr1, opAppend, srcCells, maxA, o2', o3', w0]
                exact ⟨nk - (i + 1), by omega, i + 1, [(q : Int)], rfl, by omega, by simp, k1, k2, hw2, by simp, by simp, by simp, by simp, by simp [x2], by simp [x4]⟩
              | some b3 =>
                simp only at hko
                obtain ⟨hk1, hk2, hk3'⟩ := hko
                obtain ⟨K, hK⟩ : ∃ K, K = ks.flatMap intC := ⟨_, rfl⟩
                have hKl : K.length = ks.length := by have := flatA_len 1 (enc := intC) (fun _ => rfl) ks; rw [← hK] at this; omega
                rw [← hK] at hk1
                have hmx : (ks.length + 1) * 8 ≤ 140737488355328 := by omega
                have o1' : ¬ b3 = H.n := by omega
                have o4' : ¬ H1.n = b3 := by intro q; rw [← q, R.row] at hk1; simp at hk1
                have e8 : K.take ks.length = K := List.take_of_length_le (by omega)
                obtain ⟨k1, k2⟩ := mk (K ++ intC (q : Int)) (by rw [hK])
                simp -implicitDefEqProofs [g2, g4, g8, g15, g16, g17, x2, x4, hbr, opBuildSlice, hr1, opAppend, srcCells, maxA, hk1, hKl, hmx, o1', o2', o3', o4', e8, w0]
                exact ⟨nk - (i + 1), by omega, i + 1, ks ++ [(q : Int)], rfl, by omega, by simp; omega, k1, k2, hw2, by simp, by simp, by simp, by simp, by simp [x2], by simp [x4]⟩
        · have hin : i = nk := by omega
          have hw2 : wholeR r el ec = (ks, none) := by rw [hw1, List.drop_of_length_le (by omega)]; rfl
          have hwn := wholeR_none (r := r) (el := el) (ec := ec) (by rw [hw2]) hok.2.1
          rw [hw2] at hp hwn
          simp only at hp hwn
          obtain ⟨n1, n2, n3, n4⟩ := hwn
          have hVC : V.VenC H (venOf r ks) [ss, .int .i64 r.gap, .int .i64 r.radius, sk, sp] := ⟨_, _, _, rfl, R.seats.own.sl, R.kills.own.sl, R.poles.own.sl⟩
          simp -implicitDefEqProofs [g2, g4, g8, g15, x2, x4, hbr]
          refine (V.rnorm_ok (venOf r ks) _ ⟨by show r.seats.length ≤ _; omega, by show ks.length ≤ _; omega, by have := hok.2.2; show r.poles.length ≤ _; omega⟩ H hVC).mono ?_
          intro v H4 hN
          obtain ⟨E4, w, co, hw, hc, rfl⟩ := norm_good hG n1 n2 n3 n4 hN
          obtain ⟨s', k', p', rfl, v1, v2, v3⟩ := id hc
          obtain ⟨ad1, cc1, rfl⟩ := v1.shape
          obtain ⟨ad2, cc2, rfl⟩ := v2.shape
          obtain ⟨ad3, cc3, rfl⟩ := v3.shape
          simp -implicitDefEqProofs [callQ, g2, g4, g8, g15, x2, x4, V.zVen]
          intro _
          refine ⟨(E1.trans E3).trans E4, ?_⟩
          rw [hp]
          exact ⟨w, _, hw, hc, by simp [spotV]⟩
end Go.Proofs.Yph
/- The parser's few. -/
namespace Go.Proofs.Yph
open Go Go.Am
set_option maxRecDepth 20000
set_option maxHeartbeats 4000000
open T (Tok tokC tokV spotV TokS allV allL nextV)
open V (SeatR PoleR VenR seatC poleC intC inB IntS lessS lessS_iff SortedS Ri killedL findA atS mayV wrongV seatsOK pairOK killsOK)
open F (FR ChA GlobOK)
theorem may_seats {v : VenR} (h : mayV v = true) : seatsOK v.seats = true := by
  cases q : seatsOK v.seats with
  | true => rfl
  | false => unfold mayV wrongV at h; rw [if_pos q] at h; simp at h
theorem seats_pw {l : List SeatR} (h : seatsOK l = true) : l.Pairwise (fun a b => lessS a b = true) := by
  unfold seatsOK at h
  rw [Bool.and_eq_true, List.all_eq_true] at h
  have key : ∀ (d i : Nat) (a b : SeatR), l[i]? = some a → l[i + d + 1]? = some b → lessS a b = true := by
    have step : ∀ (i : Nat) (a b : SeatR), l[i]? = some a → l[i + 1]? = some b → lessS a b = true := by
      intro i a b h1 h2
      have hlt := (List.getElem?_eq_some_iff.mp h2).1
      have := h.1 (i + 1) (List.mem_range.2 hlt)
      unfold pairOK at this
      rw [h2, show i + 1 - 1 = i by omega, h1] at this
      simp at this
      exact this.2
    intro d
    induction d with
    | zero => exact step
    | succ d ih =>
      intro i a b h1 h2
      have hlt := (List.getElem?_eq_some_iff.mp h2).1
      have h3 : l[i + d + 1]? = some l[i + d + 1] := List.getElem?_eq_getElem (by omega)
      have q1 := ih i a _ h1 h3
      have q2 := step _ _ _ h3 (by rw [show i + d + 1 + 1 = i + (d + 1) + 1 by omega]; exact h2)
      rw [lessS_iff] at *
      omega
  rw [List.pairwise_iff_getElem]
  intro a b ha hb hab
  exact key (b - a - 1) a _ _ (List.getElem?_eq_getElem ha) (by rw [show a + (b - a - 1) + 1 = b by omega]; exact List.getElem?_eq_getElem hb)
theorem may_kills {v : VenR} (h : mayV v = true) : v.kills.length ≤ 200 := by
  cases q : killsOK v.kills v.seats.length with
  | true => unfold killsOK at q; simp at q; exact q.2
  | false =>
    unfold mayV wrongV at h
    rw [decide_eq_true_eq] at h
    split at h
    · cases h
    split at h
    · cases h
    split at h
    · cases h
    cases h
theorem normed_eq {v w u : VenR} (H : Normed v w) (K : Normed v u) : w = u := by
  obtain ⟨p1, s1, r1, m1, g1, a1, q1, y1⟩ := H
  obtain ⟨p2, s2, r2, m2, g2, a2, q2, y2⟩ := K
  have e := V.perm_sorted (seats_pw (may_seats y2)) (p1.trans p2.symm) s1
  have e2 : w.kills = u.kills := V.ri_eq r1 r2 (fun x => by rw [m1, m2, e])
  cases w; cases u
  simp only at *
  subst e e2
  rw [g1, g2, a1, a2, q1, q2]
def txt0 : List UInt8 := [103, 97, 112, 32, 50, 10, 119, 104, 101, 101, 108, 32, 49, 32, 51, 32, 52, 32, 35, 32, 104, 101, 114, 101, 10, 115, 101, 97, 116, 32, 48, 32, 53, 32, 54, 10, 107, 105, 108, 108, 32, 49, 32, 51, 10, 112, 111, 108, 101, 32, 48, 32, 48, 32, 57, 10]
def txt1 : List UInt8 := [103, 97, 112, 32, 49, 10, 115, 101, 97, 116, 32, 48, 32, 48, 32, 48, 10, 115, 101, 97, 116, 32, 48, 32, 48, 32, 53, 10]
def txt2 : List UInt8 := [103, 97, 112, 32, 49, 10, 115, 101, 97, 116, 32, 48, 32, 48, 32, 48, 10, 107, 105, 108, 108, 32, 48, 32, 57]
def txt3 : List UInt8 := [103, 97, 112, 32, 48, 10]
def txt4 : List UInt8 := [115, 101, 97, 116, 32, 49, 32, 50, 10]
theorem par0 : parO txt0 = (none, ⟨[⟨1, 3, 4, 1⟩, ⟨0, 5, 6, 0⟩], 2, 0, [0], [⟨0, 0, 9⟩]⟩) := by kernel_rfl
theorem chk0 : checkV [] = (2, 1, 1) := by kernel_rfl
theorem chk1 : checkV txt1 = (2, 3, 1) := by kernel_rfl
theorem chk2 : checkV txt2 = (2, 3, 6) := by kernel_rfl
theorem chk3 : checkV txt3 = (2, 1, 5) := by kernel_rfl
theorem chk4 : checkV txt4 = (2, 1, 9) := by kernel_rfl
theorem par5 : parO [120] = (some (1, 1), ⟨[], 0, 0, [], []⟩) := by kernel_rfl
def told0 : VenR := ⟨[⟨0, 5, 6, 0⟩, ⟨1, 3, 4, 1⟩], 2, 0, [1], [⟨0, 0, 9⟩]⟩
theorem told0_normed : Normed (parO txt0).2 told0 := by
  rw [par0]
  refine ⟨List.Perm.swap _ _ _, ?_, by simp [told0, Ri], ?_, rfl, rfl, rfl, by kernel_rfl⟩
  · intro i j a b hij ha hb
    have hj : j < 2 := by have := (List.getElem?_eq_some_iff.mp hb).1; exact this
    have : i = 0 := by omega
    have : j = 1 := by omega
    subst i j
    simp [told0] at ha hb
    subst a b
    rfl
  · intro x
    have e : (killedL (⟨[⟨1, 3, 4, 1⟩, ⟨0, 5, 6, 0⟩], 2, 0, [0], [⟨0, 0, 9⟩]⟩ : VenR)).map (fun s => findA (atS s) told0.seats) = [1] := by kernel_rfl
    simp only [e]
    rfl
theorem told_ok (h : Heap) (G : GlobOK h) : ACalls PP 9 [] h (fun v h' => Ext h h' ∧ v = .bool true) := by
  refine acalls_of_vc mix fn9 bodyEq9 rfl (by show 0 ≤ 152; decide) ok9 ?_
  simp only [body9, Tryz.f9]
  have hv0 := fun h => venue_ok txt0 (by decide) h
  have hv5 := fun h => venue_ok [120] (by decide) h
  have hc0 : ∀ h, GlobOK h → ACalls PP 12 [.string (B [])] h (fun v h' => Ext h h' ∧ v = .tuple #[.int .i64 2, spotV 1 1]) := fun h G => by
    have := pcheck_ok [] (by decide) h G
    unfold CheckP at this
    rw [chk0] at this
    exact this
  have hc1 : ∀ h, GlobOK h → ACalls PP 12 [.string (B txt1)] h (fun v h' => Ext h h' ∧ v = .tuple #[.int .i64 2, spotV 3 1]) := fun h G => by
    have := pcheck_ok txt1 (by decide) h G
    unfold CheckP at this
    rw [chk1] at this
    exact this
  have hc2 : ∀ h, GlobOK h → ACalls PP 12 [.string (B txt2)] h (fun v h' => Ext h h' ∧ v = .tuple #[.int .i64 2, spotV 3 6]) := fun h G => by
    have := pcheck_ok txt2 (by decide) h G
    unfold CheckP at this
    rw [chk2] at this
    exact this
  have hc3 : ∀ h, GlobOK h → ACalls PP 12 [.string (B txt3)] h (fun v h' => Ext h h' ∧ v = .tuple #[.int .i64 2, spotV 1 5]) := fun h G => by
    have := pcheck_ok txt3 (by decide) h G
    unfold CheckP at this
    rw [chk3] at this
    exact this
  have hc4 : ∀ h, GlobOK h → ACalls PP 12 [.string (B txt4)] h (fun v h' => Ext h h' ∧ v = .tuple #[.int .i64 2, spotV 1 9]) := fun h G => by
    have := pcheck_ok txt4 (by decide) h G
    unfold CheckP at this
    rw [chk4] at this
    exact this
  simp only [txt0] at hv0
  simp only [txt1] at hc1
  simp only [txt2] at hc2
  simp only [txt3] at hc3
  simp only [txt4] at hc4
  simp -implicitDefEqProofs
  refine (hv0 h).mono ?_
  rintro v H1 ⟨E1, hV⟩
  rw [show parO [103, 97, 112, 32, 50, 10, 119, 104, 101, 101, 108, 32, 49, 32, 51, 32, 52, 32, 35, 32, 104, 101, 114, 101, 10, 115, 101, 97, 116, 32, 48, 32, 53, 32, 54, 10, 107, 105, 108, 108, 32, 49, 32, 51, 10, 112, 111, 108, 101, 32, 48, 32, 48, 32, 57, 10] = parO txt0 from rfl] at hV
  have hp0 := told0_normed
  rw [par0] at hV hp0
  obtain ⟨w, co, hw, hc, rfl⟩ := hV
  obtain rfl := normed_eq hw hp0
  obtain ⟨s', k', p', rfl, v1, v2, v3⟩ := id hc
  obtain ⟨ad1, cc1, rfl⟩ := v1.shape
  obtain ⟨ad2, cc2, rfl⟩ := v2.shape
  obtain ⟨ad3, cc3, rfl⟩ := v3.shape
  simp -implicitDefEqProofs [callQ]
  intro _
  refine (hc0 H1 (G.ext E1)).mono ?_
  rintro v H2 ⟨E2, rfl⟩
  simp -implicitDefEqProofs [callQ, spotV]
  intro _
  refine (hc1 H2 (G.ext (E1.trans E2))).mono ?_
  rintro v H3 ⟨E3, rfl⟩
  simp -implicitDefEqProofs [callQ, spotV]
  intro _
  refine (hc2 H3 (G.ext ((E1.trans E2).trans E3))).mono ?_
  rintro v H4 ⟨E4, rfl⟩
  simp -implicitDefEqProofs [callQ, spotV]
  intro _
  refine (hc3 H4 (G.ext (((E1.trans E2).trans E3).trans E4))).mono ?_
  rintro v H5 ⟨E5, rfl⟩
  simp -implicitDefEqProofs [callQ, spotV]
  intro _
  refine (hc4 H5 (G.ext ((((E1.trans E2).trans E3).trans E4).trans E5))).mono ?_
  rintro v H6 ⟨E6, rfl⟩
  simp -implicitDefEqProofs [callQ, spotV]
  intro _
  refine (hv5 H6).mono ?_
  rintro v H7 ⟨E7, hV5⟩
  rw [par5] at hV5
  obtain ⟨E, rfl, hE⟩ := hV5
  obtain ⟨be, rfl⟩ := err_shape (h := H7) (a := 1) (b := 1) ⟨Ext.rfl' _, hE⟩
  have E17 : Ext H1 H7 := ((((E2.trans E3).trans E4).trans E5).trans E6).trans E7
  obtain ⟨_, b1, o1, w1, c1, r1, rfl, hb1, hd1, hl1, _⟩ := (v1.ext E17).at 4 V.seatC_len (i := 0) (t := ⟨0, 5, 6, 0⟩) rfl
  obtain ⟨_, b1', o1', w1', c1', r1', a1, hb1', hd1', hl1', _⟩ := (v1.ext E17).at 4 V.seatC_len (i := 1) (t := ⟨1, 3, 4, 1⟩) rfl
  simp only [Option.some.injEq, Addr.mk.injEq, and_true] at a1
  obtain ⟨rfl, rfl⟩ := a1
  rw [hb1] at hb1'
  simp only [Blk.row.injEq, true_and] at hb1'
  obtain ⟨rfl, rfl⟩ := hb1'
  obtain ⟨_, b2, o2, w2, c2, r2, rfl, hb2, hd2, hl2, _⟩ := (v2.ext E17).at 1 V.intC_len (i := 0) (t := 1) rfl
  simp only [Nat.zero_mul, Nat.add_zero, Nat.one_mul, seatC, intC, List.cons_append, List.nil_append] at hd1 hl1 hd1' hl1' hd2 hl2
  have hd3 : c1.drop (o1 + 4 + 3) = .int .i64 1 :: r1' := by rw [← List.drop_drop, hd1']; rfl
  have hl3 : o1 + 4 + 3 + 1 ≤ c1.length := by omega
  have e1 : told0.seats.length = 2 := rfl
  have e2 : told0.kills.length = 1 := rfl
  have e3 : told0.poles.length = 1 := rfl
  have e4 : told0.gap = 2 := rfl
  have e5 : told0.radius = 0 := rfl
  simp -implicitDefEqProofs [callQ, V.zVen]
  intro _
  have G7 : GlobOK H7 := G.ext (E1.trans E17)
  simp -implicitDefEqProofs [e1, e2, e3, e4, e5, hb1, hd1, hl1, hd1', hl1', hb2, hd2, hl2, hd3, hl3]
  refine (F.code_ok _ _ H7 G7 hE).mono ?_
  rintro v H8 ⟨E8, rfl⟩
  have hcd : F.codeL (errL 1 1) = 2 := rfl
  simp -implicitDefEqProofs [callQ, hcd]
  intro _
  refine (F.spot_ok _ _ (by simp [errL]) H8 (G7.ext E8) (hE.ext E8)).mono ?_
  rintro v H9 ⟨E9, rfl⟩
  have hsp : F.spotL (errL 1 1) = (1, 1) := rfl
  simp -implicitDefEqProofs [callQ, hsp]
  intro _
  exact ((E1.trans E17).trans E8).trans E9
end Go.Proofs.Yph
