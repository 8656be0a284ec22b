import Derived.Test.YthglohpeijfcfaaAmV4
set_option linter.unusedVariables false
set_option linter.unusedSimpArgs false
set_option linter.unusedSectionVars false
namespace Go.Proofs.Yth
open Go Go.Am
set_option maxRecDepth 20000
set_option maxHeartbeats 2000000
theorem take_ne {α : Type} {xs ys : List α} {i : Nat} {a b : α} (h1 : xs[i]? = some a) (h2 : ys[i]? = some b) (h : a ≠ b) : xs ≠ ys := fun e => h (by rw [e, h2] at h1; exact (Option.some.inj h1).symm)
theorem take_next {α : Type} {xs ys : List α} {i : Nat} {a : α} (h1 : xs[i]? = some a) (h2 : ys[i]? = some a) (h : xs.take i = ys.take i) : xs.take (i + 1) = ys.take (i + 1) := by
  rw [List.take_add_one, List.take_add_one, h, h1, h2]
def JEq (s1 s2 : Value) {α : Type} (xs ys : List α) (m : Nat) (h : Heap) (n : Nat) (σ : St) : Prop := ∃ i : Nat, n = m - i ∧ i ≤ m ∧ σ.m.h = h ∧ σ.t.get 0 = some s1 ∧ σ.t.get 1 = some s2 ∧ σ.t.get 12 = some (.int .i64 (m : Nat)) ∧ σ.t.get 13 = some (.int .i64 (i : Nat)) ∧ xs.take i = ys.take i
theorem eqSeats_ok (s1 s2 : Value) (xs ys : List SeatR) (hl : xs.length ≤ 1073741824) (h : Heap) (h1 : SeatS h s1 xs) (h2 : SeatS h s2 ys) : ACalls PP 40 [s1, s2] h (fun v h' => h' = h ∧ v = .bool (decide (xs = ys))) := by
  refine acalls_of_vc mix fn40 bodyEq40 rfl (by show 2 ≤ 26; decide) ok40 ?_
  simp only [body40, Try.f40]
  obtain ⟨ad1, c1, rfl⟩ := h1.shape
  obtain ⟨ad2, c2, rfl⟩ := h2.shape
  by_cases hll : xs.length = ys.length
  · obtain ⟨m, hm⟩ : ∃ m, m = xs.length := ⟨_, rfl⟩
    have hm2 : ys.length = m := by omega
    rw [← hm] at h1 ⊢
    rw [hm2] at h2 ⊢
    simp -implicitDefEqProofs
    refine vc_loop (JEq (.slice ad1 m c1) (.slice ad2 m c2) xs ys m h) _ ⟨0, rfl, by omega, rfl, by simp, by simp, by simp, by simp, by simp⟩ ?_
    rintro n ⟨T, ⟨x, H⟩⟩ ⟨i, rfl, hi, hH, g0, g1, g12, g13, ht⟩
    simp at hH g0 g1 g12 g13
    subst hH
    simp -implicitDefEqProofs [g0, g1, g12, g13]
    refine condQ_of (fun hc => ?_) (fun hc => ?_) <;> simp only [decide_eq_true_eq, decide_eq_false_iff_not] at hc
    · have him : i < m := by omega
      have ha : xs[i]? = some xs[i] := List.getElem?_eq_getElem (by omega)
      have hb : ys[i]? = some ys[i] := List.getElem?_eq_getElem (by omega)
      obtain ⟨_, b1, o1, wb1, cs1, r1, rfl, hb1, hd1, hl1, _⟩ := h1.at 4 seatC_len ha
      obtain ⟨_, b2, o2, wb2, cs2, r2, rfl, hb2, hd2, hl2, _⟩ := h2.at 4 seatC_len hb
      obtain ⟨a, hea⟩ : ∃ a, a = xs[i] := ⟨_, rfl⟩
      obtain ⟨b, heb⟩ : ∃ b, b = ys[i] := ⟨_, rfl⟩
      rw [← hea] at hd1 ha
      rw [← heb] at hd2 hb
      have w1 : IntKind.wrap .i64 ((i : Int) + 1) = ((i + 1 : Nat) : Int) := by rw [i64wrap (by omega)]; omega
      obtain ⟨ar, ax, ay, ak⟩ := a
      obtain ⟨br, bx, by', bk⟩ := b
      simp -implicitDefEqProofs [g0, g1, g12, g13, him, hb1, hb2, hd1, hd2, hl1, hl2, seatC]
      refine condQ_of (fun hq => ?_) (fun hq => ?_)
      · have hne : ¬ xs = ys := take_ne ha hb (fun e => by simp only [SeatR.mk.injEq] at e; simp [e.1, e.2.1, e.2.2.1, e.2.2.2] at hq)
        simp -implicitDefEqProofs [hne]
      · simp at hq
        obtain ⟨rfl, rfl, rfl, rfl⟩ := hq
        simp -implicitDefEqProofs [g0, g1, g12, g13, w1]
        exact ⟨m - (i + 1), by omega, i + 1, rfl, by omega, rfl, by simp [g0], by simp [g1], by simp [g12], by simp, take_next ha hb ht⟩
    · have : i = m := by omega
      subst this
      have : xs = ys := by rw [List.take_of_length_le (by omega), List.take_of_length_le (by omega)] at ht; exact ht
      simp -implicitDefEqProofs [g0, g1, g12, g13, this]
  · have hne : ¬ xs = ys := fun e => hll (by rw [e])
    have hll' : ¬ (xs.length : Int) = (ys.length : Int) := by omega
    simp -implicitDefEqProofs [hll', hne]
theorem eqInts_ok (s1 s2 : Value) (xs ys : List Int) (hl : xs.length ≤ 1073741824) (h : Heap) (h1 : IntS h s1 xs) (h2 : IntS h s2 ys) : ACalls PP 41 [s1, s2] h (fun v h' => h' = h ∧ v = .bool (decide (xs = ys))) := by
  refine acalls_of_vc mix fn41 bodyEq41 rfl (by show 2 ≤ 26; decide) ok41 ?_
  simp only [body41, Try.f41]
  obtain ⟨ad1, c1, rfl⟩ := h1.shape
  obtain ⟨ad2, c2, rfl⟩ := h2.shape
  by_cases hll : xs.length = ys.length
  · obtain ⟨m, hm⟩ : ∃ m, m = xs.length := ⟨_, rfl⟩
    have hm2 : ys.length = m := by omega
    rw [← hm] at h1 ⊢
    rw [hm2] at h2 ⊢
    simp -implicitDefEqProofs
    refine vc_loop (JEq (.slice ad1 m c1) (.slice ad2 m c2) xs ys m h) _ ⟨0, rfl, by omega, rfl, by simp, by simp, by simp, by simp, by simp⟩ ?_
    rintro n ⟨T, ⟨x, H⟩⟩ ⟨i, rfl, hi, hH, g0, g1, g12, g13, ht⟩
    simp at hH g0 g1 g12 g13
    subst hH
    simp -implicitDefEqProofs [g0, g1, g12, g13]
    refine condQ_of (fun hc => ?_) (fun hc => ?_) <;> simp only [decide_eq_true_eq, decide_eq_false_iff_not] at hc
    · have him : i < m := by omega
      have ha : xs[i]? = some xs[i] := List.getElem?_eq_getElem (by omega)
      have hb : ys[i]? = some ys[i] := List.getElem?_eq_getElem (by omega)
      obtain ⟨_, b1, o1, wb1, cs1, r1, rfl, hb1, hd1, hl1, _⟩ := h1.at 1 intC_len ha
      obtain ⟨_, b2, o2, wb2, cs2, r2, rfl, hb2, hd2, hl2, _⟩ := h2.at 1 intC_len hb
      obtain ⟨a, hea⟩ : ∃ a, a = xs[i] := ⟨_, rfl⟩
      obtain ⟨b, heb⟩ : ∃ b, b = ys[i] := ⟨_, rfl⟩
      rw [← hea] at hd1 ha
      rw [← heb] at hd2 hb
      have w1 : IntKind.wrap .i64 ((i : Int) + 1) = ((i + 1 : Nat) : Int) := by rw [i64wrap (by omega)]; omega
      rw [Nat.mul_one] at hd1 hd2 hl1 hl2
      simp -implicitDefEqProofs [g0, g1, g12, g13, him, hb1, hb2, hd1, hd2, hl1, hl2, intC]
      refine condQ_of (fun hq => ?_) (fun hq => ?_)
      · have hne : ¬ xs = ys := take_ne ha hb (fun e => by simp [e] at hq)
        simp -implicitDefEqProofs [hne]
      · simp at hq
        subst hq
        simp -implicitDefEqProofs [g0, g1, g12, g13, w1]
        exact ⟨m - (i + 1), by omega, i + 1, rfl, by omega, rfl, by simp [g0], by simp [g1], by simp [g12], by simp, take_next ha hb ht⟩
    · have : i = m := by omega
      subst this
      have : xs = ys := by rw [List.take_of_length_le (by omega), List.take_of_length_le (by omega)] at ht; exact ht
      simp -implicitDefEqProofs [g0, g1, g12, g13, this]
  · have hne : ¬ xs = ys := fun e => hll (by rw [e])
    have hll' : ¬ (xs.length : Int) = (ys.length : Int) := by omega
    simp -implicitDefEqProofs [hll', hne]
theorem eqPoles_ok (s1 s2 : Value) (xs ys : List PoleR) (hl : xs.length ≤ 1073741824) (h : Heap) (h1 : PoleS h s1 xs) (h2 : PoleS h s2 ys) : ACalls PP 42 [s1, s2] h (fun v h' => h' = h ∧ v = .bool (decide (xs = ys))) := by
  refine acalls_of_vc mix fn42 bodyEq42 rfl (by show 2 ≤ 26; decide) ok42 ?_
  simp only [body42, Try.f42]
  obtain ⟨ad1, c1, rfl⟩ := h1.shape
  obtain ⟨ad2, c2, rfl⟩ := h2.shape
  by_cases hll : xs.length = ys.length
  · obtain ⟨m, hm⟩ : ∃ m, m = xs.length := ⟨_, rfl⟩
    have hm2 : ys.length = m := by omega
    rw [← hm] at h1 ⊢
    rw [hm2] at h2 ⊢
    simp -implicitDefEqProofs
    refine vc_loop (JEq (.slice ad1 m c1) (.slice ad2 m c2) xs ys m h) _ ⟨0, rfl, by omega, rfl, by simp, by simp, by simp, by simp, by simp⟩ ?_
    rintro n ⟨T, ⟨x, H⟩⟩ ⟨i, rfl, hi, hH, g0, g1, g12, g13, ht⟩
    simp at hH g0 g1 g12 g13
    subst hH
    simp -implicitDefEqProofs [g0, g1, g12, g13]
    refine condQ_of (fun hc => ?_) (fun hc => ?_) <;> simp only [decide_eq_true_eq, decide_eq_false_iff_not] at hc
    · have him : i < m := by omega
      have ha : xs[i]? = some xs[i] := List.getElem?_eq_getElem (by omega)
      have hb : ys[i]? = some ys[i] := List.getElem?_eq_getElem (by omega)
      obtain ⟨_, b1, o1, wb1, cs1, r1, rfl, hb1, hd1, hl1, _⟩ := h1.at 3 poleC_len ha
      obtain ⟨_, b2, o2, wb2, cs2, r2, rfl, hb2, hd2, hl2, _⟩ := h2.at 3 poleC_len hb
      obtain ⟨a, hea⟩ : ∃ a, a = xs[i] := ⟨_, rfl⟩
      obtain ⟨b, heb⟩ : ∃ b, b = ys[i] := ⟨_, rfl⟩
      rw [← hea] at hd1 ha
      rw [← heb] at hd2 hb
      have w1 : IntKind.wrap .i64 ((i : Int) + 1) = ((i + 1 : Nat) : Int) := by rw [i64wrap (by omega)]; omega
      obtain ⟨ar, ax, ay⟩ := a
      obtain ⟨br, bx, by'⟩ := b
      simp -implicitDefEqProofs [g0, g1, g12, g13, him, hb1, hb2, hd1, hd2, hl1, hl2, poleC]
      refine condQ_of (fun hq => ?_) (fun hq => ?_)
      · have hne : ¬ xs = ys := take_ne ha hb (fun e => by simp only [PoleR.mk.injEq] at e; simp [e.1, e.2.1, e.2.2] at hq)
        simp -implicitDefEqProofs [hne]
      · simp at hq
        obtain ⟨rfl, rfl, rfl⟩ := hq
        simp -implicitDefEqProofs [g0, g1, g12, g13, w1]
        exact ⟨m - (i + 1), by omega, i + 1, rfl, by omega, rfl, by simp [g0], by simp [g1], by simp [g12], by simp, take_next ha hb ht⟩
    · have : i = m := by omega
      subst this
      have : xs = ys := by rw [List.take_of_length_le (by omega), List.take_of_length_le (by omega)] at ht; exact ht
      simp -implicitDefEqProofs [g0, g1, g12, g13, this]
  · have hne : ¬ xs = ys := fun e => hll (by rw [e])
    have hll' : ¬ (xs.length : Int) = (ys.length : Int) := by omega
    simp -implicitDefEqProofs [hll', hne]
def sameV (a b : VenR) : Bool := decide (a.gap = b.gap) && (decide (a.radius = b.radius) && (decide (a.seats = b.seats) && (decide (a.kills = b.kills) && decide (a.poles = b.poles))))
theorem same_ok (a b : VenR) (ca cb : List Value) (ha : venSmall a) (h : Heap) (Ha : VenC h a ca) (Hb : VenC h b cb) : ACalls PP 17 [.agg ⟨ca⟩, .agg ⟨cb⟩] h (fun r h' => h' = h ∧ r = .bool (sameV a b)) := by
  refine acalls_of_vc mix fn17 bodyEq17 rfl (by show 2 ≤ 38; decide) ok17 ?_
  simp only [body17, Try.f17]
  obtain ⟨s, k, p, rfl, h1, h2, h3⟩ := Ha
  obtain ⟨s', k', p', rfl, h1', h2', h3'⟩ := Hb
  obtain ⟨ad1, c1, e1⟩ := h1.shape
  obtain ⟨ad2, c2, e2⟩ := h2.shape
  obtain ⟨ad3, c3, e3⟩ := h3.shape
  obtain ⟨ad4, c4, e4⟩ := h1'.shape
  obtain ⟨ad5, c5, e5⟩ := h2'.shape
  obtain ⟨ad6, c6, e6⟩ := h3'.shape
  subst e1; subst e2; subst e3; subst e4; subst e5; subst e6
  unfold sameV
  by_cases q1 : a.gap = b.gap
  · by_cases q2 : a.radius = b.radius
    · simp -implicitDefEqProofs [q1, q2]
      refine (eqSeats_ok _ _ a.seats b.seats ha.1 h h1 h1').mono ?_
      rintro r h' ⟨rfl, rfl⟩
      simp -implicitDefEqProofs [callQ]
      intro _
      by_cases q3 : a.seats = b.seats
      · simp -implicitDefEqProofs [q3]
        refine (eqInts_ok _ _ a.kills b.kills ha.2.1 h' h2 h2').mono ?_
        rintro r h' ⟨rfl, rfl⟩
        simp -implicitDefEqProofs [callQ]
        intro _
        by_cases q4 : a.kills = b.kills
        · simp -implicitDefEqProofs [q4]
          refine (eqPoles_ok _ _ a.poles b.poles ha.2.2 h' h3 h3').mono ?_
          rintro r h' ⟨rfl, rfl⟩
          simp -implicitDefEqProofs [callQ]
        · simp -implicitDefEqProofs [q4]
      · simp -implicitDefEqProofs [q3]
    · simp -implicitDefEqProofs [q1, q2]
  · simp -implicitDefEqProofs [q1]
end Go.Proofs.Yth
