import Derived.Test.YthglohpeijfcfaaAmVc
set_option linter.unusedVariables false
set_option linter.unusedSimpArgs false
set_option linter.unusedSectionVars false
namespace Go.Proofs.Yth
open Go Go.Am
set_option maxRecDepth 20000
set_option maxHeartbeats 2000000
def JS (ti : Nat) (ca cb : List Value) {α : Type} (xs ys : List α) (m : Nat) (h : Heap) (n : Nat) (σ : St) : Prop := ∃ i : Nat, n = m - i ∧ i ≤ m ∧ σ.m.h = h ∧ σ.t.get 2 = some (.pointer (some ⟨2, 0, some 0⟩)) ∧ σ.t.get 3 = some (.pointer (some ⟨3, 0, some 0⟩)) ∧ σ.t.get ti = some (.int .i64 (i : Nat)) ∧ σ.m.x.look 2 = some (26, ca) ∧ σ.m.x.look 3 = some (26, cb) ∧ xs.take i = ys.take i
theorem rsame_ok (a b : VenR) (ca cb : List Value) (ha : venSmall a) (h : Heap) (Ha : VenC h a ca) (Hb : VenC h b cb) : ACalls PP 18 [.agg ⟨ca⟩, .agg ⟨cb⟩] h (fun r h' => h' = h ∧ r = .bool (sameV a b)) := by
  refine acalls_of_vc mix fn18 bodyEq18 rfl (by show 2 ≤ 101; decide) ok18 ?_
  simp only [body18, Try.f18]
  obtain ⟨s, k, p, rfl, h1, h2, h3⟩ := Ha
  obtain ⟨s', k', p', rfl, h1', h2', h3'⟩ := Hb
  obtain ⟨ad1, c1, e1⟩ := h1.shape
  obtain ⟨ad2, c2, e2⟩ := h2.shape
  obtain ⟨ad3, c3, e3⟩ := h3.shape
  obtain ⟨ad4, c4, e4⟩ := h1'.shape
  obtain ⟨ad5, c5, e5⟩ := h2'.shape
  obtain ⟨ad6, c6, e6⟩ := h3'.shape
  subst e1; subst e2; subst e3; subst e4; subst e5; subst e6
  unfold sameV
  by_cases q1 : a.gap = b.gap
  rotate_left
  · simp -implicitDefEqProofs [q1]
  by_cases q2 : a.radius = b.radius
  rotate_left
  · simp -implicitDefEqProofs [q1, q2]
  by_cases q3 : (a.seats.length : Int) = b.seats.length
  rotate_left
  · have : ¬ a.seats = b.seats := fun e => q3 (by rw [e])
    simp -implicitDefEqProofs [q1, q2, q3, this]
  by_cases q4 : (a.kills.length : Int) = b.kills.length
  rotate_left
  · have : ¬ a.kills = b.kills := fun e => q4 (by rw [e])
    simp -implicitDefEqProofs [q1, q2, q3, q4, this]
  by_cases q5 : (a.poles.length : Int) = b.poles.length
  rotate_left
  · have : ¬ a.poles = b.poles := fun e => q5 (by rw [e])
    simp -implicitDefEqProofs [q1, q2, q3, q4, q5, this]
  obtain ⟨ms, hms⟩ : ∃ m, m = a.seats.length := ⟨_, rfl⟩
  have hms2 : b.seats.length = ms := by omega
  obtain ⟨mk, hmk⟩ : ∃ m, m = a.kills.length := ⟨_, rfl⟩
  have hmk2 : b.kills.length = mk := by omega
  obtain ⟨mp, hmp⟩ : ∃ m, m = a.poles.length := ⟨_, rfl⟩
  have hmp2 : b.poles.length = mp := by omega
  obtain ⟨hv1, hv2, hv3⟩ := ha
  rw [← hms] at h1 hv1 ⊢
  rw [hms2] at h1' ⊢
  rw [← hmk] at h2 hv2 ⊢
  rw [hmk2] at h2' ⊢
  rw [← hmp] at h3 hv3 ⊢
  rw [hmp2] at h3' ⊢
  clear q3 q4 q5
  rw [q1, q2]
  obtain ⟨ga, hga⟩ : ∃ z, z = b.gap := ⟨_, rfl⟩
  obtain ⟨ra, hra⟩ : ∃ z, z = b.radius := ⟨_, rfl⟩
  rw [← hga, ← hra]
  obtain ⟨post, hpost⟩ : ∃ post : Value → Heap → Prop, post = (fun r h' => h' = h ∧ r = Value.bool (decide (ga = ga) && (decide (ra = ra) && (decide (a.seats = b.seats) && (decide (a.kills = b.kills) && decide (a.poles = b.poles)))))) := ⟨_, rfl⟩
  rw [← hpost]
  have pf : ∀ x, x = (decide (a.seats = b.seats) && (decide (a.kills = b.kills) && decide (a.poles = b.poles))) → post (.bool x) h := fun x hx => by rw [hpost]; exact ⟨rfl, by rw [hx]; simp⟩
  simp -implicitDefEqProofs
  refine vc_loop (JS 5 [.slice ad1 ms c1, .int .i64 ga, .int .i64 ra, .slice ad2 mk c2, .slice ad3 mp c3] [.slice ad4 ms c4, .int .i64 ga, .int .i64 ra, .slice ad5 mk c5, .slice ad6 mp c6] a.seats b.seats ms h) _ ⟨0, rfl, by omega, rfl, by simp, by simp, by simp, by simp, by simp, by simp⟩ ?_
  rintro n0 ⟨T0, ⟨x0', H0⟩⟩ ⟨i0, rfl, hi0, hH, g2, g3, gi, x2, x3, ht0⟩
  simp at hH g2 g3 gi x2 x3
  subst hH
  simp -implicitDefEqProofs [g2, g3, gi, x2, x3]
  refine condQ_of (fun hc => ?_) (fun hc => ?_) <;> simp only [decide_eq_true_eq, decide_eq_false_iff_not] at hc
  · have him : i0 < ms := by omega
    have hA : a.seats[i0]? = some a.seats[i0] := List.getElem?_eq_getElem (by omega)
    have hB : b.seats[i0]? = some b.seats[i0] := List.getElem?_eq_getElem (by omega)
    obtain ⟨_, b1, o1, wb1, cs1, r1, rfl, hb1, hd1, hl1, _⟩ := h1.at 4 seatC_len hA
    obtain ⟨_, b2, o2, wb2, cs2, r2, rfl, hb2, hd2, hl2, _⟩ := h1'.at 4 seatC_len hB
    obtain ⟨a', hea⟩ : ∃ z, z = a.seats[i0] := ⟨_, rfl⟩
    obtain ⟨b', heb⟩ : ∃ z, z = b.seats[i0] := ⟨_, rfl⟩
    rw [← hea] at hd1 hA
    rw [← heb] at hd2 hB
    have w1 : IntKind.wrap .i64 ((i0 : Int) + 1) = ((i0 + 1 : Nat) : Int) := by rw [i64wrap (by omega)]; omega
    obtain ⟨ar, ax, ay, ak⟩ := a'
    obtain ⟨br', bx', by', bk'⟩ := b'
    simp -implicitDefEqProofs [g2, g3, gi, x2, x3, him, hb1, hb2, hd1, hd2, hl1, hl2, seatC]
    refine condQ_of (fun hq => ?_) (fun hq => ?_)
    · have hne : ¬ a.seats = b.seats := take_ne hA hB (fun e => by simp only [SeatR.mk.injEq] at e; simp [e.1, e.2.1, e.2.2.1, e.2.2.2] at hq)
      simp -implicitDefEqProofs
      exact pf _ (by simp [hne])
    · simp at hq
      obtain ⟨rfl, rfl, rfl, rfl⟩ := hq
      simp -implicitDefEqProofs [g2, g3, gi, x2, x3, w1]
      exact ⟨ms - (i0 + 1), by omega, i0 + 1, rfl, by omega, rfl, by simp [g2], by simp [g3], by simp, by simp [x2], by simp [x3], take_next hA hB ht0⟩
  have hee0 : i0 = ms := by omega
  have heq0 : a.seats = b.seats := by rw [List.take_of_length_le (by omega), List.take_of_length_le (by omega)] at ht0; exact ht0
  simp -implicitDefEqProofs [g2, g3, gi, x2, x3]
  clear ht0 hee0 hi0
  refine vc_loop (JS 6 [.slice ad1 ms c1, .int .i64 ga, .int .i64 ra, .slice ad2 mk c2, .slice ad3 mp c3] [.slice ad4 ms c4, .int .i64 ga, .int .i64 ra, .slice ad5 mk c5, .slice ad6 mp c6] a.kills b.kills mk H0) _ ⟨0, rfl, by omega, rfl, by simp [g2, g3, x2, x3], by simp [g2, g3, x2, x3], by simp [g2, g3, x2, x3], by simp [g2, g3, x2, x3], by simp [g2, g3, x2, x3], by simp⟩ ?_
  clear g2 g3 gi x2 x3 hc
  rintro n1 ⟨T1, ⟨x1', H1⟩⟩ ⟨i1, rfl, hi1, hH, g2, g3, gi, x2, x3, ht1⟩
  simp at hH g2 g3 gi x2 x3
  subst hH
  simp -implicitDefEqProofs [g2, g3, gi, x2, x3]
  refine condQ_of (fun hc => ?_) (fun hc => ?_) <;> simp only [decide_eq_true_eq, decide_eq_false_iff_not] at hc
  · have him : i1 < mk := by omega
    have hA : a.kills[i1]? = some a.kills[i1] := List.getElem?_eq_getElem (by omega)
    have hB : b.kills[i1]? = some b.kills[i1] := List.getElem?_eq_getElem (by omega)
    obtain ⟨_, b1, o1, wb1, cs1, r1, rfl, hb1, hd1, hl1, _⟩ := h2.at 1 intC_len hA
    obtain ⟨_, b2, o2, wb2, cs2, r2, rfl, hb2, hd2, hl2, _⟩ := h2'.at 1 intC_len hB
    obtain ⟨a', hea⟩ : ∃ z, z = a.kills[i1] := ⟨_, rfl⟩
    obtain ⟨b', heb⟩ : ∃ z, z = b.kills[i1] := ⟨_, rfl⟩
    rw [← hea] at hd1 hA
    rw [← heb] at hd2 hB
    have w1 : IntKind.wrap .i64 ((i1 : Int) + 1) = ((i1 + 1 : Nat) : Int) := by rw [i64wrap (by omega)]; omega
    rw [Nat.mul_one] at hd1 hd2 hl1 hl2
    simp -implicitDefEqProofs [g2, g3, gi, x2, x3, him, hb1, hb2, hd1, hd2, hl1, hl2, intC]
    refine condQ_of (fun hq => ?_) (fun hq => ?_)
    · have hne : ¬ a.kills = b.kills := take_ne hA hB (fun e => by simp [e] at hq)
      simp -implicitDefEqProofs
      exact pf _ (by simp [hne])
    · simp at hq
      subst hq
      simp -implicitDefEqProofs [g2, g3, gi, x2, x3, w1]
      exact ⟨mk - (i1 + 1), by omega, i1 + 1, rfl, by omega, rfl, by simp [g2], by simp [g3], by simp, by simp [x2], by simp [x3], take_next hA hB ht1⟩
  have hee1 : i1 = mk := by omega
  have heq1 : a.kills = b.kills := by rw [List.take_of_length_le (by omega), List.take_of_length_le (by omega)] at ht1; exact ht1
  simp -implicitDefEqProofs [g2, g3, gi, x2, x3]
  clear ht1 hee1 hi1
  refine vc_loop (JS 7 [.slice ad1 ms c1, .int .i64 ga, .int .i64 ra, .slice ad2 mk c2, .slice ad3 mp c3] [.slice ad4 ms c4, .int .i64 ga, .int .i64 ra, .slice ad5 mk c5, .slice ad6 mp c6] a.poles b.poles mp H1) _ ⟨0, rfl, by omega, rfl, by simp [g2, g3, x2, x3], by simp [g2, g3, x2, x3], by simp [g2, g3, x2, x3], by simp [g2, g3, x2, x3], by simp [g2, g3, x2, x3], by simp⟩ ?_
  clear g2 g3 gi x2 x3 hc
  rintro n2 ⟨T2, ⟨x2', H2⟩⟩ ⟨i2, rfl, hi2, hH, g2, g3, gi, x2, x3, ht2⟩
  simp at hH g2 g3 gi x2 x3
  subst hH
  simp -implicitDefEqProofs [g2, g3, gi, x2, x3]
  refine condQ_of (fun hc => ?_) (fun hc => ?_) <;> simp only [decide_eq_true_eq, decide_eq_false_iff_not] at hc
  · have him : i2 < mp := by omega
    have hA : a.poles[i2]? = some a.poles[i2] := List.getElem?_eq_getElem (by omega)
    have hB : b.poles[i2]? = some b.poles[i2] := List.getElem?_eq_getElem (by omega)
    obtain ⟨_, b1, o1, wb1, cs1, r1, rfl, hb1, hd1, hl1, _⟩ := h3.at 3 poleC_len hA
    obtain ⟨_, b2, o2, wb2, cs2, r2, rfl, hb2, hd2, hl2, _⟩ := h3'.at 3 poleC_len hB
    obtain ⟨a', hea⟩ : ∃ z, z = a.poles[i2] := ⟨_, rfl⟩
    obtain ⟨b', heb⟩ : ∃ z, z = b.poles[i2] := ⟨_, rfl⟩
    rw [← hea] at hd1 hA
    rw [← heb] at hd2 hB
    have w1 : IntKind.wrap .i64 ((i2 : Int) + 1) = ((i2 + 1 : Nat) : Int) := by rw [i64wrap (by omega)]; omega
    obtain ⟨ax, ay, ar⟩ := a'
    obtain ⟨bx', by', br'⟩ := b'
    simp -implicitDefEqProofs [g2, g3, gi, x2, x3, him, hb1, hb2, hd1, hd2, hl1, hl2, poleC]
    refine condQ_of (fun hq => ?_) (fun hq => ?_)
    · have hne : ¬ a.poles = b.poles := take_ne hA hB (fun e => by simp only [PoleR.mk.injEq] at e; simp [e.1, e.2.1, e.2.2] at hq)
      simp -implicitDefEqProofs
      exact pf _ (by simp [hne])
    · simp at hq
      obtain ⟨rfl, rfl, rfl⟩ := hq
      simp -implicitDefEqProofs [g2, g3, gi, x2, x3, w1]
      exact ⟨mp - (i2 + 1), by omega, i2 + 1, rfl, by omega, rfl, by simp [g2], by simp [g3], by simp, by simp [x2], by simp [x3], take_next hA hB ht2⟩
  have hee2 : i2 = mp := by omega
  have heq2 : a.poles = b.poles := by rw [List.take_of_length_le (by omega), List.take_of_length_le (by omega)] at ht2; exact ht2
  simp -implicitDefEqProofs [g2, g3, gi, x2, x3]
  clear ht2 hee2 hi2
  exact pf _ (by simp [heq0, heq1, heq2])
end Go.Proofs.Yth
