import Derived.Test.YthglohpeijfcfaaAmVl
set_option linter.unusedVariables false
set_option linter.unusedSimpArgs false
set_option linter.unusedSectionVars false
namespace Go.Proofs.Yth
open Go Go.Am
set_option maxRecDepth 20000
set_option maxHeartbeats 4000000
theorem may_seats {v : VenR} (h : mayV v = true) : seatsOK v.seats = true := by
  cases q : seatsOK v.seats with
  | true => rfl
  | false => unfold mayV wrongV at h; rw [if_pos q] at h; simp at h
theorem seats_pw {l : List SeatR} (h : seatsOK l = true) : l.Pairwise (fun a b => lessS a b = true) := by
  unfold seatsOK at h
  rw [Bool.and_eq_true, List.all_eq_true] at h
  have key : ∀ (d i : Nat) (a b : SeatR), l[i]? = some a → l[i + d + 1]? = some b → lessS a b = true := by
    have step : ∀ (i : Nat) (a b : SeatR), l[i]? = some a → l[i + 1]? = some b → lessS a b = true := by
      intro i a b h1 h2
      have hlt := (List.getElem?_eq_some_iff.mp h2).1
      have := h.1 (i + 1) (List.mem_range.2 hlt)
      unfold pairOK at this
      rw [h2, show i + 1 - 1 = i by omega, h1] at this
      simp at this
      exact this.2
    intro d
    induction d with
    | zero => exact step
    | succ d ih =>
      intro i a b h1 h2
      have hlt := (List.getElem?_eq_some_iff.mp h2).1
      have h3 : l[i + d + 1]? = some l[i + d + 1] := List.getElem?_eq_getElem (by omega)
      have q1 := ih i a _ h1 h3
      have q2 := step _ _ _ h3 (by rw [show i + d + 1 + 1 = i + (d + 1) + 1 by omega]; exact h2)
      rw [lessS_iff] at *
      omega
  rw [List.pairwise_iff_getElem]
  intro a b ha hb hab
  exact key (b - a - 1) a _ _ (List.getElem?_eq_getElem ha) (by rw [show a + (b - a - 1) + 1 = b by omega]; exact List.getElem?_eq_getElem hb)
theorem may_kills {v : VenR} (h : mayV v = true) : v.kills.length ≤ 200 := by
  cases q : killsOK v.kills v.seats.length with
  | true => unfold killsOK at q; simp at q; exact q.2
  | false =>
    unfold mayV wrongV at h
    rw [decide_eq_true_eq] at h
    split at h
    · cases h
    split at h
    · cases h
    split at h
    · cases h
    cases h
def zV : VenR := ⟨[], 0, 0, [], []⟩
theorem zV_c (h : Heap) : VenC h zV zVen := ⟨_, _, _, rfl, SlA.nil, SlA.nil, SlA.nil⟩
/-- however a venue is put in order, it is the same one -/
theorem norm_agree {v : VenR} (hv : venSmall v) {h h1 h2 : Heap} {r1 r2 : Value} (G1 : NormG v h r1 h1) (G2 : NormG v h1 r2 h2) :
    ∃ b w c1 c2, r1 = .tuple #[.agg ⟨c1⟩, .bool b] ∧ r2 = .tuple #[.agg ⟨c2⟩, .bool b] ∧ VenC h2 w c1 ∧ VenC h2 w c2 ∧ venSmall w := by
  obtain ⟨E1, g1⟩ := G1
  obtain ⟨E2, g2⟩ := G2
  have hz : venSmall zV := ⟨by simp [zV], by simp [zV], by simp [zV]⟩
  have eqs : ∀ {ys1 ks1 ys2 ks2}, ys1.Perm v.seats → ys2.Perm v.seats → SortedS ys2 → Ri ks1 → Ri ks2 → (∀ x, x ∈ ks1 ↔ x ∈ (killedL v).map (fun s => findA (atS s) ys1)) → (∀ x, x ∈ ks2 ↔ x ∈ (killedL v).map (fun s => findA (atS s) ys2)) →
      mayV ⟨ys1, v.gap, v.radius, ks1, v.poles⟩ = true → ys2 = ys1 ∧ ks2 = ks1 := by
    intro ys1 ks1 ys2 ks2 p1 p2 s2 r1 r2 m1 m2 hm
    have e := perm_sorted (seats_pw (may_seats hm)) (p2.trans p1.symm) s2
    subst e
    exact ⟨rfl, ri_eq r2 r1 (fun x => by rw [m1, m2])⟩
  rcases g1 with ⟨k1, rfl⟩ | ⟨k1, ys1, ks1, p1, s1, ri1, m1, g1⟩
  · rcases g2 with ⟨_, rfl⟩ | ⟨k2, _⟩
    · exact ⟨false, zV, zVen, zVen, rfl, rfl, zV_c _, zV_c _, hz⟩
    · rw [k1] at k2; cases k2
  · rcases g2 with ⟨k2, _⟩ | ⟨_, ys2, ks2, p2, s2, ri2, m2, g2⟩
    · rw [k1] at k2; cases k2
    rcases g1 with ⟨q1, c1, v1, rfl⟩ | ⟨q1, rfl⟩
    · obtain ⟨rfl, rfl⟩ := eqs p1 p2 s2 ri1 ri2 m1 m2 q1
      rcases g2 with ⟨_, c2, v2, rfl⟩ | ⟨q2, _⟩
      · refine ⟨true, _, c1, c2, rfl, rfl, v1.ext E2, v2, ?_⟩
        have hks := may_kills q1
        exact ⟨by simp only; have := p1.length_eq; have := hv.1; omega, by simp only at hks ⊢; omega, hv.2.2⟩
      · rw [q1] at q2; cases q2
    · rcases g2 with ⟨q2, c2, v2, rfl⟩ | ⟨q2, rfl⟩
      · obtain ⟨rfl, rfl⟩ := eqs p2 p1 s1 ri2 ri1 m2 m1 q2
        rw [q1] at q2; cases q2
      · exact ⟨false, zV, zVen, zVen, rfl, rfl, zV_c _, zV_c _, hz⟩
theorem venC_shape {h : Heap} {v : VenR} {cs : List Value} (H : VenC h v cs) : ∃ a1 n1 c1 g r a2 n2 c2 a3 n3 c3, cs = [.slice a1 n1 c1, .int .i64 g, .int .i64 r, .slice a2 n2 c2, .slice a3 n3 c3] := by
  obtain ⟨s1, k1, p1, rfl, q1, q2, q3⟩ := H
  obtain ⟨ad1, cc1, rfl⟩ := q1.shape
  obtain ⟨ad2, cc2, rfl⟩ := q2.shape
  obtain ⟨ad3, cc3, rfl⟩ := q3.shape
  exact ⟨_, _, _, _, _, _, _, _, _, _, _, rfl⟩
theorem normG_shape {v : VenR} {h h' : Heap} {r : Value} (G : NormG v h r h') : ∃ a1 n1 c1 g rd a2 n2 c2 a3 n3 c3 b, r = .tuple #[.agg ⟨[.slice a1 n1 c1, .int .i64 g, .int .i64 rd, .slice a2 n2 c2, .slice a3 n3 c3]⟩, .bool b] := by
  obtain ⟨E, ⟨_, rfl⟩ | ⟨_, ys, ks, _, _, _, _, ⟨_, co, hc, rfl⟩ | ⟨_, rfl⟩⟩⟩ := G
  · exact ⟨_, _, _, _, _, _, _, _, _, _, _, _, rfl⟩
  · obtain ⟨a1, n1, c1, g, r, a2, n2, c2, a3, n3, c3, rfl⟩ := venC_shape hc
    exact ⟨_, _, _, _, _, _, _, _, _, _, _, _, rfl⟩
  · exact ⟨_, _, _, _, _, _, _, _, _, _, _, _, rfl⟩
theorem asks_ok (v w : VenR) (cv cw : List Value) (h : Heap) (Hv : VenC h v cv) (Hw : VenC h w cw) : ACalls PP 3 [.agg ⟨cv⟩, .agg ⟨cw⟩] h (fun r _ => r = .bool true) := by
  refine acalls_of_vc mix fn3 bodyEq3 rfl (by show 2 ≤ 62; decide) ok3 ?_
  simp only [body3, Try.f3]
  have Hv' := Hv
  have Hw' := Hw
  obtain ⟨s1, k1, p1, rfl, a1, a2, a3⟩ := Hv'
  obtain ⟨s2, k2, p2, rfl, b1, b2, b3⟩ := Hw'
  obtain ⟨ad1, cc1, e1⟩ := a1.shape
  obtain ⟨ad2, cc2, e2⟩ := a2.shape
  obtain ⟨ad3, cc3, e3⟩ := a3.shape
  obtain ⟨ad4, cc4, e4⟩ := b1.shape
  obtain ⟨ad5, cc5, e5⟩ := b2.shape
  obtain ⟨ad6, cc6, e6⟩ := b3.shape
  subst e1; subst e2; subst e3; subst e4; subst e5; subst e6
  obtain ⟨fv, hfv⟩ : ∃ fv, fv = (decide (v.seats.length ≤ 40) && (decide (v.kills.length ≤ 40) && decide (v.poles.length ≤ 40))) := ⟨_, rfl⟩
  obtain ⟨fw, hfw⟩ : ∃ fv, fv = (decide (w.seats.length ≤ 40) && (decide (w.kills.length ≤ 40) && decide (w.poles.length ≤ 40))) := ⟨_, rfl⟩
  have hf1 := few_ok v _ h Hv
  have hf2 := few_ok w _ h Hw
  rw [← hfv] at hf1
  rw [← hfw] at hf2
  simp -implicitDefEqProofs
  refine hf1.mono ?_
  rintro r h' ⟨e3, rfl⟩
  replace e3 := e3.symm
  subst e3
  simp -implicitDefEqProofs [callQ]
  intro _
  have early : ∀ fv', fv' = false → True := fun _ _ => trivial
  cases fv with
  | false =>
    simp -implicitDefEqProofs
    refine (told_ok h).mono ?_
    rintro r H1 ⟨E1, rfl⟩
    simp -implicitDefEqProofs [callQ]
  | true =>
    simp -implicitDefEqProofs
    refine hf2.mono ?_
    rintro r h' ⟨e3, rfl⟩
    replace e3 := e3.symm
    subst e3
    simp -implicitDefEqProofs [callQ]
    intro _
    cases fw with
    | false =>
      simp -implicitDefEqProofs
      refine (told_ok h).mono ?_
      rintro r H1 ⟨E1, rfl⟩
      simp -implicitDefEqProofs [callQ]
    | true =>
      replace hfv := hfv.symm
      replace hfw := hfw.symm
      simp only [Bool.and_eq_true, decide_eq_true_eq] at hfv hfw
      have hv : venSmall v := ⟨by omega, by omega, by omega⟩
      have hw : venSmall w := ⟨by omega, by omega, by omega⟩
      simp -implicitDefEqProofs
      refine (norm2_ok v _ hv (by omega) h Hv).mono ?_
      intro r1 H1 G1
      have E1 := G1.1
      obtain ⟨x1, y1, z1, gg1, rr1, x2, y2, z2, x3, y3, z3, o1, rfl⟩ := normG_shape G1
      simp -implicitDefEqProofs [callQ]
      intro _
      refine (rnorm_ok v _ (by omega) H1 (Hv.ext E1)).mono ?_
      intro r2 H2 G2
      have E2 := G2.1
      have hag := norm_agree hv G1 G2
      obtain ⟨x4, y4, z4, gg2, rr2, x5, y5, z5, x6, y6, z6, o2, rfl⟩ := normG_shape G2
      obtain ⟨ok, u, ca, cb, ha1, ha2, va, vb, hsu⟩ := hag
      simp only [Value.tuple.injEq, Array.mk.injEq, List.cons.injEq, and_true, Value.agg.injEq, Value.bool.injEq] at ha1 ha2
      obtain ⟨ha1, rfl⟩ := ha1
      obtain ⟨ha2, rfl⟩ := ha2
      subst ha1; subst ha2
      simp -implicitDefEqProofs [callQ]
      intro _
      refine (told_ok H2).mono ?_
      rintro r H3 ⟨E3, rfl⟩
      have EV := (E1.trans E2).trans E3
      have Hv3 := Hv.ext EV
      have Hw3 := Hw.ext EV
      simp -implicitDefEqProofs [callP]
      intro _
      refine (wrong_ok v _ hv H3 Hv3).mono ?_
      rintro r h' ⟨e3, rfl⟩
      replace e3 := e3.symm
      subst e3
      simp -implicitDefEqProofs [callP]
      intro _
      refine (rwrong_ok v _ hv H3 Hv3).mono ?_
      rintro r h' ⟨e3, rfl⟩
      replace e3 := e3.symm
      subst e3
      simp -implicitDefEqProofs [callP]
      intro _
      refine (may_ok v _ hv H3 Hv3).mono ?_
      rintro r h' ⟨e3, rfl⟩
      replace e3 := e3.symm
      subst e3
      simp -implicitDefEqProofs [callP]
      intro _
      refine (rmay_ok v _ hv H3 Hv3).mono ?_
      rintro r h' ⟨e3, rfl⟩
      replace e3 := e3.symm
      subst e3
      obtain ⟨mv, hmv⟩ : ∃ b, b = mayV v := ⟨_, rfl⟩
      rw [← hmv]
      simp -implicitDefEqProofs [callP]
      intro _
      refine (same_ok v w _ _ hv H3 Hv3 Hw3).mono ?_
      rintro r h' ⟨e3, rfl⟩
      replace e3 := e3.symm
      subst e3
      simp -implicitDefEqProofs [callP]
      intro _
      refine (rsame_ok v w _ _ hv H3 Hv3 Hw3).mono ?_
      rintro r h' ⟨e3, rfl⟩
      replace e3 := e3.symm
      subst e3
      simp -implicitDefEqProofs [callP]
      intro _
      have hsame : sameV u u = true := by simp [sameV]
      refine (rsame_ok u u _ _ hsu H3 (va.ext E3) (vb.ext E3)).mono ?_
      rintro r h' ⟨e3, rfl⟩
      replace e3 := e3.symm
      subst e3
      rw [hsame]
      simp -implicitDefEqProofs [callP]
end Go.Proofs.Yth
