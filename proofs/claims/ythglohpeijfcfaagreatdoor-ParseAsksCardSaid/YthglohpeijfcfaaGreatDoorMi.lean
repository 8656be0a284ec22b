import Derived.Test.YthglohpeijfcfaaGreatDoorMh
import Derived.ChangeShapes
set_option linter.unusedVariables false
set_option linter.unusedSimpArgs false
set_option linter.unusedSectionVars false
set_option linter.constructorNameAsVariable false
/- What is read may be. -/
namespace Go.Proofs.Yph
open Go Go.Am
set_option maxRecDepth 20000
set_option linter.constructorNameAsVariable false
set_option maxHeartbeats 4000000
open T (Tok tokC tokV spotV TokS allV allL nextV)
open V (SeatR PoleR VenR seatC poleC intC inB IntS lessS lessS_iff SortedS Ri killedL findA atS mayV wrongV seatsOK pairOK killsOK)
open F (FR ChA GlobOK)
def gap10 : List UInt8 := [103, 97, 112, 32, 49, 48, 10]
theorem may_small {w : VenR} (h : mayV w = true) : V.venSmall w := by
  have h1 := may_seats h
  have h2 := may_kills h
  refine ⟨?_, by omega, ?_⟩
  · unfold seatsOK at h1; simp at h1; omega
  · cases q : V.polesOK w.poles with
    | true => unfold V.polesOK at q; simp at q; omega
    | false =>
      unfold mayV wrongV at h
      rw [decide_eq_true_eq] at h
      split at h
      · cases h
      split at h
      · cases h
      split at h
      · cases h
      split at h
      · cases h
      cases h
theorem pmay_ok (s : List UInt8) (lv : Value) (l : List Int) (hl : l.length ≤ 1152921504606846976) (h : Heap) (G : GlobOK h) (hi : IntsA h lv l) :
    ACalls PP 4 [.string (B s), lv] h (fun v h' => Ext h h' ∧ v = .bool true) := by
  refine acalls_of_vc mix fn4 bodyEq4 rfl (by show 2 ≤ 61; decide) ok4 ?_
  simp only [body4, Tryz.f4]
  obtain ⟨ad, c, rfl, _⟩ := id hi
  obtain ⟨n, hn⟩ : ∃ n, n = s.length := ⟨_, rfl⟩
  by_cases h3 : 300 < s.length
  · have h3' : (300 : Int) < (s.length : Int) := by omega
    simp -implicitDefEqProofs [h3, h3']
    refine (told_ok h G).mono ?_
    rintro v H1 ⟨E1, rfl⟩
    simp -implicitDefEqProofs [callQ]
    intro _
    exact E1
  · have h3' : ¬ (300 : Int) < (s.length : Int) := by omega
    simp -implicitDefEqProofs [h3, h3']
    refine (venue_ok s (by omega) h).mono ?_
    rintro v H1 ⟨E1, hV⟩
    have fin : ∀ (sv : List Value) (Ev : Value) (b : Bool), True := fun _ _ _ => trivial
    have htx := fun H E => T.IntsA.ext (h := h) (h' := H) hi E
    obtain ⟨u, hu⟩ : ∃ u, u = linesL (l.take 20) := ⟨_, rfl⟩
    have hul : u.length ≤ 420 := by rw [hu]; have := linesL_len (l.take 20); have h2 : (l.take 20).length ≤ 20 := by rw [List.length_take]; omega
                                    omega
    have tx := fun H E => ptext_ok _ l 20 (by omega) hl H (htx H E)
    rw [← hu] at tx
    have hgl : (gap10 ++ u).length ≤ 1048576 := by rw [List.length_append]; have : gap10.length = 7 := rfl; omega
    cases hp : (parO s).1 with
    | none =>
      rw [hp] at hV
      obtain ⟨w, co, hw, hc, rfl⟩ := hV
      obtain ⟨s', k', p', rfl, v1, v2, v3⟩ := id hc
      obtain ⟨ad1, cc1, rfl⟩ := v1.shape
      obtain ⟨ad2, cc2, rfl⟩ := v2.shape
      obtain ⟨ad3, cc3, rfl⟩ := v3.shape
      have hmw : mayV w = true := hw.2.2.2.2.2.2.2
      simp -implicitDefEqProofs [callQ]
      intro _
      refine (tx H1 E1).mono ?_
      rintro v H2 ⟨E2, rfl⟩
      have hfit : 7 + u.length ≤ 9223372036854775807 := by omega
      simp -implicitDefEqProofs [callQ, hfit]
      intro _
      refine (venue_ok (gap10 ++ u) hgl H2).mono ?_
      rintro v H3 ⟨E3, hU⟩
      have hcw := (hc.ext E2).ext E3
      have rm := V.rmay_ok w _ (may_small hmw) H3 hcw
      rw [hmw] at rm
      cases hq : (parO (gap10 ++ u)).1 with
      | none =>
        rw [hq] at hU
        obtain ⟨w2, co2, hw2, hc2, rfl⟩ := hU
        obtain ⟨s', k', p', rfl, u1, u2, u3⟩ := id hc2
        obtain ⟨ad1', cc1', rfl⟩ := u1.shape
        obtain ⟨ad2', cc2', rfl⟩ := u2.shape
        obtain ⟨ad3', cc3', rfl⟩ := u3.shape
        have hmw2 : mayV w2 = true := hw2.2.2.2.2.2.2.2
        have rm2 := V.rmay_ok w2 _ (may_small hmw2) H3 hc2
        rw [hmw2] at rm2
        simp -implicitDefEqProofs [callQ]
        intro _
        refine rm.mono ?_
        rintro r H4 ⟨e, rfl⟩
        replace e := e.symm
        subst e
        simp -implicitDefEqProofs [callQ]
        intro _
        refine rm2.mono ?_
        rintro r H4 ⟨e, rfl⟩
        replace e := e.symm
        subst e
        simp -implicitDefEqProofs [callQ]
        intro _
        refine (told_ok H3 (((G.ext E1).ext E2).ext E3)).mono ?_
        rintro v H5 ⟨E5, rfl⟩
        simp -implicitDefEqProofs [callQ]
        intro _
        exact ((E1.trans E2).trans E3).trans E5
      | some e =>
        rw [hq] at hU
        obtain ⟨E, rfl, hE⟩ := hU
        obtain ⟨be, rfl⟩ := err_shape (h := H3) (a := e.1) (b := e.2) ⟨Ext.rfl' _, hE⟩
        simp -implicitDefEqProofs [callQ, V.zVen]
        intro _
        refine rm.mono ?_
        rintro r H4 ⟨e, rfl⟩
        replace e := e.symm
        subst e
        simp -implicitDefEqProofs [callQ]
        intro _
        refine (told_ok H3 (((G.ext E1).ext E2).ext E3)).mono ?_
        rintro v H5 ⟨E5, rfl⟩
        simp -implicitDefEqProofs [callQ]
        intro _
        exact ((E1.trans E2).trans E3).trans E5
    | some e0 =>
      rw [hp] at hV
      obtain ⟨E0, rfl, hE0⟩ := hV
      obtain ⟨be0, rfl⟩ := err_shape (h := H1) (a := e0.1) (b := e0.2) ⟨Ext.rfl' _, hE0⟩
      simp -implicitDefEqProofs [callQ, V.zVen]
      intro _
      refine (tx H1 E1).mono ?_
      rintro v H2 ⟨E2, rfl⟩
      have hfit : 7 + u.length ≤ 9223372036854775807 := by omega
      simp -implicitDefEqProofs [callQ, hfit]
      intro _
      refine (venue_ok (gap10 ++ u) hgl H2).mono ?_
      rintro v H3 ⟨E3, hU⟩
      have hcd : F.codeL (errL e0.1 e0.2) = 2 := rfl
      cases hq : (parO (gap10 ++ u)).1 with
      | none =>
        rw [hq] at hU
        obtain ⟨w2, co2, hw2, hc2, rfl⟩ := hU
        obtain ⟨s', k', p', rfl, u1, u2, u3⟩ := id hc2
        obtain ⟨ad1', cc1', rfl⟩ := u1.shape
        obtain ⟨ad2', cc2', rfl⟩ := u2.shape
        obtain ⟨ad3', cc3', rfl⟩ := u3.shape
        have hmw2 : mayV w2 = true := hw2.2.2.2.2.2.2.2
        have rm2 := V.rmay_ok w2 _ (may_small hmw2) H3 hc2
        rw [hmw2] at rm2
        simp -implicitDefEqProofs [callQ]
        intro _
        refine rm2.mono ?_
        rintro r H4 ⟨e, rfl⟩
        replace e := e.symm
        subst e
        simp -implicitDefEqProofs [callQ]
        intro _
        refine (told_ok H3 (((G.ext E1).ext E2).ext E3)).mono ?_
        rintro v H5 ⟨E5, rfl⟩
        simp -implicitDefEqProofs [callQ]
        intro _
        refine (F.code_ok _ _ H5 ((((G.ext E1).ext E2).ext E3).ext E5) (hE0.ext ((E2.trans E3).trans E5))).mono ?_
        rintro v H6 ⟨E6, rfl⟩
        simp -implicitDefEqProofs [callQ, hcd]
        intro _
        exact (((E1.trans E2).trans E3).trans E5).trans E6
      | some e =>
        rw [hq] at hU
        obtain ⟨E, rfl, hE⟩ := hU
        obtain ⟨be, rfl⟩ := err_shape (h := H3) (a := e.1) (b := e.2) ⟨Ext.rfl' _, hE⟩
        simp -implicitDefEqProofs [callQ, V.zVen]
        intro _
        refine (told_ok H3 (((G.ext E1).ext E2).ext E3)).mono ?_
        rintro v H5 ⟨E5, rfl⟩
        simp -implicitDefEqProofs [callQ]
        intro _
        refine (F.code_ok _ _ H5 ((((G.ext E1).ext E2).ext E3).ext E5) (hE0.ext ((E2.trans E3).trans E5))).mono ?_
        rintro v H6 ⟨E6, rfl⟩
        simp -implicitDefEqProofs [callQ, hcd]
        intro _
        exact (((E1.trans E2).trans E3).trans E5).trans E6
end Go.Proofs.Yph
/- What a manifest says is what the document says. -/
namespace Go.Proofs.Yph
open Go Go.Am
set_option maxRecDepth 20000
set_option linter.constructorNameAsVariable false
set_option maxHeartbeats 4000000
open T (Tok tokC tokV spotV TokS allV allL nextV)
open V (SeatR PoleR VenR seatC poleC intC inB IntS lessS lessS_iff SortedS Ri killedL findA atS mayV wrongV seatsOK pairOK killsOK)
open F (FR ChA GlobOK)
theorem same_self (w : VenR) : V.sameV w w = true := by
  unfold V.sameV
  simp
def gapSeat : List UInt8 := [103, 97, 112, 32, 49, 48, 10, 115, 101, 97, 116, 32, 48, 32, 48, 32, 48, 10]
def J3 (tl : List (List UInt8)) (h : Heap) (b : Nat) (m : Nat) (σ : St) : Prop := ∃ i : Nat, m = 4 - i ∧ i ≤ 4 ∧ Ext h σ.m.h ∧ b < σ.m.h.n ∧ σ.m.h.f b = .row true 9 (tl.map fun p => .string (B p)) ∧
  σ.t.get 7 = some (.slice (some ⟨b, 0, none⟩) 4 4) ∧ σ.t.get 8 = some (.int .i64 (i : Nat))
theorem pasks_ok (s : List UInt8) (lv mv : Value) (l m : List Int) (hl : l.length ≤ 1152921504606846976) (hm : m.length ≤ 1152921504606846976) (h : Heap) (G : GlobOK h) (hi : IntsA h lv l) (hj : IntsA h mv m) :
    ACalls PP 3 [.string (B s), lv, mv] h (fun v h' => Ext h h' ∧ v = .bool true) := by
  refine acalls_of_vc mix fn3 bodyEq3 rfl (by show 3 ≤ 94; decide) ok3 ?_
  simp only [body3, Tryz.f3]
  obtain ⟨ad, c, rfl, _⟩ := id hi
  obtain ⟨ad', c', rfl, _⟩ := id hj
  by_cases h3 : 200 < s.length
  · have h3' : (200 : Int) < (s.length : Int) := by omega
    simp -implicitDefEqProofs [h3, h3']
    refine (told_ok h G).mono ?_
    rintro v H1 ⟨E1, rfl⟩
    simp -implicitDefEqProofs [callQ]
    intro _
    exact E1
  · have h3' : ¬ (200 : Int) < (s.length : Int) := by omega
    obtain ⟨u15, hu15⟩ : ∃ u, u = linesL (l.take 15) := ⟨_, rfl⟩
    obtain ⟨u8, hu8⟩ : ∃ u, u = linesL (l.take 8) := ⟨_, rfl⟩
    obtain ⟨w, hw⟩ : ∃ u, u = T.textL (m.take 25) := ⟨_, rfl⟩
    have l15 : u15.length ≤ 315 := by have := linesL_len (l.take 15); rw [← hu15] at this; have h2 : (l.take 15).length ≤ 15 := by rw [List.length_take]; omega
                                      omega
    have l8 : u8.length ≤ 168 := by have := linesL_len (l.take 8); rw [← hu8] at this; have h2 : (l.take 8).length ≤ 8 := by rw [List.length_take]; omega
                                    omega
    have lw : w.length ≤ 500 := by have := T.textL_len (m.take 25); rw [← hw] at this; have h2 : (m.take 25).length ≤ 25 := by rw [List.length_take]; omega
                                   omega
    have t15 := ptext_ok _ l 15 (by omega) hl h hi
    rw [← hu15] at t15
    simp -implicitDefEqProofs [h3, h3']
    refine t15.mono ?_
    rintro v H1 ⟨E1, rfl⟩
    have t25 := T.text_ok _ m 25 (by omega) hm H1 (T.IntsA.ext hj E1)
    rw [← hw] at t25
    simp -implicitDefEqProofs [callQ]
    intro _
    refine t25.mono ?_
    rintro v H2 ⟨E2, rfl⟩
    have t8 := ptext_ok _ l 8 (by omega) hl H2 (T.IntsA.ext hi (E1.trans E2))
    rw [← hu8] at t8
    simp -implicitDefEqProofs [callQ]
    intro _
    refine t8.mono ?_
    rintro v H3 ⟨E3, rfl⟩
    have hr4 : List.range 4 = [0, 1, 2, 3] := rfl
    have hfit : 18 + u8.length ≤ 9223372036854775807 := by omega
    simp -implicitDefEqProofs [callQ, hfit, opBuildSlice, hr4]
    intro _
    obtain ⟨tl, htl⟩ : ∃ tl, tl = [s, u15, w, gapSeat ++ u8] := ⟨_, rfl⟩
    have E0 := (E1.trans E2).trans E3
    have hlen : ∀ (i : Nat) t, tl[i]? = some t → t.length ≤ 3000 := by
      intro i t hi
      rw [htl] at hi
      have hg : (gapSeat ++ u8).length = 18 + u8.length := by rw [List.length_append]; rfl
      match i, hi with
      | 0, hi => simp at hi; subst hi; omega
      | 1, hi => simp at hi; subst hi; omega
      | 2, hi => simp at hi; subst hi; omega
      | 3, hi => simp only [List.getElem?_cons_succ, List.getElem?_cons_zero, Option.some.injEq] at hi; subst hi; omega
    have htl4 : tl.length = 4 := by rw [htl]; rfl
    refine vc_loop (J3 tl h H3.n) 4 ⟨0, by omega, by omega, E0.newOf _, by simp, by rw [htl]; simp [gapSeat], by simp, by simp⟩ ?_
    rintro mm ⟨Tf, ⟨x, H⟩⟩ ⟨i, rfl, hi4, EH, hbn, hrow, g7, g8⟩
    simp at EH hbn hrow g7 g8
    have hrow : H.f H3.n = .row true 9 (tl.map fun p => .string (B p)) := hrow
    have GH := G.ext EH
    simp -implicitDefEqProofs [g7, g8]
    refine condQ_of (fun hc => ?_) (fun hc => ?_) <;> simp only [decide_eq_true_eq, decide_eq_false_iff_not] at hc
    · have hi4' : i < 4 := by omega
      have hget : tl[i]? = some tl[i] := List.getElem?_eq_getElem (by omega)
      obtain ⟨t, ht⟩ : ∃ t, t = tl[i] := ⟨_, rfl⟩
      rw [← ht] at hget
      have htl3 := hlen i t hget
      obtain ⟨C, hC⟩ : ∃ C, C = tl.map (fun p => Value.string (B p)) := ⟨_, rfl⟩
      have hCl : C.length = 4 := by rw [hC, List.length_map, htl4]
      have hCd : C.drop i = .string (B t) :: C.drop (i + 1) := by
        rw [List.drop_eq_getElem_cons (by omega)]
        congr 1
        subst hC
        rw [List.getElem_map, ht]
      rw [← hC] at hrow
      have hi5 : i + 1 ≤ 4 := by omega
      have hi6 : (i : Int) < 4 := by omega
      have w1 : IntKind.wrap .i64 ((i : Int) + 1) = ((i + 1 : Nat) : Int) := by rw [i64wrap (by omega)]; omega
      simp -implicitDefEqProofs [g7, g8, hi4', hrow, hCl, hCd, hi5, hi6]
      refine (pcheck_ok t (by omega) H GH).mono ?_
      rintro v K1 ⟨F1, rfl⟩
      have hrow1 : K1.f H3.n = .row true 9 C := by rw [F1.f _ hbn]; exact hrow
      simp -implicitDefEqProofs [callQ, spotV, g7, g8, hi4', hrow1, hCl, hCd, hi5, hi6]
      intro _
      refine (venue_ok t (by omega) K1).mono ?_
      rintro v K2 ⟨F2, hV⟩
      have hrow2 : K2.f H3.n = .row true 9 C := by rw [F2.f _ (by have := F1.n; omega)]; exact hrow1
      have hcv : checkV t = match (parO t).1 with
        | some e => (2, e.1, e.2)
        | none => (0, 0, 0) := rfl
      cases hp : (parO t).1 with
      | none =>
        rw [hp] at hV hcv
        obtain ⟨w, co, hw, hc1, rfl⟩ := hV
        obtain ⟨s', k', p', rfl, v1, v2, v3⟩ := id hc1
        obtain ⟨ad1, cc1, rfl⟩ := v1.shape
        obtain ⟨ad2, cc2, rfl⟩ := v2.shape
        obtain ⟨ad3, cc3, rfl⟩ := v3.shape
        simp -implicitDefEqProofs [callQ, g7, g8, hi4', hrow2, hCl, hCd, hi5, hi6]
        intro _
        refine (rparse_ok t (by omega) K2).mono ?_
        rintro v K3 ⟨F3, hU⟩
        rw [hp] at hU
        obtain ⟨w2, co2, hw2, hc2, rfl⟩ := hU
        obtain rfl := normed_eq hw hw2
        obtain ⟨s', k', p', rfl, u1, u2, u3⟩ := id hc2
        obtain ⟨ad1', cc1', rfl⟩ := u1.shape
        obtain ⟨ad2', cc2', rfl⟩ := u2.shape
        obtain ⟨ad3', cc3', rfl⟩ := u3.shape
        simp -implicitDefEqProofs [callQ, spotV, hcv]
        intro _
        have GK := ((GH.ext F1).ext F2).ext F3
        refine (F.code_ok .nilIface [] K3 GK .nil).mono ?_
        rintro v K4 ⟨F4, rfl⟩
        have hcd : F.codeL [] = 0 := rfl
        simp -implicitDefEqProofs [callP, hcd]
        intro _
        refine (F.spot_ok .nilIface [] (by simp) K4 (GK.ext F4) .nil).mono ?_
        rintro v K5 ⟨F5, rfl⟩
        have hsp : F.spotL [] = (0, 0) := rfl
        simp -implicitDefEqProofs [callP, hsp]
        intro _
        have hmw : mayV w = true := hw.2.2.2.2.2.2.2
        have sm := V.rsame_ok w w _ _ (may_small hmw) K5 (((hc1.ext F3).ext F4).ext F5) ((hc2.ext F4).ext F5)
        rw [same_self] at sm
        refine sm.mono ?_
        rintro r K6 ⟨e, rfl⟩
        replace e := e.symm
        subst e
        simp -implicitDefEqProofs [callP, g7, g8, w1]
        intro _
        have FF := (((F1.trans F2).trans F3).trans F4).trans F5
        exact ⟨4 - (i + 1), by omega, i + 1, rfl, by omega, EH.trans FF, by have := FF.n; show H3.n < K5.n; omega, by show K5.f H3.n = _; rw [FF.f _ hbn]; rw [hrow, hC], by simp, by simp⟩
      | some e =>
        rw [hp] at hV hcv
        obtain ⟨E, rfl, hE⟩ := hV
        obtain ⟨be, rfl⟩ := err_shape (h := K2) (a := e.1) (b := e.2) ⟨Ext.rfl' _, hE⟩
        simp -implicitDefEqProofs [callQ, g7, g8, hi4', hrow2, hCl, hCd, hi5, hi6, V.zVen]
        intro _
        refine (rparse_ok t (by omega) K2).mono ?_
        rintro v K3 ⟨F3, hU⟩
        rw [hp] at hU
        subst hU
        simp -implicitDefEqProofs [callQ, spotV, hcv, V.zVen]
        intro _
        have GK := ((GH.ext F1).ext F2).ext F3
        have hcd : F.codeL (errL e.1 e.2) = 2 := rfl
        refine (F.code_ok _ _ K3 GK (hE.ext F3)).mono ?_
        rintro v K4 ⟨F4, rfl⟩
        simp -implicitDefEqProofs [callP, hcd]
        intro _
        refine (F.spot_ok _ _ (by simp [errL]) K4 (GK.ext F4) ((hE.ext F3).ext F4)).mono ?_
        rintro v K5 ⟨F5, rfl⟩
        rw [spotL_err (parO_pos hp)]
        simp -implicitDefEqProofs [callP]
        intro _
        have zc : V.VenC K5 ⟨[], 0, 0, [], []⟩ V.zVen := ⟨_, _, _, rfl, SlA.nil, SlA.nil, SlA.nil⟩
        have sm := V.rsame_ok ⟨[], 0, 0, [], []⟩ ⟨[], 0, 0, [], []⟩ _ _ ⟨by simp, by simp, by simp⟩ K5 zc zc
        rw [same_self] at sm
        simp only [V.zVen] at sm
        refine sm.mono ?_
        rintro r K6 ⟨e', rfl⟩
        replace e' := e'.symm
        subst e'
        simp -implicitDefEqProofs [callP, g7, g8, w1]
        intro _
        have FF := (((F1.trans F2).trans F3).trans F4).trans F5
        exact ⟨4 - (i + 1), by omega, i + 1, rfl, by omega, EH.trans FF, by have := FF.n; show H3.n < K5.n; omega, by show K5.f H3.n = _; rw [FF.f _ hbn]; rw [hrow, hC], by simp, by simp⟩
    · simp -implicitDefEqProofs [g7, g8]
      refine (told_ok H GH).mono ?_
      rintro v K1 ⟨F1, rfl⟩
      simp -implicitDefEqProofs [callQ]
      intro _
      exact EH.trans F1
end Go.Proofs.Yph
namespace Go.Proofs.YthglohpeijfcfaaGreatDoor.AmParseAsks
open Go Go.Am Go.RowKit
theorem walk {W : World} (L : Yph.isLaid W) (s : ByteArray) {a : Option Addr} {len cap : Nat} {zs : List Int} (w : IntsW W a len cap zs ∧ ∀ z ∈ zs, (Lit.int .i64 z).wf = true) (y : len * 8 ≤ 140737488351232)
    {a' : Option Addr} {len' cap' : Nat} {zs' : List Int} (w' : IntsW W a' len' cap' zs' ∧ ∀ z ∈ zs', (Lit.int .i64 z).wf = true) (y' : len' * 8 ≤ 140737488351232) :
    Calls Tryz.prog 3 #[.string s, .slice a len cap, .slice a' len' cap'] W (fun e w' => e = .returned (.bool true) ∧ Below W.heap.size W w') := by
  obtain ⟨h, ρ, L0, G⟩ := Yph.start_of L
  obtain ⟨h1, v, ρ1, L1, E1, M1, V1, R1, N1⟩ := glue_addG (e := 3) (sz := 1) Yph.co3 (by decide) L0 w.1.row
  obtain ⟨h2, u, ρ2, L2, E2, M2, V2, R2, N2⟩ := glue_addG (e := 3) (sz := 1) Yph.co3 (by decide) L1 w'.1.row
  rw [Nat.mul_one] at R1 N1 R2 N2
  rw [← Yph.PP_eq]
  exact law_walkG L2 (Yph.pasks_ok s.data.toList v u _ _ (by omega) (by omega) h2 ((G.ext E1).ext E2) ((R1.ext E2).ints N1) (R2.ints N2)) ⟨rfl, fun i x hi => by
    match i, hi with
    | 0, hi => simp at hi; subst hi; exact ⟨_, rfl, .string _⟩
    | 1, hi => simp at hi; subst hi; exact ⟨_, rfl, V1.mono fun b pl q => M2 _ _ q⟩
    | 2, hi => simp at hi; subst hi; exact ⟨_, rfl, V2⟩
    | i + 3, hi => simp at hi⟩
end Go.Proofs.YthglohpeijfcfaaGreatDoor.AmParseAsks
