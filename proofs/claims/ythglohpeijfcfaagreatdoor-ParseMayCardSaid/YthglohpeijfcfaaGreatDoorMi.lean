import Derived.Test.YthglohpeijfcfaaGreatDoorMh
import Derived.ChangeShapes
set_option linter.unusedVariables false
set_option linter.unusedSimpArgs false
set_option linter.unusedSectionVars false
set_option linter.constructorNameAsVariable false
/- What is read may be. -/
namespace Go.Proofs.Yph
open Go Go.Am
set_option maxRecDepth 20000
set_option linter.constructorNameAsVariable false
set_option maxHeartbeats 4000000
open T (Tok tokC tokV spotV TokS allV allL nextV)
open V (SeatR PoleR VenR seatC poleC intC inB IntS lessS lessS_iff SortedS Ri killedL findA atS mayV wrongV seatsOK pairOK killsOK)
open F (FR ChA GlobOK)
def gap10 : List UInt8 := [103, 97, 112, 32, 49, 48, 10]
theorem may_small {w : VenR} (h : mayV w = true) : V.venSmall w := by
  have h1 := may_seats h
  have h2 := may_kills h
  refine ⟨?_, by omega, ?_⟩
  · unfold seatsOK at h1; simp at h1; omega
  · cases q : V.polesOK w.poles with
    | true => unfold V.polesOK at q; simp at q; omega
    | false =>
      unfold mayV wrongV at h
      rw [decide_eq_true_eq] at h
      split at h
      · cases h
      split at h
      · cases h
      split at h
      · cases h
      split at h
      · cases h
      cases h
theorem pmay_ok (s : List UInt8) (lv : Value) (l : List Int) (hl : l.length ≤ 1152921504606846976) (h : Heap) (G : GlobOK h) (hi : IntsA h lv l) :
    ACalls PP 4 [.string (B s), lv] h (fun v h' => Ext h h' ∧ v = .bool true) := by
  refine acalls_of_vc mix fn4 bodyEq4 rfl (by show 2 ≤ 61; decide) ok4 ?_
  simp only [body4, Tryz.f4]
  obtain ⟨ad, c, rfl, _⟩ := id hi
  obtain ⟨n, hn⟩ : ∃ n, n = s.length := ⟨_, rfl⟩
  by_cases h3 : 300 < s.length
  · have h3' : (300 : Int) < (s.length : Int) := by omega
    simp -implicitDefEqProofs [h3, h3']
    refine (told_ok h G).mono ?_
    rintro v H1 ⟨E1, rfl⟩
    simp -implicitDefEqProofs [callQ]
    intro _
    exact E1
  · have h3' : ¬ (300 : Int) < (s.length : Int) := by omega
    simp -implicitDefEqProofs [h3, h3']
    refine (venue_ok s (by omega) h).mono ?_
    rintro v H1 ⟨E1, hV⟩
    have fin : ∀ (sv : List Value) (Ev : Value) (b : Bool), True := fun _ _ _ => trivial
    have htx := fun H E => T.IntsA.ext (h := h) (h' := H) hi E
    obtain ⟨u, hu⟩ : ∃ u, u = linesL (l.take 20) := ⟨_, rfl⟩
    have hul : u.length ≤ 420 := by rw [hu]; have := linesL_len (l.take 20); have h2 : (l.take 20).length ≤ 20 := by rw [List.length_take]; omega
                                    omega
    have tx := fun H E => ptext_ok _ l 20 (by omega) hl H (htx H E)
    rw [← hu] at tx
    have hgl : (gap10 ++ u).length ≤ 1048576 := by rw [List.length_append]; have : gap10.length = 7 := rfl; omega
    cases hp : (parO s).1 with
    | none =>
      rw [hp] at hV
      obtain ⟨w, co, hw, hc, rfl⟩ := hV
      obtain ⟨s', k', p', rfl, v1, v2, v3⟩ := id hc
      obtain ⟨ad1, cc1, rfl⟩ := v1.shape
      obtain ⟨ad2, cc2, rfl⟩ := v2.shape
      obtain ⟨ad3, cc3, rfl⟩ := v3.shape
      have hmw : mayV w = true := hw.2.2.2.2.2.2.2
      simp -implicitDefEqProofs [callQ]
      intro _
      refine (tx H1 E1).mono ?_
      rintro v H2 ⟨E2, rfl⟩
      have hfit : 7 + u.length ≤ 9223372036854775807 := by omega
      simp -implicitDefEqProofs [callQ, hfit]
      intro _
      refine (venue_ok (gap10 ++ u) hgl H2).mono ?_
      rintro v H3 ⟨E3, hU⟩
      have hcw := (hc.ext E2).ext E3
      have rm := V.rmay_ok w _ (may_small hmw) H3 hcw
      rw [hmw] at rm
      cases hq : (parO (gap10 ++ u)).1 with
      | none =>
        rw [hq] at hU
        obtain ⟨w2, co2, hw2, hc2, rfl⟩ := hU
        obtain ⟨s', k', p', rfl, u1, u2, u3⟩ := id hc2
        obtain ⟨ad1', cc1', rfl⟩ := u1.shape
        obtain ⟨ad2', cc2', rfl⟩ := u2.shape
        obtain ⟨ad3', cc3', rfl⟩ := u3.shape
        have hmw2 : mayV w2 = true := hw2.2.2.2.2.2.2.2
        have rm2 := V.rmay_ok w2 _ (may_small hmw2) H3 hc2
        rw [hmw2] at rm2
        simp -implicitDefEqProofs [callQ]
        intro _
        refine rm.mono ?_
        rintro r H4 ⟨e, rfl⟩
        replace e := e.symm
        subst e
        simp -implicitDefEqProofs [callQ]
        intro _
        refine rm2.mono ?_
        rintro r H4 ⟨e, rfl⟩
        replace e := e.symm
        subst e
        simp -implicitDefEqProofs [callQ]
        intro _
        refine (told_ok H3 (((G.ext E1).ext E2).ext E3)).mono ?_
        rintro v H5 ⟨E5, rfl⟩
        simp -implicitDefEqProofs [callQ]
        intro _
        exact ((E1.trans E2).trans E3).trans E5
      | some e =>
        rw [hq] at hU
        obtain ⟨E, rfl, hE⟩ := hU
        obtain ⟨be, rfl⟩ := err_shape (h := H3) (a := e.1) (b := e.2) ⟨Ext.rfl' _, hE⟩
        simp -implicitDefEqProofs [callQ, V.zVen]
        intro _
        refine rm.mono ?_
        rintro r H4 ⟨e, rfl⟩
        replace e := e.symm
        subst e
        simp -implicitDefEqProofs [callQ]
        intro _
        refine (told_ok H3 (((G.ext E1).ext E2).ext E3)).mono ?_
        rintro v H5 ⟨E5, rfl⟩
        simp -implicitDefEqProofs [callQ]
        intro _
        exact ((E1.trans E2).trans E3).trans E5
    | some e0 =>
      rw [hp] at hV
      obtain ⟨E0, rfl, hE0⟩ := hV
      obtain ⟨be0, rfl⟩ := err_shape (h := H1) (a := e0.1) (b := e0.2) ⟨Ext.rfl' _, hE0⟩
      simp -implicitDefEqProofs [callQ, V.zVen]
      intro _
      refine (tx H1 E1).mono ?_
      rintro v H2 ⟨E2, rfl⟩
      have hfit : 7 + u.length ≤ 9223372036854775807 := by omega
      simp -implicitDefEqProofs [callQ, hfit]
      intro _
      refine (venue_ok (gap10 ++ u) hgl H2).mono ?_
      rintro v H3 ⟨E3, hU⟩
      have hcd : F.codeL (errL e0.1 e0.2) = 2 := rfl
      cases hq : (parO (gap10 ++ u)).1 with
      | none =>
        rw [hq] at hU
        obtain ⟨w2, co2, hw2, hc2, rfl⟩ := hU
        obtain ⟨s', k', p', rfl, u1, u2, u3⟩ := id hc2
        obtain ⟨ad1', cc1', rfl⟩ := u1.shape
        obtain ⟨ad2', cc2', rfl⟩ := u2.shape
        obtain ⟨ad3', cc3', rfl⟩ := u3.shape
        have hmw2 : mayV w2 = true := hw2.2.2.2.2.2.2.2
        have rm2 := V.rmay_ok w2 _ (may_small hmw2) H3 hc2
        rw [hmw2] at rm2
        simp -implicitDefEqProofs [callQ]
        intro _
        refine rm2.mono ?_
        rintro r H4 ⟨e, rfl⟩
        replace e := e.symm
        subst e
        simp -implicitDefEqProofs [callQ]
        intro _
        refine (told_ok H3 (((G.ext E1).ext E2).ext E3)).mono ?_
        rintro v H5 ⟨E5, rfl⟩
        simp -implicitDefEqProofs [callQ]
        intro _
        refine (F.code_ok _ _ H5 ((((G.ext E1).ext E2).ext E3).ext E5) (hE0.ext ((E2.trans E3).trans E5))).mono ?_
        rintro v H6 ⟨E6, rfl⟩
        simp -implicitDefEqProofs [callQ, hcd]
        intro _
        exact (((E1.trans E2).trans E3).trans E5).trans E6
      | some e =>
        rw [hq] at hU
        obtain ⟨E, rfl, hE⟩ := hU
        obtain ⟨be, rfl⟩ := err_shape (h := H3) (a := e.1) (b := e.2) ⟨Ext.rfl' _, hE⟩
        simp -implicitDefEqProofs [callQ, V.zVen]
        intro _
        refine (told_ok H3 (((G.ext E1).ext E2).ext E3)).mono ?_
        rintro v H5 ⟨E5, rfl⟩
        simp -implicitDefEqProofs [callQ]
        intro _
        refine (F.code_ok _ _ H5 ((((G.ext E1).ext E2).ext E3).ext E5) (hE0.ext ((E2.trans E3).trans E5))).mono ?_
        rintro v H6 ⟨E6, rfl⟩
        simp -implicitDefEqProofs [callQ, hcd]
        intro _
        exact (((E1.trans E2).trans E3).trans E5).trans E6
end Go.Proofs.Yph
namespace Go.Proofs.YthglohpeijfcfaaGreatDoor.AmParseMay
open Go Go.Am Go.RowKit
theorem walk {W : World} (L : Yph.isLaid W) (s : ByteArray) {a : Option Addr} {len cap : Nat} {zs : List Int} (w : IntsW W a len cap zs ∧ ∀ z ∈ zs, (Lit.int .i64 z).wf = true) (y : len * 8 ≤ 140737488351232) :
    Calls Tryz.prog 4 #[.string s, .slice a len cap] W (fun e w' => e = .returned (.bool true) ∧ Below W.heap.size W w') := by
  obtain ⟨h, ρ, L0, G⟩ := Yph.start_of L
  obtain ⟨h1, v, ρ1, L1, E1, M1, V1, R1, N1⟩ := glue_addG (e := 3) (sz := 1) Yph.co3 (by decide) L0 w.1.row
  rw [Nat.mul_one] at R1 N1
  rw [← Yph.PP_eq]
  exact law_walkG L1 (Yph.pmay_ok s.data.toList v _ (by omega) h1 (G.ext E1) (R1.ints N1)) ⟨rfl, fun i u hi => by
    match i, hi with
    | 0, hi => simp at hi; subst hi; exact ⟨_, rfl, .string _⟩
    | 1, hi => simp at hi; subst hi; exact ⟨_, rfl, V1⟩
    | i + 2, hi => simp at hi⟩
end Go.Proofs.YthglohpeijfcfaaGreatDoor.AmParseMay
