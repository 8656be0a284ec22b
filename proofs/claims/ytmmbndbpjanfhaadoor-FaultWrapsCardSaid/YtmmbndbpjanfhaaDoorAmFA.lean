import Derived.Test.YtmmbndbpjanfhaaDoorAmF8
set_option linter.unusedVariables false
set_option linter.unusedSimpArgs false
set_option linter.unusedSectionVars false
namespace Go.Proofs.Flt
open Go Go.Am
set_option maxRecDepth 20000
set_option maxHeartbeats 4000000
theorem mx0_in {n : Int} (h : InR n) : InR (mx0 n) := by
  obtain ⟨h1, h2⟩ := h
  unfold mx0 InR
  split <;> omega
theorem textL_one (f : FR) : textL [f] = txtF f := by simp [textL, Lib.join_cons, Lib.joinTail]
theorem spotL_one (f : FR) : spotL [f] = (f.line, f.col) := by
  simp only [spotL, hasS]
  by_cases h1 : f.line = 0 <;> by_cases h2 : f.col = 0 <;> simp [h1, h2]
def M3 (h : Heap) (a l c : Int) (σ : St) : Prop := ∃ b, Ext h σ.m.h ∧ ChA σ.m.h σ.m.h.n (.iface 41 (.pointer (some ⟨b, 0, none⟩))) [⟨a, l, c⟩] ∧ σ.t.get 0 = some (.int .i64 a) ∧ σ.t.get 7 = some (.iface 41 (.pointer (some ⟨b, 0, none⟩))) ∧ σ.t.get 8 = some (.int .i64 l) ∧ σ.t.get 9 = some (.int .i64 c) ∧ σ.t.get 10 = some (.string (B (txtF ⟨a, l, c⟩)))
theorem newLaw_ok (a l c : Int) (wa : InR a) (wl : InR l) (wc : InR c) (h : Heap) (G : GlobOK h) : ACalls PP 3 [.int .i64 a, .int .i64 l, .int .i64 c] h (fun v h' => Ext h h' ∧ v = .bool true) := by
  refine acalls_of_vc mix fn3 bodyEq3 rfl (by show 3 ≤ 93; decide) ok3 ?_
  simp only [body3, Tryd.f3]
  by_cases ha : a ≤ 0
  · simp -implicitDefEqProofs
    refine (new_ok a l c h).mono ?_
    rintro ve H1 ⟨E1, C1⟩
    have G1 := G.ext E1
    rw [if_pos ha] at C1
    cases C1
    have q0 : (decide ((0 : Int) < a) && decide (a ∈ ([] : List FR).map (·.code))) = false := by simp
    simp -implicitDefEqProofs [callQ, ha]
    intro _
    refine (told_ok H1 G1).mono ?_
    rintro r H2 ⟨E2, rfl⟩
    have G2 := G1.ext E2
    simp -implicitDefEqProofs [callQ]
    intro _
    refine (code_ok _ [] H2 G2 .nil).mono ?_
    rintro r H3 ⟨E3, rfl⟩
    have G3 := G2.ext E3
    simp -implicitDefEqProofs [callQ, codeL]
    intro _
    refine (depth_ok _ [] (by decide) H3 G3 .nil).mono ?_
    rintro r H4 ⟨E4, rfl⟩
    have G4 := G3.ext E4
    simp -implicitDefEqProofs [callQ]
    intro _
    refine (isF_ok _ [] a H4 G4 .nil).mono ?_
    rintro r H5 ⟨E5, rfl⟩
    rw [q0]
    simp -implicitDefEqProofs [callQ]
    intro _
    exact (((E1.trans E2).trans E3).trans E4).trans E5
  · obtain ⟨ml, hml⟩ : ∃ m, m = mx0 l := ⟨_, rfl⟩
    obtain ⟨mc, hmc⟩ : ∃ m, m = mx0 c := ⟨_, rfl⟩
    have il := mx0_in wl
    have ic := mx0_in wc
    rw [← hml] at il
    rw [← hmc] at ic
    have ha' : (0 : Int) < a := by omega
    refine vc_cutAt 7 (M3 h a ml mc) ?_ ?_
    · simp only [head_s, head_0]
      simp -implicitDefEqProofs
      refine (new_ok a l c h).mono ?_
      rintro ve H1 ⟨E1, C1⟩
      have G1 := G.ext E1
      rw [if_neg ha] at C1
      obtain ⟨be, rfl⟩ := one_shape C1
      have bl := bounded_ok l H1
      have bc := bounded_ok c H1
      rw [← hml] at bl C1
      rw [← hmc] at bc C1
      obtain ⟨ta, hta⟩ : ∃ t, t = Lib.itoa a := ⟨_, rfl⟩
      obtain ⟨tl, htl⟩ : ∃ t, t = Lib.itoa ml := ⟨_, rfl⟩
      obtain ⟨tc, htc⟩ : ∃ t, t = Lib.itoa mc := ⟨_, rfl⟩
      have d1 := decimal_ok a wa H1
      have d2 := decimal_ok ml il H1
      have d3 := decimal_ok mc ic H1
      have l1 := itoa_len wa
      have l2 := itoa_len il
      have l3 := itoa_len ic
      rw [← hta] at d1 l1
      rw [← htl] at d2 l2
      rw [← htc] at d3 l3
      simp -implicitDefEqProofs [callQ, ha]
      intro _
      refine bl.mono ?_
      rintro r H2 ⟨e, rfl⟩
      replace e := e.symm
      subst e
      simp -implicitDefEqProofs [callQ]
      intro _
      refine bc.mono ?_
      rintro r H2 ⟨e, rfl⟩
      replace e := e.symm
      subst e
      simp -implicitDefEqProofs [callQ]
      intro _
      refine d1.mono ?_
      rintro r H2 ⟨e, rfl⟩
      replace e := e.symm
      subst e
      have m1 : 5 + ta.length ≤ 9223372036854775807 := by omega
      have m2 : ta.length + 1 + 1 + 1 + 1 + 1 + 4 ≤ 9223372036854775807 := by omega
      have m3 : ta.length + 1 + 1 + 1 + 1 + 1 + 4 + tl.length ≤ 9223372036854775807 := by omega
      have m4 : ta.length + 1 + 1 + 1 + 1 + 1 + 4 + tl.length + 1 ≤ 9223372036854775807 := by omega
      clear hml hmc
      simp -implicitDefEqProofs [callQ, m1]
      intro _
      have n1 : ta.length ≤ 9223372036854775798 := by omega
      by_cases hl0 : ml = 0 <;> by_cases hc0 : mc = 0
      · simp -implicitDefEqProofs [hl0, hc0]
        exact ⟨be, E1, by rw [hl0, hc0] at C1; exact C1, by simp, by simp, by simp, by simp, by simp [txtF, hasS, hta]⟩
      · subst hl0
        simp -implicitDefEqProofs [hc0, n1]
        refine d2.mono ?_
        rintro r H2 ⟨e, rfl⟩
        replace e := e.symm
        subst e
        have m2 : ta.length + 4 + 1 + 1 + 1 + 1 + 1 + tl.length ≤ 9223372036854775807 := by omega
        have m3 : ta.length + (tl.length + 1 + 1 + 1 + 1) + 1 + 1 + 1 + 1 + 1 + 1 ≤ 9223372036854775807 := by omega
        simp -implicitDefEqProofs [callQ, hc0, n1, m2, m3]
        intro _
        refine d3.mono ?_
        rintro r H2 ⟨e, rfl⟩
        replace e := e.symm
        subst e
        have m4 : ta.length + (tl.length + 1 + 1 + 1 + 1 + 1) + 1 + 1 + 1 + 1 + 1 + tc.length ≤ 9223372036854775807 := by omega
        simp -implicitDefEqProofs [callQ, hc0, n1, m2, m3, m4]
        intro _
        exact ⟨be, E1, C1, by simp, by simp, by simp, by simp, by simp [txtF, hasS, hta, htl, htc, hc0]⟩
      · subst hc0
        simp -implicitDefEqProofs [hl0, n1]
        refine d2.mono ?_
        rintro r H2 ⟨e, rfl⟩
        replace e := e.symm
        subst e
        have m2 : ta.length + 4 + 1 + 1 + 1 + 1 + 1 + tl.length ≤ 9223372036854775807 := by omega
        have m3 : ta.length + (tl.length + 1 + 1 + 1 + 1) + 1 + 1 + 1 + 1 + 1 + 1 ≤ 9223372036854775807 := by omega
        simp -implicitDefEqProofs [callQ, hl0, n1, m2, m3]
        intro _
        refine d3.mono ?_
        rintro r H2 ⟨e, rfl⟩
        replace e := e.symm
        subst e
        have m4 : ta.length + (tl.length + 1 + 1 + 1 + 1 + 1) + 1 + 1 + 1 + 1 + 1 + tc.length ≤ 9223372036854775807 := by omega
        simp -implicitDefEqProofs [callQ, hl0, n1, m2, m3, m4]
        intro _
        exact ⟨be, E1, C1, by simp, by simp, by simp, by simp, by simp [txtF, hasS, hta, htl, htc, hl0]⟩
      · simp -implicitDefEqProofs [hl0, hc0, n1]
        refine d2.mono ?_
        rintro r H2 ⟨e, rfl⟩
        replace e := e.symm
        subst e
        have m2 : ta.length + 4 + 1 + 1 + 1 + 1 + 1 + tl.length ≤ 9223372036854775807 := by omega
        have m3 : ta.length + (tl.length + 1 + 1 + 1 + 1) + 1 + 1 + 1 + 1 + 1 + 1 ≤ 9223372036854775807 := by omega
        simp -implicitDefEqProofs [callQ, hl0, hc0, n1, m2, m3]
        intro _
        refine d3.mono ?_
        rintro r H2 ⟨e, rfl⟩
        replace e := e.symm
        subst e
        have m4 : ta.length + (tl.length + 1 + 1 + 1 + 1 + 1) + 1 + 1 + 1 + 1 + 1 + tc.length ≤ 9223372036854775807 := by omega
        simp -implicitDefEqProofs [callQ, hl0, hc0, n1, m2, m3, m4]
        intro _
        exact ⟨be, E1, C1, by simp, by simp, by simp, by simp, by simp [txtF, hasS, hta, htl, htc, hl0, hc0]⟩
    · simp only [tail_s, tail_0]
      rintro ⟨T, ⟨x, H1⟩⟩ ⟨be, E1, C1, g0, g7, g8, g9, g10⟩
      simp at E1 C1 g0 g7 g8 g9 g10
      have G1 := G.ext E1
      have c1 : codeL [(⟨a, ml, mc⟩ : FR)] = a := rfl
      have hin : (decide ((0 : Int) < a) && decide (a ∈ [(⟨a, ml, mc⟩ : FR)].map (·.code))) = true := by simp [ha']
      have hsp : spotL [(⟨a, ml, mc⟩ : FR)] = (ml, mc) := spotL_one _
      have htx := textL_one ⟨a, ml, mc⟩
      obtain ⟨tx, htxe⟩ : ∃ t, t = txtF ⟨a, ml, mc⟩ := ⟨_, rfl⟩
      rw [← htxe] at htx g10
      simp -implicitDefEqProofs
      refine (told_ok H1 G1).mono ?_
      rintro r H2 ⟨E2, rfl⟩
      have G2 := G1.ext E2; have C2 := C1.ext E2
      simp -implicitDefEqProofs [callQ, g0, g7, g8, g9, g10]
      intro _
      refine (code_ok _ _ H2 G2 C2).mono ?_
      rintro r H3 ⟨E3, rfl⟩
      have G3 := G2.ext E3; have C3 := C2.ext E3
      rw [c1]
      simp -implicitDefEqProofs [callQ, g0, g7, g8, g9, g10]
      intro _
      refine (spot_ok _ _ (by simp) H3 G3 C3).mono ?_
      rintro r H4 ⟨E4, rfl⟩
      have G4 := G3.ext E4; have C4 := C3.ext E4
      rw [hsp]
      simp -implicitDefEqProofs [callQ, g0, g7, g8, g9, g10]
      intro _
      refine (isF_ok _ _ a H4 G4 C4).mono ?_
      rintro r H5 ⟨E5, rfl⟩
      have G5 := G4.ext E5; have C5 := C4.ext E5
      rw [hin]
      simp -implicitDefEqProofs [callQ, g0, g7, g8, g9, g10]
      intro _
      refine (depth_ok _ _ (by simp) H5 G5 C5).mono ?_
      rintro r H6 ⟨E6, rfl⟩
      have G6 := G5.ext E6; have C6 := C5.ext E6
      simp -implicitDefEqProofs [callQ, g0, g7, g8, g9, g10]
      intro _
      refine (text_ok _ _ (by simp) (by intro f hf; rw [List.mem_singleton] at hf; subst hf; exact ⟨wa, il, ic⟩) H6 G6 C6).mono ?_
      rintro r H7 ⟨E7, rfl⟩
      rw [htx]
      simp -implicitDefEqProofs [callQ, g0, g7, g8, g9, g10]
      intro _
      exact (((((E1.trans E2).trans E3).trans E4).trans E5).trans E6).trans E7
end Go.Proofs.Flt
