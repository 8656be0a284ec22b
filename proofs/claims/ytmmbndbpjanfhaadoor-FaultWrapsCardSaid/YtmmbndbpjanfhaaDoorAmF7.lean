import Derived.Test.YtmmbndbpjanfhaaDoorAmF6
set_option linter.unusedVariables false
set_option linter.unusedSimpArgs false
set_option linter.unusedSectionVars false
namespace Go.Proofs.Flt
open Go Go.Am
set_option maxRecDepth 20000
set_option maxHeartbeats 4000000
def fa : FR := ⟨2, 3, 4⟩
def fb : FR := ⟨1, 0, 0⟩
def fc : FR := ⟨5, 0, 0⟩
theorem itoa_d (u : Nat) (h : u < 10) : Lib.itoa (u : Int) = [UInt8.ofNat (48 + u)] := by
  unfold Lib.itoa
  rw [if_neg (by omega), Int.toNat_natCast, dec_small h]
theorem text_b : textL [fb, fa] = [99, 111, 100, 101, 32, 49, 58, 32, 99, 111, 100, 101, 32, 50, 32, 97, 116, 32, 51, 58, 52] := by
  have h1 : Lib.itoa 1 = [49] := itoa_d 1 (by omega)
  have h2 : Lib.itoa 2 = [50] := itoa_d 2 (by omega)
  have h3 : Lib.itoa 3 = [51] := itoa_d 3 (by omega)
  have h4 : Lib.itoa 4 = [52] := itoa_d 4 (by omega)
  simp [textL, txtF, hasS, fa, fb, h1, h2, h3, h4, Lib.join_cons, Lib.joinTail]
theorem one_shape {h : Heap} {n : Nat} {E : Value} {f : FR} {l : List FR} (H : ChA h n E (f :: l)) : ∃ b, E = .iface 41 (.pointer (some ⟨b, 0, none⟩)) := by
  cases H with | cons b f E l _ _ _ => exact ⟨b, rfl⟩
theorem told_ok (h : Heap) (G : GlobOK h) : ACalls PP 8 [] h (fun v h' => Ext h h' ∧ v = .bool true) := by
  refine acalls_of_vc mix fn8 bodyEq8 rfl (by show 0 ≤ 88; decide) ok8 ?_
  simp only [body8, Tryd.f8]
  simp -implicitDefEqProofs
  refine (new_ok 2 3 4 h).mono ?_
  rintro va H1 ⟨E1, C1⟩
  rw [if_neg (by decide)] at C1
  have C1 : ChA H1 H1.n va [fa] := C1
  obtain ⟨ba, rfl⟩ := one_shape C1
  simp -implicitDefEqProofs [callQ]
  intro _
  refine (wrap_ok _ [fa] 1 H1 C1).mono ?_
  rintro vb H2 ⟨E2, C2⟩
  rw [if_neg (by decide)] at C2
  have C2 : ChA H2 H2.n vb [fb, fa] := C2
  obtain ⟨bb, rfl⟩ := one_shape C2
  simp -implicitDefEqProofs [callQ]
  intro _
  refine (wrap_ok _ [] 5 H2 .nil).mono ?_
  rintro vc H3 ⟨E3, C3⟩
  rw [if_neg (by decide)] at C3
  have C3 : ChA H3 H3.n vc [fc] := C3
  obtain ⟨bc, rfl⟩ := one_shape C3
  simp -implicitDefEqProofs [callQ]
  intro _
  refine (new_ok 0 1 1 H3).mono ?_
  rintro vd H4 ⟨E4, C4⟩
  rw [if_pos (by decide)] at C4
  cases C4
  have G4 := (((G.ext E1).ext E2).ext E3).ext E4
  have A4 := ((C1.ext E2).ext E3).ext E4
  have B4 := (C2.ext E3).ext E4
  have D4 := C3.ext E4
  simp -implicitDefEqProofs [callQ]
  intro _
  refine (code_ok _ [fa] H4 G4 A4).mono ?_
  rintro r H5 ⟨E5, rfl⟩
  have G5 := G4.ext E5; have B5 := B4.ext E5; have D5 := D4.ext E5
  simp -implicitDefEqProofs [callQ, codeL, fa]
  intro _
  refine (code_ok _ [fb, fa] H5 G5 B5).mono ?_
  rintro r H6 ⟨E6, rfl⟩
  have G6 := G5.ext E6; have B6 := B5.ext E6; have D6 := D5.ext E6
  simp -implicitDefEqProofs [callQ, codeL, fb]
  intro _
  refine (code_ok _ [] H6 G6 .nil).mono ?_
  rintro r H7 ⟨E7, rfl⟩
  have G7 := G6.ext E7; have B7 := B6.ext E7; have D7 := D6.ext E7
  simp -implicitDefEqProofs [callQ, codeL]
  intro _
  refine (spot_ok _ [fb, fa] (by decide) H7 G7 B7).mono ?_
  rintro r H8 ⟨E8, rfl⟩
  have G8 := G7.ext E8; have B8 := B7.ext E8; have D8 := D7.ext E8
  have s1 : spotL [fb, fa] = (3, 4) := by decide
  rw [s1]
  simp -implicitDefEqProofs [callQ]
  intro _
  refine (spot_ok _ [fc] (by decide) H8 G8 D8).mono ?_
  rintro r H9 ⟨E9, rfl⟩
  have G9 := G8.ext E9; have B9 := B8.ext E9; have D9 := D8.ext E9
  have s2 : spotL [fc] = (0, 0) := by decide
  rw [s2]
  simp -implicitDefEqProofs [callQ]
  intro _
  refine (isF_ok _ [fb, fa] 2 H9 G9 B9).mono ?_
  rintro r H10 ⟨E10, rfl⟩
  have G10 := G9.ext E10; have B10 := B9.ext E10; have D10 := D9.ext E10
  have q10 : (decide ((0 : Int) < 2) && decide ((2 : Int) ∈ [fb, fa].map (·.code))) = true := by decide
  rw [q10]
  simp -implicitDefEqProofs [callQ]
  intro _
  refine (isF_ok _ [fb, fa] 1 H10 G10 B10).mono ?_
  rintro r H11 ⟨E11, rfl⟩
  have G11 := G10.ext E11; have B11 := B10.ext E11; have D11 := D10.ext E11
  have q11 : (decide ((0 : Int) < 1) && decide ((1 : Int) ∈ [fb, fa].map (·.code))) = true := by decide
  rw [q11]
  simp -implicitDefEqProofs [callQ]
  intro _
  refine (isF_ok _ [fb, fa] 3 H11 G11 B11).mono ?_
  rintro r H12 ⟨E12, rfl⟩
  have G12 := G11.ext E12; have B12 := B11.ext E12; have D12 := D11.ext E12
  have q12 : (decide ((0 : Int) < 3) && decide ((3 : Int) ∈ [fb, fa].map (·.code))) = false := by decide
  rw [q12]
  simp -implicitDefEqProofs [callQ]
  intro _
  refine (isF_ok _ [] 0 H12 G12 .nil).mono ?_
  rintro r H13 ⟨E13, rfl⟩
  have G13 := G12.ext E13; have B13 := B12.ext E13; have D13 := D12.ext E13
  have q13 : (decide ((0 : Int) < 0) && decide ((0 : Int) ∈ ([] : List FR).map (·.code))) = false := by decide
  rw [q13]
  simp -implicitDefEqProofs [callQ]
  intro _
  refine (depth_ok _ [fb, fa] (by decide) H13 G13 B13).mono ?_
  rintro r H14 ⟨E14, rfl⟩
  have G14 := G13.ext E14; have B14 := B13.ext E14; have D14 := D13.ext E14
  simp -implicitDefEqProofs [callQ]
  intro _
  refine (depth_ok _ [] (by decide) H14 G14 .nil).mono ?_
  rintro r H15 ⟨E15, rfl⟩
  have G15 := G14.ext E15; have B15 := B14.ext E15; have D15 := D14.ext E15
  simp -implicitDefEqProofs [callQ]
  intro _
  have hfr : ∀ f ∈ [fb, fa], InF f := by
    intro f hf
    simp only [List.mem_cons, List.not_mem_nil, or_false] at hf
    rcases hf with rfl | rfl <;> (refine ⟨⟨?_, ?_⟩, ⟨?_, ?_⟩, ⟨?_, ?_⟩⟩ <;> decide)
  refine (text_ok _ [fb, fa] (by decide) hfr H15 G15 B15).mono ?_
  rintro r H16 ⟨E16, rfl⟩
  have G16 := G15.ext E16; have B16 := B15.ext E16; have D16 := D15.ext E16
  simp -implicitDefEqProofs [callQ, text_b]
  intro _
  have tn : textL [] = [] := rfl
  refine (text_ok _ [] (by decide) (by simp) H16 G16 .nil).mono ?_
  rintro r H17 ⟨E17, rfl⟩
  have G17 := G16.ext E17; have B17 := B16.ext E17; have D17 := D16.ext E17
  simp -implicitDefEqProofs [callQ, tn]
  intro _
  refine (code_ok _ [fc] H17 G17 D17).mono ?_
  rintro r H18 ⟨E18, rfl⟩
  simp -implicitDefEqProofs [callQ, codeL, fc]
  intro _
  exact (((((((((((((((((E1.trans E2).trans E3).trans E4).trans E5).trans E6).trans E7).trans E8).trans E9).trans E10).trans E11).trans E12).trans E13).trans E14).trans E15).trans E16).trans E17).trans E18)
end Go.Proofs.Flt
