import Derived.Test.YtmmbndbpjanfhaaDoorAmF7
set_option linter.unusedVariables false
set_option linter.unusedSimpArgs false
set_option linter.unusedSectionVars false
namespace Go.Proofs.Flt
open Go Go.Am
set_option maxRecDepth 20000
set_option maxHeartbeats 4000000
theorem ch_shape {h : Heap} {n : Nat} {E : Value} {l : List FR} (H : ChA h n E l) (hl : l ≠ []) : ∃ b, E = .iface 41 (.pointer (some ⟨b, 0, none⟩)) := by
  cases H with
  | nil => exact absurd rfl hl
  | cons b f E l _ _ _ => exact ⟨b, rfl⟩
theorem noneLaw_ok (a b : Int) (h : Heap) (G : GlobOK h) : ACalls PP 5 [.int .i64 a, .int .i64 b] h (fun v h' => Ext h h' ∧ v = .bool true) := by
  refine acalls_of_vc mix fn5 bodyEq5 rfl (by show 2 ≤ 55; decide) ok5 ?_
  simp only [body5, Tryd.f5]
  simp -implicitDefEqProofs
  refine (wrap_ok _ [] a h .nil).mono ?_
  rintro ve H1 ⟨E1, C1⟩
  have G1 := G.ext E1
  by_cases ha : a ≤ 0
  · rw [if_pos ha] at C1
    cases C1
    simp -implicitDefEqProofs [callQ, ha]
    intro _
    refine (told_ok H1 G1).mono ?_
    rintro r H2 ⟨E2, rfl⟩
    simp -implicitDefEqProofs [callQ]
    intro _
    exact E1.trans E2
  · rw [if_neg ha] at C1
    obtain ⟨be, rfl⟩ := one_shape C1
    have ha' : (0 : Int) < a := by omega
    simp -implicitDefEqProofs [callQ, ha]
    intro _
    refine (wrap_ok _ _ b H1 C1).mono ?_
    rintro vf H2 ⟨E2, C2⟩
    obtain ⟨lf, hlf⟩ : ∃ lf, lf = if b ≤ 0 then [(⟨a, 0, 0⟩ : FR)] else [⟨b, 0, 0⟩, ⟨a, 0, 0⟩] := ⟨_, rfl⟩
    rw [← hlf] at C2
    have hne : lf ≠ [] := by rw [hlf]; split <;> simp
    obtain ⟨bf, rfl⟩ := ch_shape C2 hne
    have hsp : spotL lf = (0, 0) := by rw [hlf]; split <;> simp [spotL, hasS]
    have hin : (decide ((0 : Int) < a) && decide (a ∈ lf.map (·.code))) = true := by rw [hlf]; split <;> simp [ha']
    have hll : lf.length ≤ 1000 := by rw [hlf]; split <;> simp
    obtain ⟨k, hk⟩ : ∃ k, k = lf.length := ⟨_, rfl⟩
    have hkb : (k : Int) = if 0 < b then 2 else 1 := by
      rw [hk, hlf]
      by_cases hb : b ≤ 0
      · rw [if_pos hb, if_neg (by omega)]; rfl
      · rw [if_neg hb, if_pos (by omega)]; rfl
    have G2 := G1.ext E2
    have C12 := C1.ext E2
    have c1 : codeL [(⟨a, 0, 0⟩ : FR)] = a := rfl
    simp -implicitDefEqProofs [callQ]
    intro _
    by_cases hb : 0 < b
    all_goals
      simp -implicitDefEqProofs [hb]
      refine (told_ok H2 G2).mono ?_
      rintro r H3 ⟨E3, rfl⟩
      have G3 := G2.ext E3; have A3 := C12.ext E3; have B3 := C2.ext E3
      simp -implicitDefEqProofs [callQ]
      intro _
      refine (depth_ok _ _ (by simp) H3 G3 A3).mono ?_
      rintro r H4 ⟨E4, rfl⟩
      have G4 := G3.ext E4; have A4 := A3.ext E4; have B4 := B3.ext E4
      simp -implicitDefEqProofs [callQ]
      intro _
      refine (code_ok _ _ H4 G4 A4).mono ?_
      rintro r H5 ⟨E5, rfl⟩
      have G5 := G4.ext E5; have B5 := B4.ext E5
      rw [c1]
      simp -implicitDefEqProofs [callQ]
      intro _
      refine (spot_ok _ lf hll H5 G5 B5).mono ?_
      rintro r H6 ⟨E6, rfl⟩
      have G6 := G5.ext E6; have B6 := B5.ext E6
      rw [hsp]
      simp -implicitDefEqProofs [callQ]
      intro _
      refine (depth_ok _ lf hll H6 G6 B6).mono ?_
      rintro r H7 ⟨E7, rfl⟩
      have G7 := G6.ext E7; have B7 := B6.ext E7
      rw [← hk, hkb]
      simp -implicitDefEqProofs [callQ, hb]
      intro _
      refine (isF_ok _ lf a H7 G7 B7).mono ?_
      rintro r H8 ⟨E8, rfl⟩
      rw [hin]
      simp -implicitDefEqProofs [callQ]
      intro _
      exact (((((((E1.trans E2).trans E3).trans E4).trans E5).trans E6).trans E7).trans E8)
end Go.Proofs.Flt
