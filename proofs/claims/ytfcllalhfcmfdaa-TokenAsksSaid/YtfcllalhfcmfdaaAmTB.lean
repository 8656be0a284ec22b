import Derived.Test.YtfcllalhfcmfdaaAmTA
set_option linter.unusedVariables false
set_option linter.unusedSimpArgs false
set_option linter.unusedSectionVars false
namespace Go.Proofs.Ytf
open Go Go.Am
set_option maxRecDepth 20000
set_option linter.unusedSimpArgs false
set_option maxHeartbeats 2000000
theorem next_bad (l : List UInt8) (a : Int) (ln col : Int) (ha : a < 0 ∨ (l.length : Int) < a) (h : Heap) :
    ACalls PP 9 [.string (B l), .int .i64 a, spotV ln col] h (fun v h' => Ext h h' ∧ v = .tuple #[tokV zTok, .int .i64 a, spotV ln col, .int .i64 1]) := by
  refine acalls_of_vc mix fn9 bodyEq9 rfl (by show 3 ≤ 115; decide) ok9 ?_
  simp only [body9, Try.f9]
  by_cases c1 : a < 0
  · simp [spotV, c1, tokV, tokC, zTok]
    exact (Ext.new _ _).newOf _
  · have c2 : (l.length : Int) < a := by omega
    simp [spotV, c1, c2, tokV, tokC, zTok]
    exact (Ext.new _ _).newOf _
def told1 : List UInt8 := [115, 101, 97, 116, 32, 53, 32, 45, 51, 32, 35, 32, 120, 10, 103, 97, 112]
def told2 : List UInt8 := [115, 101, 97, 116, 10, 32, 53, 120]
def told3 : List UInt8 := [97, 32, 45]
def toldT : List Tok := [⟨1, 0, 1, 1, [115, 101, 97, 116]⟩, ⟨2, 5, 1, 6, [53]⟩, ⟨2, -3, 1, 8, [45, 51]⟩, ⟨3, 0, 1, 14, []⟩, ⟨1, 0, 2, 1, [103, 97, 112]⟩]
theorem told1_eq : allV told1 = ⟨toldT, 2, 4, 0⟩ := by kernel_rfl
theorem told2_ln : (allV told2).ln = 2 := by kernel_rfl
theorem told2_col : (allV told2).col = 3 := by kernel_rfl
theorem told2_code : (allV told2).code = 2 := by kernel_rfl
theorem told3_ln : (allV told3).ln = 1 := by kernel_rfl
theorem told3_col : (allV told3).col = 3 := by kernel_rfl
theorem told3_code : (allV told3).code = 2 := by kernel_rfl
theorem told_next : nextV [32, 32] 0 2 5 = ⟨zTok, 2, 2, 7, 4⟩ := by kernel_rfl
theorem told_line : lineN toldT = 3 := by kernel_rfl
theorem told_ok (h : Heap) : ACalls PP 8 [] h (fun v h' => Ext h h' ∧ v = .bool true) := by
  refine acalls_of_vc mix fn8 bodyEq8 rfl (by show 0 ≤ 131; decide) ok8 ?_
  simp only [body8, Try.f8]
  simp
  refine (all_ok told1 (by decide) h).mono ?_
  rintro v h1 ⟨E1, s, hs, rfl⟩
  rw [told1_eq] at hs ⊢
  have hs1 := hs.tokS
  obtain ⟨ad, rfl, hz⟩ := hs
  simp [callQ, spotV]
  intro _
  try simp
  refine (all_ok told2 (by decide) h1).mono ?_
  rintro v h2 ⟨E2, s2, hs2, rfl⟩
  rw [told2_ln, told2_col, told2_code]
  obtain ⟨ad2, rfl, _⟩ := hs2
  have hs1 := hs1.ext E2
  simp [callQ, spotV]
  intro _
  try simp
  refine (all_ok told3 (by decide) h2).mono ?_
  rintro v h3 ⟨E3, s3, hs3, rfl⟩
  rw [told3_ln, told3_col, told3_code]
  obtain ⟨ad3, rfl, _⟩ := hs3
  have hs1 := hs1.ext E3
  simp [callQ, spotV]
  intro _
  try simp
  refine (line_ok _ toldT 0 (by decide) (by decide) h3 hs1).mono ?_
  rintro v h4 ⟨rfl, s4, hs4, rfl⟩
  rw [show lineN (toldT.drop 0) = 3 from told_line]
  simp [callQ, toldT]
  intro _
  refine (next_ok [32, 32] 0 2 5 (by decide) (by decide) (by decide) (by decide) _).mono ?_
  rintro v h5 ⟨E5, rfl⟩
  rw [told_next]
  simp [callQ, nxV, tokV, tokC, zTok, spotV]
  intro _
  refine (next_bad [] 1 0 0 (by decide) _).mono ?_
  rintro v h6 ⟨E6, rfl⟩
  rw [show lineN (toldT.drop 0) = 3 from told_line] at hs4
  obtain ⟨ad4, c4, rfl, _⟩ := hs4
  obtain ⟨b, rfl, hb, _, hbn⟩ : ∃ b, ad = some (⟨b, 0, none⟩ : Addr) ∧ h1.f b = .row true 27 (toldT.flatMap tokC) ∧ h.n ≤ b ∧ b < h1.n := by
    rcases hz with ⟨_, z⟩ | z
    · exact absurd z (by simp [toldT])
    · exact z
  have EE := ((E2.trans E3).trans E5).trans E6
  have hb6 : h6.f b = .row true 27 (toldT.flatMap tokC) := by rw [EE.f b hbn, hb]
  have EF := E1.trans EE
  simp [callQ, tokV, tokC, zTok, spotV, toldT]
  intro _
  simp [hb6, toldT, tokC]
  exact EF
end Go.Proofs.Ytf
