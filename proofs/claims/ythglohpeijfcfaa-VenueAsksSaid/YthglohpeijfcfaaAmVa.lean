import Derived.Test.YthglohpeijfcfaaAmV9
set_option linter.unusedVariables false
set_option linter.unusedSimpArgs false
set_option linter.unusedSectionVars false
namespace Go.Proofs.Yth
open Go Go.Am
set_option maxRecDepth 20000
set_option maxHeartbeats 2000000
theorem lessLaw_ok (a b : SeatR) (h : Heap) : ACalls PP 4 [seatV a, seatV b] h (fun v _ => v = .bool true) := by
  refine acalls_of_vc mix fn4 bodyEq4 rfl (by show 2 ≤ 52; decide) ok4 ?_
  simp only [body4, Try.f4]
  have w1 : IntKind.wrap .i64 1 = 1 := rfl
  obtain ⟨ar, ax, ay, ak⟩ := a
  obtain ⟨br, bx, by', bk⟩ := b
  rcases (by omega : ar = br ∧ ax = bx ∨ (ar = br ∧ ax < bx) ∨ (ar = br ∧ bx < ax) ∨ ar < br ∨ br < ar) with ⟨rfl, rfl⟩ | ⟨rfl, h2⟩ | ⟨rfl, h2⟩ | h1 | h1
  · have ep : lessS ⟨ar, ax, ay, ak⟩ ⟨ar, ax, by', bk⟩ = false := by rw [← Bool.not_eq_true, lessS_iff]; simp
    have eq : lessS ⟨ar, ax, by', bk⟩ ⟨ar, ax, ay, ak⟩ = false := by rw [← Bool.not_eq_true, lessS_iff]; simp
    simp -implicitDefEqProofs [seatV, seatC, w1]
    refine (less_ok ⟨ar, ax, ay, ak⟩ ⟨ar, ax, by', bk⟩ h).mono ?_
    rintro v h' ⟨rfl, rfl⟩
    rw [ep]
    simp -implicitDefEqProofs [callQ, w1]
    intro _
    refine (less_ok ⟨ar, ax, by', bk⟩ ⟨ar, ax, ay, ak⟩ h').mono ?_
    rintro v h' ⟨rfl, rfl⟩
    rw [eq]
    simp -implicitDefEqProofs [callQ, w1]
    intro _
    refine (told_ok h').mono ?_
    rintro v h'' ⟨_, rfl⟩
    simp -implicitDefEqProofs [callQ, w1]
  · have ep : lessS ⟨ar, ax, ay, ak⟩ ⟨ar, bx, by', bk⟩ = true := by rw [lessS_iff]; simp; omega
    have eq : lessS ⟨ar, bx, by', bk⟩ ⟨ar, ax, ay, ak⟩ = false := by rw [← Bool.not_eq_true, lessS_iff]; simp; omega
    have hne : ¬ ax = bx := by omega
    simp -implicitDefEqProofs [seatV, seatC, hne]
    refine (less_ok ⟨ar, ax, ay, ak⟩ ⟨ar, bx, by', bk⟩ h).mono ?_
    rintro v h' ⟨rfl, rfl⟩
    rw [ep]
    simp -implicitDefEqProofs [callQ, w1]
    intro _
    refine (less_ok ⟨ar, bx, by', bk⟩ ⟨ar, ax, ay, ak⟩ h').mono ?_
    rintro v h' ⟨rfl, rfl⟩
    rw [eq]
    simp -implicitDefEqProofs [callQ, w1]
    intro _
    refine (told_ok h').mono ?_
    rintro v h'' ⟨_, rfl⟩
    simp -implicitDefEqProofs [callQ, hne]
  · have ep : lessS ⟨ar, ax, ay, ak⟩ ⟨ar, bx, by', bk⟩ = false := by rw [← Bool.not_eq_true, lessS_iff]; simp; omega
    have eq : lessS ⟨ar, bx, by', bk⟩ ⟨ar, ax, ay, ak⟩ = true := by rw [lessS_iff]; simp; omega
    have hne : ¬ ax = bx := by omega
    simp -implicitDefEqProofs [seatV, seatC, hne]
    refine (less_ok ⟨ar, ax, ay, ak⟩ ⟨ar, bx, by', bk⟩ h).mono ?_
    rintro v h' ⟨rfl, rfl⟩
    rw [ep]
    simp -implicitDefEqProofs [callQ, w1]
    intro _
    refine (less_ok ⟨ar, bx, by', bk⟩ ⟨ar, ax, ay, ak⟩ h').mono ?_
    rintro v h' ⟨rfl, rfl⟩
    rw [eq]
    simp -implicitDefEqProofs [callQ, w1]
    intro _
    refine (told_ok h').mono ?_
    rintro v h'' ⟨_, rfl⟩
    simp -implicitDefEqProofs [callQ, hne]
  · have ep : lessS ⟨ar, ax, ay, ak⟩ ⟨br, bx, by', bk⟩ = true := by rw [lessS_iff]; simp; omega
    have eq : lessS ⟨br, bx, by', bk⟩ ⟨ar, ax, ay, ak⟩ = false := by rw [← Bool.not_eq_true, lessS_iff]; simp; omega
    have hne : ¬ ar = br := by omega
    have hge : ¬ br ≤ ar := by omega
    simp -implicitDefEqProofs [seatV, seatC, hne, hge]
    refine (less_ok ⟨ar, ax, ay, ak⟩ ⟨br, bx, by', bk⟩ h).mono ?_
    rintro v h' ⟨rfl, rfl⟩
    rw [ep]
    simp -implicitDefEqProofs [callQ, w1]
    intro _
    refine (less_ok ⟨br, bx, by', bk⟩ ⟨ar, ax, ay, ak⟩ h').mono ?_
    rintro v h' ⟨rfl, rfl⟩
    rw [eq]
    simp -implicitDefEqProofs [callQ, w1]
    intro _
    refine (told_ok h').mono ?_
    rintro v h'' ⟨_, rfl⟩
    simp -implicitDefEqProofs [callQ, hne, hge]
    intro _
    refine (less_ok ⟨ar, ax, ay, ak⟩ ⟨br, bx, by', bk⟩ h'').mono ?_
    rintro v h3 ⟨rfl, rfl⟩
    rw [ep]
    simp -implicitDefEqProofs [callQ]
  · have ep : lessS ⟨ar, ax, ay, ak⟩ ⟨br, bx, by', bk⟩ = false := by rw [← Bool.not_eq_true, lessS_iff]; simp; omega
    have eq : lessS ⟨br, bx, by', bk⟩ ⟨ar, ax, ay, ak⟩ = true := by rw [lessS_iff]; simp; omega
    have hne : ¬ ar = br := by omega
    have hge : br ≤ ar := by omega
    simp -implicitDefEqProofs [seatV, seatC, hne, hge]
    refine (less_ok ⟨ar, ax, ay, ak⟩ ⟨br, bx, by', bk⟩ h).mono ?_
    rintro v h' ⟨rfl, rfl⟩
    rw [ep]
    simp -implicitDefEqProofs [callQ, w1]
    intro _
    refine (less_ok ⟨br, bx, by', bk⟩ ⟨ar, ax, ay, ak⟩ h').mono ?_
    rintro v h' ⟨rfl, rfl⟩
    rw [eq]
    simp -implicitDefEqProofs [callQ, w1]
    intro _
    refine (told_ok h').mono ?_
    rintro v h'' ⟨_, rfl⟩
    simp -implicitDefEqProofs [callQ, hne, hge]
end Go.Proofs.Yth
