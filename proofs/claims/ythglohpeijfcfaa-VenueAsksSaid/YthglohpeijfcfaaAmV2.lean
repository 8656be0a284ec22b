import Derived.Test.YthglohpeijfcfaaAmV1
import Derived.Test.YthglohpeijfcfaaAmU
set_option linter.unusedVariables false
set_option linter.unusedSimpArgs false
set_option linter.unusedSectionVars false
namespace Go.Proofs.Yth
open Go Go.Am
set_option maxRecDepth 20000
set_option maxHeartbeats 2000000
structure SeatR where
  row : Int
  x : Int
  y : Int
  kind : Int
deriving DecidableEq
structure PoleR where
  x : Int
  y : Int
  r : Int
deriving DecidableEq
def seatC (s : SeatR) : List Value := [.int .i64 s.row, .int .i64 s.x, .int .i64 s.y, .int .i64 s.kind]
def poleC (p : PoleR) : List Value := [.int .i64 p.x, .int .i64 p.y, .int .i64 p.r]
def intC (n : Int) : List Value := [.int .i64 n]
def seatV (s : SeatR) : Value := .agg ⟨seatC s⟩
theorem seatC_len (s : SeatR) : (seatC s).length = 4 := rfl
theorem poleC_len (s : PoleR) : (poleC s).length = 3 := rfl
theorem intC_len (s : Int) : (intC s).length = 1 := rfl
abbrev SeatS := SlA 34 seatC
abbrev PoleS := SlA 39 poleC
abbrev IntS := SlA 3 intC
def lessS (a b : SeatR) : Bool := decide (a.row < b.row) || (decide (a.row = b.row) && decide (a.x < b.x))
theorem less_ok (a b : SeatR) (h : Heap) : ACalls PP 19 [seatV a, seatV b] h (fun v h' => h' = h ∧ v = .bool (lessS a b)) := by
  refine acalls_of_vc mix fn19 bodyEq19 rfl (by show 2 ≤ 24; decide) ok19 ?_
  simp only [body19, Try.f19]
  unfold lessS
  by_cases h1 : a.row < b.row
  · simp [seatV, seatC, h1]
  · by_cases h2 : a.row = b.row
    · simp [seatV, seatC, h1, h2]
    · simp [seatV, seatC, h1, h2]
def inB (n lo hi : Int) : Bool := decide (lo ≤ n) && decide (n ≤ hi)
theorem in_ok (n lo hi : Int) (h : Heap) : ACalls PP 34 [.int .i64 n, .int .i64 lo, .int .i64 hi] h (fun v h' => h' = h ∧ v = .bool (inB n lo hi)) := by
  refine acalls_of_vc mix fn34 bodyEq34 rfl (by show 3 ≤ 15; decide) ok34 ?_
  simp only [body34, Try.f34]
  unfold inB
  by_cases h1 : lo ≤ n
  · simp [h1]
  · simp [h1]
theorem row_ok (n : Int) (h : Heap) : ACalls PP 68 [.int .i64 n] h (fun v h' => h' = h ∧ v = .bool (inB n 0 999)) := by
  refine acalls_of_vc mix fn68 bodyEq68 rfl (by show 1 ≤ 5; decide) ok68 ?_
  simp only [body68, Try.f68]
  simp
  refine (in_ok n 0 999 h).mono ?_
  rintro v h' ⟨rfl, rfl⟩
  simp [callQ]
theorem coord_ok (n : Int) (h : Heap) : ACalls PP 47 [.int .i64 n] h (fun v h' => h' = h ∧ v = .bool (inB n (-1048576) 1048576)) := by
  refine acalls_of_vc mix fn47 bodyEq47 rfl (by show 1 ≤ 5; decide) ok47 ?_
  simp only [body47, Try.f47]
  simp
  refine (in_ok n (-1048576) 1048576 h).mono ?_
  rintro v h' ⟨rfl, rfl⟩
  simp [callQ]
theorem reach_ok (n : Int) (h : Heap) : ACalls PP 33 [.int .i64 n] h (fun v h' => h' = h ∧ v = .bool (inB n 1 1048576)) := by
  refine acalls_of_vc mix fn33 bodyEq33 rfl (by show 1 ≤ 5; decide) ok33 ?_
  simp only [body33, Try.f33]
  simp
  refine (in_ok n 1 1048576 h).mono ?_
  rintro v h' ⟨rfl, rfl⟩
  simp [callQ]
def seatOK (s : SeatR) : Bool := inB s.kind 0 2 && (inB s.row 0 999 && (inB s.x (-1048576) 1048576 && inB s.y (-1048576) 1048576))
theorem seat_ok (s : SeatR) (h : Heap) : ACalls PP 46 [seatV s] h (fun v h' => h' = h ∧ v = .bool (seatOK s)) := by
  refine acalls_of_vc mix fn46 bodyEq46 rfl (by show 1 ≤ 24; decide) ok46 ?_
  simp only [body46, Try.f46]
  by_cases hk : s.kind = 0 ∨ s.kind = 1 ∨ s.kind = 2
  · have hkk : inB s.kind 0 2 = true := by simp [inB]; omega
    unfold seatOK
    rw [hkk]
    rcases hk with hk | hk | hk
    all_goals
      simp [seatV, seatC, hk]
      refine (row_ok s.row h).mono ?_
      rintro v h' ⟨rfl, rfl⟩
      simp [callQ]
      intro _
      by_cases h1 : inB s.row 0 999 = true
      · simp [h1]
        refine (coord_ok s.x h').mono ?_
        rintro v h2 ⟨rfl, rfl⟩
        simp [callQ]
        intro _
        by_cases h3 : inB s.x (-1048576) 1048576 = true
        · simp [h3]
          refine (coord_ok s.y h2).mono ?_
          rintro v h4 ⟨rfl, rfl⟩
          simp [callQ]
        · simp [h3]
      · simp [h1]
  · have hkk : inB s.kind 0 2 = false := by simp [inB]; omega
    have h0 : ¬ s.kind = 0 := by omega
    have h1 : ¬ s.kind = 1 := by omega
    have h2 : ¬ s.kind = 2 := by omega
    simp [seatV, seatC, h0, h1, h2, seatOK, hkk]
end Go.Proofs.Yth
