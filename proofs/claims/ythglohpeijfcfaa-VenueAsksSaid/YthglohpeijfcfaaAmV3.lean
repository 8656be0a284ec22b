import Derived.Test.YthglohpeijfcfaaAmV2
set_option linter.unusedVariables false
set_option linter.unusedSimpArgs false
set_option linter.unusedSectionVars false
namespace Go.Proofs.Yth
open Go Go.Am
set_option maxRecDepth 20000
set_option maxHeartbeats 2000000
theorem all_false {f : Nat → Bool} {n i : Nat} (hi : i < n) (h : f i = false) : (List.range n).all f = false := by
  rw [Bool.eq_false_iff]
  intro q
  rw [List.all_eq_true] at q
  have := q i (List.mem_range.2 hi)
  rw [h] at this; cases this
theorem all_succ {f : Nat → Bool} {i : Nat} (h : (List.range i).all f = true) (hf : f i = true) : (List.range (i + 1)).all f = true := by
  rw [List.range_succ, List.all_append, h]; simp [hf]
def pairOK (l : List SeatR) (i : Nat) : Bool := match l[i]? with
  | some s => seatOK s && (decide (i = 0) || (match l[i - 1]? with | some p => lessS p s | none => true))
  | none => true
def seatsOK (l : List SeatR) : Bool := (List.range l.length).all (pairOK l) && (decide (0 < l.length) && decide (l.length ≤ 4096))
def J32 (s : Value) (l : List SeatR) (m : Nat) (h : Heap) (n : Nat) (σ : St) : Prop := ∃ i : Nat, n = m - i ∧ i ≤ m ∧ σ.m.h = h ∧ σ.t.get 0 = some s ∧ σ.t.get 5 = some s ∧ σ.t.get 6 = some (.int .i64 (m : Nat)) ∧ σ.t.get 7 = some (.int .i64 (i : Nat)) ∧ (List.range i).all (pairOK l) = true
theorem seats_ok (s : Value) (l : List SeatR) (hl : l.length ≤ 1073741824) (h : Heap) (hs : SeatS h s l) : ACalls PP 32 [s] h (fun v h' => h' = h ∧ v = .bool (seatsOK l)) := by
  refine acalls_of_vc mix fn32 bodyEq32 rfl (by show 1 ≤ 38; decide) ok32 ?_
  simp only [body32, Try.f32]
  obtain ⟨ad, c, rfl⟩ := hs.shape
  obtain ⟨m, hm⟩ : ∃ m, m = l.length := ⟨_, rfl⟩
  rw [← hm] at hs ⊢
  simp -implicitDefEqProofs
  refine vc_loop (J32 (.slice ad m c) l m h) _ ⟨0, rfl, by omega, rfl, by simp, by simp, by simp, by simp, rfl⟩ ?_
  rintro n ⟨T, ⟨x, H⟩⟩ ⟨i, rfl, hi, hH, g0, g5, g6, g7, hall⟩
  simp at hH g0 g5 g6 g7
  subst hH
  simp -implicitDefEqProofs [g0, g5, g6, g7]
  refine condQ_of (fun hc => ?_) (fun hc => ?_) <;> simp only [decide_eq_true_eq, decide_eq_false_iff_not] at hc
  · have hil : i < m := by omega
    have hti : l[i]? = some l[i] := List.getElem?_eq_getElem (by omega)
    obtain ⟨_, b, o, wb, cs, r, rfl, hb, hd, hlc, _⟩ := hs.at 4 seatC_len hti
    obtain ⟨t, ht⟩ : ∃ t, t = l[i] := ⟨_, rfl⟩
    rw [← ht] at hd hti
    have w1 : IntKind.wrap .i64 ((i : Int) + 1) = ((i + 1 : Nat) : Int) := by rw [i64wrap (by omega)]; omega
    have hlc' : o + i * 4 + 4 ≤ cs.length := hlc
    have fin : pairOK l i = false → seatsOK l = false := fun hp => by unfold seatsOK; rw [all_false (by omega) hp]; rfl
    simp -implicitDefEqProofs [g0, g5, g6, g7, hil, hb, hd, hlc', seatC]
    refine (seat_ok t H).mono ?_
    rintro v h' ⟨rfl, rfl⟩
    simp -implicitDefEqProofs [callP]
    intro _
    by_cases h1 : seatOK t = true
    · by_cases h2 : i = 0
      · subst h2
        have hp : pairOK l 0 = true := by simp [pairOK, hti, h1]
        simp -implicitDefEqProofs [h1]
        exact ⟨m - 1, by omega, 1, rfl, by omega, rfl, by simp [g0], by simp [g5], by simp [g6], by simp [i64wrap], all_succ hall hp⟩
      · have hi1 : i - 1 < m := by omega
        have htp : l[i - 1]? = some l[i - 1] := List.getElem?_eq_getElem (by omega)
        obtain ⟨p, hp⟩ : ∃ p, p = l[i - 1] := ⟨_, rfl⟩
        rw [← hp] at htp
        obtain ⟨_, b', o', wb', cs', r', e1, hb', hd', hlc2, _⟩ := hs.at 4 seatC_len htp
        simp only [Option.some.injEq, Addr.mk.injEq, and_true] at e1
        obtain ⟨rfl, rfl⟩ := e1
        rw [hb] at hb'
        simp only [Blk.row.injEq, true_and] at hb'
        obtain ⟨rfl, rfl⟩ := hb'
        obtain ⟨j, hj⟩ : ∃ j, j = i - 1 := ⟨_, rfl⟩
        rw [← hj] at hd' hlc2 hi1
        have w2 : IntKind.wrap .i64 ((i : Int) - 1) = (j : Int) := by rw [i64wrap (by omega)]; omega
        have h0 : (0 : Int) < (i : Int) := by omega
        have hlc3 : o + j * 4 + 4 ≤ cs.length := hlc2
        simp -implicitDefEqProofs [h1, h0, h2, w2, hi1, hb, hd', hlc3, seatC, show 0 < i by omega]
        refine (less_ok p t h').mono ?_
        rintro v h'' ⟨rfl, rfl⟩
        simp -implicitDefEqProofs [callP]
        intro _
        by_cases h3 : lessS p t = true
        · have hp : pairOK l i = true := by simp [pairOK, hti, h1, htp, h3]
          simp -implicitDefEqProofs [h3, g0, g5, g6, g7, w1]
          exact ⟨m - (i + 1), by omega, i + 1, rfl, by omega, rfl, by simp [g0], by simp [g5], by simp [g6], by simp, all_succ hall hp⟩
        · have hp : pairOK l i = false := by simp [pairOK, hti, h1, htp, h3, h2]
          simp -implicitDefEqProofs [h3, fin hp]
    · have hp : pairOK l i = false := by simp [pairOK, hti, h1]
      simp -implicitDefEqProofs [h1, fin hp]
  · have : i = m := by omega
    subst this
    rw [hm] at hall
    have he : seatsOK l = (decide (0 < l.length) && decide (l.length ≤ 4096)) := by unfold seatsOK; rw [hall]; rfl
    rw [he, ← hm]
    by_cases h1 : 0 < i
    · by_cases h2 : (i : Int) ≤ 4096
      · have h2' : i ≤ 4096 := by omega
        simp -implicitDefEqProofs [g0, h1, h2, h2']
      · have h2' : ¬ i ≤ 4096 := by omega
        simp -implicitDefEqProofs [g0, h1, h2, h2']
    · have : i = 0 := by omega
      subst this
      simp -implicitDefEqProofs [g0]
end Go.Proofs.Yth
