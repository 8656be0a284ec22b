import Derived.Test.YthglohpeijfcfaaAmV5
set_option linter.unusedVariables false
set_option linter.unusedSimpArgs false
set_option linter.unusedSectionVars false
namespace Go.Proofs.Yth
open Go Go.Am
set_option maxRecDepth 20000
set_option maxHeartbeats 2000000
theorem seat_one (xs : List SeatR) : (xs.flatMap seatC).all one = true := by
  rw [List.all_eq_true]; intro v hv
  obtain ⟨s, _, hs⟩ := List.mem_flatMap.1 hv
  simp [seatC] at hs
  rcases hs with rfl | rfl | rfl | rfl <;> rfl
theorem pole_one (xs : List PoleR) : (xs.flatMap poleC).all one = true := by
  rw [List.all_eq_true]; intro v hv
  obtain ⟨s, _, hs⟩ := List.mem_flatMap.1 hv
  simp [poleC] at hs
  rcases hs with rfl | rfl | rfl <;> rfl
theorem clone_ok (s : Value) (xs : List SeatR) (hl : xs.length ≤ 1073741824) (h : Heap) (hs : SeatS h s xs) : ACalls PP 21 [s] h (fun v h' => Ext h h' ∧ OwA 34 seatC h h' v xs) := by
  refine acalls_of_vc mix fn21 bodyEq21 rfl (by show 1 ≤ 8; decide) ok21 ?_
  simp only [body21, Try.f21]
  obtain ⟨ad, c, rfl, hn, hz⟩ := hs
  cases ad with
  | none =>
    have : xs = [] := by
      rcases hz with z | ⟨b, off, w, cells, rest, z, _⟩
      · exact z
      · simp at z
    subst this
    have := hn rfl
    subst this
    simp -implicitDefEqProofs
    exact ⟨Ext.rfl' h, OwA.nil⟩
  | some ad =>
    by_cases h0 : xs = []
    · subst h0
      simp -implicitDefEqProofs [opBuildSlice, opAppend, srcCells, maxA]
      exact ⟨(Ext.new h _).setOf (Nat.le_refl _) _ |>.newOf _, _, rfl, .inr ⟨_, rfl, by simp, by simp, by simp⟩⟩
    · obtain ⟨b, off, w, cells, rest, e, z2, z3, z4, z5⟩ : ∃ b off w cells rest, some ad = some (⟨b, off, none⟩ : Addr) ∧ h.f b = .row w 34 cells ∧ cells.drop off = xs.flatMap seatC ++ rest ∧ off ≤ cells.length ∧ b < h.n := by
        rcases hz with z | z
        · exact absurd z h0
        · exact z
      obtain rfl := Option.some.inj e
      obtain ⟨m, hm⟩ : ∃ m, m = xs.length := ⟨_, rfl⟩
      have hm0 : ¬ m = 0 := by rw [hm]; simpa using h0
      obtain ⟨F, hF⟩ : ∃ F, F = xs.flatMap seatC := ⟨_, rfl⟩
      have hFl : F.length = m * 4 := by rw [hF, flatA_len 4 seatC_len, hm]
      have hone := seat_one xs
      rw [← hF] at z3 hone
      have hlen : off + m * 4 ≤ cells.length := by
        have := congrArg List.length z3
        rw [List.length_drop, List.length_append, hFl] at this; omega
      have htk : (cells.drop off).take (m * 4) = F := by rw [z3, List.take_append_of_le_length (by omega), List.take_of_length_le (by omega)]
      have hbn : ¬ b = h.n := by omega
      have hmx : m * 32 ≤ 140737488355328 := by omega
      rw [← hm]
      simp -implicitDefEqProofs [opBuildSlice, opAppend, srcCells, maxA, hm0, hbn, z2, hlen, htk, hone, hmx]
      exact ⟨(Ext.new h _).setOf (Nat.le_refl _) _ |>.newOf _, _, by rw [hm], .inr ⟨_, rfl, by simp [hF], by simp, by simp⟩⟩
theorem cloneP_ok (s : Value) (xs : List PoleR) (hl : xs.length ≤ 1073741824) (h : Heap) (hs : PoleS h s xs) : ACalls PP 22 [s] h (fun v h' => Ext h h' ∧ OwA 39 poleC h h' v xs) := by
  refine acalls_of_vc mix fn22 bodyEq22 rfl (by show 1 ≤ 8; decide) ok22 ?_
  simp only [body22, Try.f22]
  obtain ⟨ad, c, rfl, hn, hz⟩ := hs
  cases ad with
  | none =>
    have : xs = [] := by
      rcases hz with z | ⟨b, off, w, cells, rest, z, _⟩
      · exact z
      · simp at z
    subst this
    have := hn rfl
    subst this
    simp -implicitDefEqProofs
    exact ⟨Ext.rfl' h, OwA.nil⟩
  | some ad =>
    by_cases h0 : xs = []
    · subst h0
      simp -implicitDefEqProofs [opBuildSlice, opAppend, srcCells, maxA]
      exact ⟨(Ext.new h _).setOf (Nat.le_refl _) _ |>.newOf _, _, rfl, .inr ⟨_, rfl, by simp, by simp, by simp⟩⟩
    · obtain ⟨b, off, w, cells, rest, e, z2, z3, z4, z5⟩ : ∃ b off w cells rest, some ad = some (⟨b, off, none⟩ : Addr) ∧ h.f b = .row w 39 cells ∧ cells.drop off = xs.flatMap poleC ++ rest ∧ off ≤ cells.length ∧ b < h.n := by
        rcases hz with z | z
        · exact absurd z h0
        · exact z
      obtain rfl := Option.some.inj e
      obtain ⟨m, hm⟩ : ∃ m, m = xs.length := ⟨_, rfl⟩
      have hm0 : ¬ m = 0 := by rw [hm]; simpa using h0
      obtain ⟨F, hF⟩ : ∃ F, F = xs.flatMap poleC := ⟨_, rfl⟩
      have hFl : F.length = m * 3 := by rw [hF, flatA_len 3 poleC_len, hm]
      have hone := pole_one xs
      rw [← hF] at z3 hone
      have hlen : off + m * 3 ≤ cells.length := by
        have := congrArg List.length z3
        rw [List.length_drop, List.length_append, hFl] at this; omega
      have htk : (cells.drop off).take (m * 3) = F := by rw [z3, List.take_append_of_le_length (by omega), List.take_of_length_le (by omega)]
      have hbn : ¬ b = h.n := by omega
      have hmx : m * 24 ≤ 140737488355328 := by omega
      rw [← hm]
      simp -implicitDefEqProofs [opBuildSlice, opAppend, srcCells, maxA, hm0, hbn, z2, hlen, htk, hone, hmx]
      exact ⟨(Ext.new h _).setOf (Nat.le_refl _) _ |>.newOf _, _, by rw [hm], .inr ⟨_, rfl, by simp [hF], by simp, by simp⟩⟩
/-! the closures of Norm -/
def cmpS (a b : SeatR) : Int := if lessS a b = true then -1 else if lessS b a = true then 1 else 0
theorem cmp_ok (a b : SeatR) (h : Heap) : ACalls PP 24 [seatV a, seatV b] h (fun v h' => h' = h ∧ v = .int .i64 (cmpS a b)) := by
  refine acalls_of_vc mix fn24 bodyEq24 rfl (by show 2 ≤ 13; decide) ok24 ?_
  simp only [body24, Try.f24]
  unfold cmpS
  have e1 : [Value.int .i64 a.row, .int .i64 a.x, .int .i64 a.y, .int .i64 a.kind] = seatC a := rfl
  simp -implicitDefEqProofs [seatV, seatC]
  refine (less_ok a b h).mono ?_
  rintro v h' ⟨rfl, rfl⟩
  simp -implicitDefEqProofs [callQ]
  intro _
  by_cases h1 : lessS a b = true
  · simp -implicitDefEqProofs [h1]
  · simp -implicitDefEqProofs [h1]
    refine (less_ok b a h').mono ?_
    rintro v h' ⟨rfl, rfl⟩
    simp -implicitDefEqProofs [callQ]
    intro _
    by_cases h2 : lessS b a = true
    · simp -implicitDefEqProofs [h2]
    · simp -implicitDefEqProofs [h2]
def atS (s x : SeatR) : Bool := decide (x.row = s.row) && decide (x.x = s.x)
theorem at_ok (s x : SeatR) (b : Nat) (w : Bool) (h : Heap) (hb : h.f b = .row w 34 (seatC s)) : ACalls PP 26 [seatV x, .pointer (some ⟨b, 0, none⟩)] h (fun v h' => h' = h ∧ v = .bool (atS s x)) := by
  refine acalls_of_vc mix fn26 bodyEq26 rfl (by show 2 ≤ 16; decide) ok26 ?_
  simp only [body26, Try.f26]
  unfold atS
  by_cases h1 : x.row = s.row
  · simp -implicitDefEqProofs [seatV, seatC, hb, h1]
  · simp -implicitDefEqProofs [seatV, seatC, hb, h1]
/-- the place of the first one that answers, or -1 -/
def findA {α : Type} (f : α → Bool) (l : List α) : Int := if l.any f = true then (l.findIdx f : Int) else -1
def J25 (s : Value) (fv : Value) (l : List SeatR) (p : SeatR → Bool) (m : Nat) (h : Heap) (n : Nat) (σ : St) : Prop := ∃ i : Nat, n = m - i ∧ i ≤ m ∧ σ.m.h = h ∧ σ.t.get 0 = some s ∧ σ.t.get 1 = some fv ∧ σ.t.get 7 = some (.int .i64 (m : Nat)) ∧ σ.t.get 8 = some (.int .i64 (i : Nat)) ∧ ∀ j t, j < i → l[j]? = some t → p t = false
theorem find_hit {α : Type} {p : α → Bool} {l : List α} {i : Nat} {t : α} (h : l[i]? = some t) (hp : p t = true) (hb : ∀ j t, j < i → l[j]? = some t → p t = false) : findA p l = i := by
  have hlt := (List.getElem?_eq_some_iff.mp h).1
  have hm : t ∈ l := List.mem_of_getElem? h
  have ha : l.any p = true := List.any_eq_true.2 ⟨t, hm, hp⟩
  unfold findA
  rw [if_pos ha]
  congr 1
  rw [List.findIdx_eq hlt]
  refine ⟨by rw [(List.getElem?_eq_some_iff.mp h).2]; exact hp, fun j hj => ?_⟩
  exact hb j _ hj (List.getElem?_eq_getElem (by omega))
theorem find_miss {α : Type} {p : α → Bool} {l : List α} (hb : ∀ j t, j < l.length → l[j]? = some t → p t = false) : findA p l = -1 := by
  unfold findA
  rw [if_neg]
  intro q
  obtain ⟨t, ht, hp⟩ := List.any_eq_true.1 q
  obtain ⟨j, hj, rfl⟩ := List.mem_iff_getElem.1 ht
  rw [hb j _ hj (List.getElem?_eq_getElem hj)] at hp
  cases hp
theorem indexF_ok (s : Value) (l : List SeatR) (t : SeatR) (b : Nat) (w : Bool) (hl : l.length ≤ 1073741824) (h : Heap) (hs : SeatS h s l) (hb : h.f b = .row w 34 (seatC t)) :
    ACalls PP 25 [s, .func (.func 26) #[] #[.pointer (some ⟨b, 0, none⟩)]] h (fun v h' => h' = h ∧ v = .int .i64 (findA (atS t) l)) := by
  refine acalls_of_vc mix fn25 bodyEq25 rfl (by show 2 ≤ 19; decide) ok25 ?_
  simp only [body25, Try.f25]
  obtain ⟨ad, c, rfl⟩ := hs.shape
  obtain ⟨m, hm⟩ : ∃ m, m = l.length := ⟨_, rfl⟩
  rw [← hm] at hs ⊢
  simp -implicitDefEqProofs
  refine vc_loop (J25 (.slice ad m c) (.func (.func 26) #[] #[.pointer (some ⟨b, 0, none⟩)]) l (atS t) m h) _ ⟨0, rfl, by omega, rfl, by simp, by simp, by simp, by simp, by omega⟩ ?_
  rintro n ⟨T, ⟨x, H⟩⟩ ⟨i, rfl, hi, hH, g0, g1, g7, g8, hall⟩
  simp at hH g0 g1 g7 g8
  subst hH
  simp -implicitDefEqProofs [g0, g1, g7, g8]
  refine condQ_of (fun hc => ?_) (fun hc => ?_) <;> simp only [decide_eq_true_eq, decide_eq_false_iff_not] at hc
  · have hil : i < m := by omega
    have hti : l[i]? = some l[i] := List.getElem?_eq_getElem (by omega)
    obtain ⟨_, b', o, wb, cs, r, rfl, hb', hd, hlc, _⟩ := hs.at 4 seatC_len hti
    obtain ⟨u, hu⟩ : ∃ u, u = l[i] := ⟨_, rfl⟩
    rw [← hu] at hd hti
    have w1 : IntKind.wrap .i64 ((i : Int) + 1) = ((i + 1 : Nat) : Int) := by rw [i64wrap (by omega)]; omega
    simp -implicitDefEqProofs [g0, g1, g7, g8, hil, hb', hd, hlc, seatC]
    refine (at_ok t u b w H hb).mono ?_
    rintro v h' ⟨rfl, rfl⟩
    simp -implicitDefEqProofs [callQ]
    intro _
    by_cases h1 : atS t u = true
    · simp -implicitDefEqProofs [h1, g0, g1, g7, g8]
      exact (find_hit hti h1 hall).symm
    · simp -implicitDefEqProofs [h1, g0, g1, g7, g8, w1]
      refine ⟨m - (i + 1), by omega, i + 1, rfl, by omega, rfl, by simp [g0], by simp [g1], by simp [g7], by simp, fun j z hj hz => ?_⟩
      rcases Nat.lt_or_ge j i with q | q
      · exact hall j z q hz
      · have : j = i := by omega
        subst this
        rw [hti] at hz
        obtain rfl := Option.some.inj hz
        simpa using h1
  · simp -implicitDefEqProofs [g0, g1, g7, g8]
    exact (find_miss (fun j z hj hz => hall j z (by omega) hz)).symm
end Go.Proofs.Yth
