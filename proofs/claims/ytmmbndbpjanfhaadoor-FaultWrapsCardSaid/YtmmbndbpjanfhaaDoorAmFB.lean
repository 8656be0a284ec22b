import Derived.Test.YtmmbndbpjanfhaaDoorAmFA
set_option linter.unusedVariables false
set_option linter.unusedSimpArgs false
set_option linter.unusedSectionVars false
namespace Go.Proofs.Flt
open Go Go.Am
set_option maxRecDepth 20000
set_option maxHeartbeats 4000000
def depL (c l m : Int) : Nat → List FR
  | 0 => [⟨c, l, m⟩]
  | i + 1 => ⟨c + (i : Int) + 1, 0, 0⟩ :: depL c l m i
theorem depL_ne (c l m : Int) (i : Nat) : ∃ f r, depL c l m i = f :: r := by cases i <;> exact ⟨_, _, rfl⟩
theorem depL_len (c l m : Int) (i : Nat) : (depL c l m i).length = i + 1 := by
  induction i with
  | zero => rfl
  | succ i ih => simp [depL, ih]
theorem depL_spot (c l m : Int) (hl : l ≠ 0) (i : Nat) : spotL (depL c l m i) = (l, m) := by
  induction i with
  | zero => exact spotL_one _
  | succ i ih => simp only [depL, spotL]; rw [if_neg (by simp [hasS])]; exact ih
theorem depL_in (c l m : Int) (i : Nat) : c ∈ (depL c l m i).map (·.code) := by
  induction i with
  | zero => simp [depL]
  | succ i ih => simp only [depL, List.map_cons, List.mem_cons]; exact .inr ih
theorem depL_out (c l m : Int) (i : Nat) (x : Int) (hx : c + i < x) : x ∉ (depL c l m i).map (·.code) := by
  induction i with
  | zero => simp [depL]; omega
  | succ i ih =>
    simp only [depL, List.map_cons, List.mem_cons, not_or]
    exact ⟨by omega, ih (by omega)⟩
theorem depL_InF (c l m : Int) (hc : 1 ≤ c ∧ c ≤ 100) (hl : InR l) (hm : InR m) (i : Nat) (hi : i ≤ 51) : ∀ f ∈ depL c l m i, InF f := by
  induction i with
  | zero => intro f hf; simp [depL] at hf; subst hf; exact ⟨show InR c from ⟨by omega, by omega⟩, hl, hm⟩
  | succ i ih =>
    intro f hf
    simp only [depL, List.mem_cons] at hf
    rcases hf with rfl | hf
    · refine ⟨⟨?_, ?_⟩, ⟨?_, ?_⟩, ⟨?_, ?_⟩⟩ <;> simp <;> omega
    · exact ih (by omega) f hf
theorem join_ge (x : List UInt8) (r : List (List UInt8)) (s : List UInt8) : x.length ≤ (Lib.join (x :: r) s).length := by
  rw [Lib.join_cons, List.length_append]; omega
theorem joinTail_cons (s x : List UInt8) (r : List (List UInt8)) : Lib.joinTail s (x :: r) = s ++ x ++ Lib.joinTail s r := by simp [Lib.joinTail]
theorem textL_len (c l m : Int) (i : Nat) : (Lib.itoa c).length < (textL (depL c l m i)).length := by
  induction i with
  | zero => simp only [depL, textL_one, txtF]; simp; omega
  | succ i ih =>
    obtain ⟨f, r, e⟩ := depL_ne c l m i
    simp only [depL, textL, List.map_cons] at ih ⊢
    rw [e] at ih ⊢
    simp only [List.map_cons] at ih ⊢
    rw [Lib.join_cons, joinTail_cons]
    rw [Lib.join_cons] at ih
    simp only [List.length_append] at ih ⊢
    omega
theorem codeL_dep (c l m : Int) (i : Nat) : codeL (depL c l m (i + 1)) = c + (i : Int) + 1 := rfl
def J6 (h : Heap) (k : Nat) (c l mm : Int) (m : Nat) (σ : St) : Prop := ∃ (i : Nat) (E : Value), m = k - i ∧ i ≤ k ∧ Ext h σ.m.h ∧ ChA σ.m.h σ.m.h.n E (depL c l mm i) ∧
  σ.t.get 9 = some (.int .i64 (k : Nat)) ∧ σ.t.get 10 = some (.int .i64 c) ∧ σ.t.get 11 = some E ∧ σ.t.get 12 = some (.pointer (some ⟨12, 0, some 0⟩)) ∧ σ.t.get 13 = some (.int .i64 (i : Nat)) ∧ σ.m.x.look 12 = some (31, [.int .i64 l, .int .i64 mm])
theorem modN (x : Int) (q : Nat) (hq : 0 < q) : ∃ k : Nat, (x % 18446744073709551616).tmod (q : Int) = (k : Int) ∧ k < q := by
  refine ⟨((x % 18446744073709551616) % (q : Int)).toNat, ?_, ?_⟩
  · rw [Int.tmod_eq_emod_of_nonneg (by omega)]
    have := Int.emod_nonneg (x % 18446744073709551616) (b := (q : Int)) (by omega)
    omega
  · have := Int.emod_nonneg (x % 18446744073709551616) (b := (q : Int)) (by omega)
    have := Int.emod_lt_of_pos (x % 18446744073709551616) (b := (q : Int)) (by omega)
    omega
theorem depthLaw_ok (n a l c : Int) (h : Heap) (G : GlobOK h) : ACalls PP 6 [.int .i64 n, .int .i64 a, .int .i64 l, .int .i64 c] h (fun v h' => Ext h h' ∧ v = .bool true) := by
  refine acalls_of_vc mix fn6 bodyEq6 rfl (by show 4 ≤ 101; decide) ok6 ?_
  simp only [body6, Tryd.f6]
  obtain ⟨k, hk, hk1⟩ := modN n 51 (by decide)
  obtain ⟨q, hq, hq1⟩ := modN a 100 (by decide)
  obtain ⟨y, hy, hy1⟩ := modN l 1000 (by decide)
  obtain ⟨z, hz, hz1⟩ := modN c 1000 (by decide)
  have wk : IntKind.wrap .i64 (k : Int) = (k : Int) := i64wrap (by omega)
  have wq : IntKind.wrap .i64 (q : Int) = (q : Int) := i64wrap (by omega)
  have wy : IntKind.wrap .i64 (y : Int) = (y : Int) := i64wrap (by omega)
  have wz : IntKind.wrap .i64 (z : Int) = (z : Int) := i64wrap (by omega)
  have uk : IntKind.wrap .u64 (k : Int) = (k : Int) := u64wrap (by omega)
  have uq : IntKind.wrap .u64 (q : Int) = (q : Int) := u64wrap (by omega)
  have uy : IntKind.wrap .u64 (y : Int) = (y : Int) := u64wrap (by omega)
  have uz : IntKind.wrap .u64 (z : Int) = (z : Int) := u64wrap (by omega)
  obtain ⟨C, hC⟩ : ∃ C : Int, C = 1 + q := ⟨_, rfl⟩
  obtain ⟨Y, hY⟩ : ∃ C : Int, C = 1 + y := ⟨_, rfl⟩
  obtain ⟨Z, hZ⟩ : ∃ C : Int, C = 1 + z := ⟨_, rfl⟩
  have pq : IntKind.wrap .i64 (1 + (q : Int)) = C := by rw [hC]; exact i64wrap (by omega)
  have py : IntKind.wrap .i64 (1 + (y : Int)) = Y := by rw [hY]; exact i64wrap (by omega)
  have pz : IntKind.wrap .i64 (1 + (z : Int)) = Z := by rw [hZ]; exact i64wrap (by omega)
  simp at hk hq hy hz
  simp -implicitDefEqProofs [u64wrap_mod, hk, hq, hy, hz, wk, wq, wy, wz, uk, uq, uy, uz, pq, py, pz]
  have b1 : (1 : Int) ≤ C ∧ C ≤ 100 := by omega
  have b2 : (1 : Int) ≤ Y ∧ Y ≤ 1000 := by omega
  have b3 : (1 : Int) ≤ Z ∧ Z ≤ 1000 := by omega
  have nC : ¬ C ≤ 0 := by omega
  have mY : mx0 Y = Y := by unfold mx0; rw [if_neg (by omega)]
  have mZ : mx0 Z = Z := by unfold mx0; rw [if_neg (by omega)]
  refine (new_ok C Y Z h).mono ?_
  rintro ve H1 ⟨E1, C1⟩
  have G1 := G.ext E1
  rw [if_neg nC, mY, mZ] at C1
  obtain ⟨be, rfl⟩ := one_shape C1
  have hs0 : spotL [(⟨C, Y, Z⟩ : FR)] = (Y, Z) := spotL_one _
  clear hC hY hZ pq py pz hq hy hz
  simp -implicitDefEqProofs [callQ]
  intro _
  refine (spot_ok _ _ (by simp) H1 G1 C1).mono ?_
  rintro r H2 ⟨E2, rfl⟩
  have G2 := G1.ext E2; have C2 := C1.ext E2
  rw [hs0]
  simp -implicitDefEqProofs [callQ]
  intro _
  refine vc_loop (J6 h k C Y Z) k ⟨0, _, rfl, by omega, E1.trans E2, C2, by simp, by simp, by simp, by simp, by simp, by simp⟩ ?_
  rintro m ⟨T, ⟨x, H3⟩⟩ ⟨i, E, rfl, hi, E3, C3, g9, g10, g11, g12, g13, x12⟩
  simp at E3 C3 g9 g10 g11 g12 g13 x12
  have G3 := G.ext E3
  simp -implicitDefEqProofs [g9, g10, g11, g12, g13, x12]
  refine condQ_of (fun hc => ?_) (fun hc => ?_) <;> simp only [decide_eq_true_eq, decide_eq_false_iff_not] at hc
  · have w1 : IntKind.wrap .i64 (C + (i : Int)) = C + (i : Int) := i64wrap (by omega)
    obtain ⟨D, hD⟩ : ∃ D : Int, D = C + (i : Int) + 1 := ⟨_, rfl⟩
    have w2 : IntKind.wrap .i64 (C + (i : Int) + 1) = D := by rw [hD]; exact i64wrap (by omega)
    have w3 : IntKind.wrap .i64 (C + (i : Int) + 2) = D + 1 := by rw [i64wrap (by omega)]; omega
    obtain ⟨e2, he2⟩ : ∃ D : Int, D = (i : Int) + 2 := ⟨_, rfl⟩
    have w4 : IntKind.wrap .i64 ((i : Int) + 2) = e2 := by rw [he2]; exact i64wrap (by omega)
    have w5 : IntKind.wrap .i64 ((i : Int) + 1) = ((i + 1 : Nat) : Int) := by rw [i64wrap (by omega)]; omega
    have hnl : noLoc E = true := by rcases C3.shape with ⟨rfl, _⟩ | ⟨b, f, E', r, rfl, _⟩ <;> rfl
    have hnl2 := hnl
    simp only [noLoc, locOf, Option.isNone_iff_eq_none] at hnl2
    have hdl : depL C Y Z (i + 1) = ⟨D, 0, 0⟩ :: depL C Y Z i := by rw [hD]; rfl
    have cW := wrap_ok E (depL C Y Z i) D H3 C3
    rw [if_neg (by omega), ← hdl] at cW
    have nlen : ((depL C Y Z (i + 1)).length : Int) = e2 := by rw [depL_len, he2]; omega
    have ncode : codeL (depL C Y Z (i + 1)) = D := by rw [hdl]; rfl
    have nspot := depL_spot C Y Z (by omega) (i + 1)
    have nin : (decide ((0 : Int) < C) && decide (C ∈ (depL C Y Z (i + 1)).map (·.code))) = true := by simp [depL_in]; omega
    have nout : (decide ((0 : Int) < D + 1) && decide (D + 1 ∈ (depL C Y Z (i + 1)).map (·.code))) = false := by
      rw [decide_eq_false (depL_out C Y Z (i + 1) (D + 1) (by omega))]; simp
    have nl1000 : (depL C Y Z (i + 1)).length ≤ 1000 := by rw [depL_len]; omega
    obtain ⟨L, hL⟩ : ∃ L, L = depL C Y Z (i + 1) := ⟨_, rfl⟩
    have hne : L ≠ [] := by rw [hL, hdl]; simp
    rw [← hL] at cW nlen ncode nspot nin nout nl1000
    simp -implicitDefEqProofs [g9, g10, g11, g12, g13, x12, hc, w1, w2, hnl, hnl2]
    refine cW.mono ?_
    rintro r H4 ⟨E4, C4⟩
    have G4 := G3.ext E4
    obtain ⟨b4, rfl⟩ := ch_shape C4 hne
    simp -implicitDefEqProofs [callQ, g9, g10, g11, g12, g13, x12]
    intro _
    refine (depth_ok _ _ nl1000 H4 G4 C4).mono ?_
    rintro r H5 ⟨E5, rfl⟩
    have G5 := G4.ext E5; have C5 := C4.ext E5
    rw [nlen]
    simp -implicitDefEqProofs [callP, g9, g10, g11, g12, g13, x12, w4]
    intro _
    refine (code_ok _ _ H5 G5 C5).mono ?_
    rintro r H6 ⟨E6, rfl⟩
    have G6 := G5.ext E6; have C6 := C5.ext E6
    rw [ncode]
    simp -implicitDefEqProofs [callP, g9, g10, g11, g12, g13, x12, w1, w2]
    intro _
    refine (spot_ok _ _ nl1000 H6 G6 C6).mono ?_
    rintro r H7 ⟨E7, rfl⟩
    have G7 := G6.ext E7; have C7 := C6.ext E7
    rw [nspot]
    simp -implicitDefEqProofs [callP, g9, g10, g11, g12, g13, x12]
    intro _
    refine (isF_ok _ _ C H7 G7 C7).mono ?_
    rintro r H8 ⟨E8, rfl⟩
    have G8 := G7.ext E8; have C8 := C7.ext E8
    rw [nin]
    simp -implicitDefEqProofs [callP, g9, g10, g11, g12, g13, x12, w1, w3]
    intro _
    refine (isF_ok _ _ (D + 1) H8 G8 C8).mono ?_
    rintro r H9 ⟨E9, rfl⟩
    have G9 := G8.ext E9; have C9 := C8.ext E9
    rw [nout]
    simp -implicitDefEqProofs [callP, g9, g10, g11, g12, g13, x12, w5]
    intro _
    exact ⟨k - (i + 1), by omega, i + 1, _, rfl, by omega, (((((E3.trans E4).trans E5).trans E6).trans E7).trans E8).trans E9, by rw [← hL]; exact C9, by simp, by simp, by simp, by simp, by simp, by simp [x12]⟩
  · have hik : i = k := by omega
    subst hik
    obtain ⟨be, rfl⟩ := ch_shape C3 (by obtain ⟨f, r, e⟩ := depL_ne C Y Z i; rw [e]; simp)
    obtain ⟨e1, he1⟩ : ∃ D : Int, D = (i : Int) + 1 := ⟨_, rfl⟩
    have w4 : IntKind.wrap .i64 ((i : Int) + 1) = e1 := by rw [he1]; exact i64wrap (by omega)
    have nlen : ((depL C Y Z i).length : Int) = e1 := by rw [depL_len, he1]; omega
    have nl1000 : (depL C Y Z i).length ≤ 1000 := by rw [depL_len]; omega
    have nInF := depL_InF C Y Z b1 ⟨by omega, by omega⟩ ⟨by omega, by omega⟩ i (by omega)
    have ntx := textL_len C Y Z i
    have hdc := fun H => decimal_ok C ⟨by omega, by omega⟩ H
    obtain ⟨tC, htC⟩ : ∃ t, t = Lib.itoa C := ⟨_, rfl⟩
    obtain ⟨tX, htX⟩ : ∃ t, t = textL (depL C Y Z i) := ⟨_, rfl⟩
    have cT := fun H' G' C' => text_ok (.iface 41 (.pointer (some ⟨be, 0, none⟩))) (depL C Y Z i) nl1000 nInF H' G' C'
    rw [← htC, ← htX] at ntx
    rw [← htC] at hdc
    rw [← htX] at cT
    simp -implicitDefEqProofs [g9, g10, g11, g12, g13, x12]
    refine (told_ok H3 G3).mono ?_
    rintro r H4 ⟨E4, rfl⟩
    have G4 := G3.ext E4; have C4 := C3.ext E4
    simp -implicitDefEqProofs [callQ, g9, g10, g11, g12, g13, x12]
    intro _
    refine (depth_ok _ _ nl1000 H4 G4 C4).mono ?_
    rintro r H5 ⟨E5, rfl⟩
    have G5 := G4.ext E5; have C5 := C4.ext E5
    rw [nlen]
    simp -implicitDefEqProofs [callQ, g9, g10, g11, g12, g13, x12, w4]
    intro _
    refine (cT H5 G5 C5).mono ?_
    rintro r H6 ⟨E6, rfl⟩
    have G6 := G5.ext E6; have C6 := C5.ext E6
    simp -implicitDefEqProofs [callQ, g9, g10, g11, g12, g13, x12]
    intro _
    refine (hdc H6).mono ?_
    rintro r H7 ⟨e, rfl⟩
    replace e := e.symm
    subst e
    simp -implicitDefEqProofs [callQ, g9, g10, g11, g12, g13, x12, ntx]
    intro _
    exact ((E3.trans E4).trans E5).trans E6
end Go.Proofs.Flt
