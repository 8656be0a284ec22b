import Derived.Test.YthglohpeijfcfaaAmVa
set_option linter.unusedVariables false
set_option linter.unusedSimpArgs false
set_option linter.unusedSectionVars false
namespace Go.Proofs.Yth
open Go Go.Am
set_option maxRecDepth 20000
set_option maxHeartbeats 2000000
def seatN (i : Nat) : SeatR := ⟨((i / 1000 : Nat) : Int), ((i % 1000 : Nat) : Int), 0, 0⟩
def manyL (k : Nat) : List SeatR := (List.range k).map seatN
theorem manyL_len (k : Nat) : (manyL k).length = k := by simp [manyL]
theorem manyL_get (k i : Nat) (h : i < k) : (manyL k)[i]? = some (seatN i) := by simp [manyL, h]
theorem manyL_succ (k : Nat) : manyL (k + 1) = manyL k ++ [seatN k] := by simp [manyL, List.range_succ]
theorem many_pair (k i : Nat) (hk : k ≤ 5000) (h : i < k) : pairOK (manyL k) i = true := by
  unfold pairOK
  rw [manyL_get k i h]
  have h1 : seatOK (seatN i) = true := by
    simp only [seatOK, seatN, inB, Bool.and_eq_true, decide_eq_true_eq]
    exact ⟨⟨decide_eq_true (by omega), decide_eq_true (by omega)⟩, ⟨decide_eq_true (by omega), decide_eq_true (by omega)⟩, ⟨decide_eq_true (by omega), decide_eq_true (by omega)⟩, decide_eq_true (by omega), decide_eq_true (by omega)⟩
  simp only [h1, Bool.true_and]
  by_cases h0 : i = 0
  · simp [h0]
  · rw [manyL_get k (i - 1) (by omega)]
    have : lessS (seatN (i - 1)) (seatN i) = true := by
      rw [lessS_iff]; simp only [seatN]; omega
    simp [this]
theorem many_seats (k : Nat) (hk : k ≤ 5000) (h0 : 0 < k) : seatsOK (manyL k) = decide (k ≤ 4096) := by
  unfold seatsOK
  have : (List.range (manyL k).length).all (pairOK (manyL k)) = true := by
    rw [List.all_eq_true]; intro i hi
    rw [manyL_len] at hi
    exact many_pair k i hk (List.mem_range.1 hi)
  rw [this, manyL_len]
  simp [h0]
def manyV (k : Nat) : VenR := ⟨manyL k, 1, 0, [], []⟩
theorem many_wrong (k : Nat) (hk : k ≤ 5000) (h0 : 0 < k) : wrongV (manyV k) = if k ≤ 4096 then [] else [115, 101, 97, 116, 115] := by
  unfold wrongV manyV
  simp only [many_seats k hk h0]
  by_cases h : k ≤ 4096
  · rw [if_pos h]
    have e : decide (k ≤ 4096) = true := by simpa using h
    rw [e, if_neg (by decide)]
    rfl
  · rw [if_neg h]
    have e : decide (k ≤ 4096) = false := by simpa using h
    rw [e]; rfl
def J7m (k : Nat) (h : Heap) (n : Nat) (σ : St) : Prop := ∃ (i : Nat) (sv : Value), n = k - i ∧ i ≤ k ∧ Ext h σ.m.h ∧ OwA 34 seatC h σ.m.h sv (manyL i) ∧
  σ.t.get 3 = some (.int .i64 (k : Nat)) ∧ σ.t.get 4 = some (.pointer (some ⟨4, 0, some 0⟩)) ∧ σ.t.get 5 = some (.int .i64 (i : Nat)) ∧ σ.m.x.look 4 = some (26, [sv, .int .i64 1, .int .i64 0, .slice none 0 0, .slice none 0 0])
theorem many_ok (n : Int) (h : Heap) : ACalls PP 7 [.int .i64 n] h (fun v _ => v = .bool true) := by
  refine acalls_of_vc mix fn7 bodyEq7 rfl (by show 1 ≤ 43; decide) ok7 ?_
  simp only [body7, Try.f7]
  obtain ⟨q, hq⟩ : ∃ q : Int, q = n % 18446744073709551616 := ⟨_, rfl⟩
  obtain ⟨g, hg⟩ : ∃ g : Nat, g = (q % 5).toNat := ⟨_, rfl⟩
  obtain ⟨k, hk⟩ : ∃ k : Nat, k = 4094 + g := ⟨_, rfl⟩
  have e1 : IntKind.wrap .u64 n = q := by rw [u64wrap_mod, hq]
  have e2 : q.tmod 5 = (g : Int) := by rw [Int.tmod_eq_emod_of_nonneg (by omega)]; omega
  have hg5 : g < 5 := by omega
  have e3 : IntKind.wrap .i64 (g : Int) = (g : Int) := i64wrap (by omega)
  have e4 : IntKind.wrap .i64 (4094 + (g : Int)) = (k : Int) := by rw [i64wrap (by omega)]; omega
  have e5 : IntKind.wrap .u64 5 = 5 := u64wrap (by omega)
  have e6 : IntKind.wrap .u64 (g : Int) = (g : Int) := u64wrap (by omega)
  simp -implicitDefEqProofs [e1, e2, e3, e4, e5, e6]
  refine vc_loop (J7m k h) _ ⟨0, .slice none 0 0, rfl, by omega, Ext.rfl' h, OwA.nil, by simp, by simp, by simp, by simp⟩ ?_
  rintro m ⟨T, ⟨x, H⟩⟩ ⟨i, sv, rfl, hi, hE, hO, g3, g4, g5, x4⟩
  simp at hE hO g3 g4 g5 x4
  simp -implicitDefEqProofs [g3, g4, g5, x4]
  refine condQ_of (fun hc => ?_) (fun hc => ?_) <;> simp only [decide_eq_true_eq, decide_eq_false_iff_not] at hc
  · have hik : i < k := by omega
    have w1 : IntKind.wrap .i64 ((i : Int) + 1) = ((i + 1 : Nat) : Int) := by rw [i64wrap (by omega)]; omega
    have d1 : (i : Int).tdiv 1000 = ((i / 1000 : Nat) : Int) := by rw [Int.tdiv_eq_ediv_of_nonneg (by omega)]; omega
    have d2 : (i : Int).tmod 1000 = ((i % 1000 : Nat) : Int) := by rw [Int.tmod_eq_emod_of_nonneg (by omega)]; omega
    have hsn := manyL_succ i
    have hml := manyL_len i
    obtain ⟨r, hr⟩ : ∃ r : Nat, r = i / 1000 := ⟨_, rfl⟩
    obtain ⟨c, hcc⟩ : ∃ c : Nat, c = i % 1000 := ⟨_, rfl⟩
    rw [← hr] at d1
    rw [← hcc] at d2
    have d3 : IntKind.wrap .i64 (r : Int) = (r : Int) := i64wrap (by omega)
    have hse : seatC (seatN i) = [.int .i64 r, .int .i64 c, .int .i64 0, .int .i64 0] := by rw [hr, hcc]; rfl
    have hr4 : List.range 4 = [0, 1, 2, 3] := rfl
    obtain ⟨ad, esv, hz⟩ := hO
    rw [hml] at esv
    subst esv
    rcases hz with ⟨rfl, hz⟩ | ⟨b, rfl, hbb, hb3, hb4⟩
    · have hi0 : i = 0 := by have := congrArg List.length hz; rw [hml] at this; simpa using this
      have hsl : Value.slice none i i = Value.slice none 0 0 := by rw [hi0]
      simp only [hsl] at x4 ⊢
      simp -implicitDefEqProofs [g3, g4, g5, x4, d1, d2, d3, opAppend, srcCells, opBuildSlice, maxA, hr4, w1]
      refine ⟨k - (i + 1), by omega, i + 1, _, rfl, by omega, (hE.newOf _).newOf _, ⟨some ⟨H.n + 1, 0, none⟩, ?_, .inr ⟨H.n + 1, rfl, ?_, ?_, by simp⟩⟩, by simp, by simp, by simp, by simp; rfl⟩
      · rw [manyL_len, hi0]
      · rw [hsn, hz]; simp [hse]
      · have := hE.n; omega
    · have hbn : ¬ b = H.n := by omega
      have hmx : (i + 1) * 32 ≤ 140737488355328 := by omega
      obtain ⟨F, hF⟩ : ∃ F, F = (manyL i).flatMap seatC := ⟨_, rfl⟩
      have hFl : F.length = i * 4 := by rw [hF, flatA_len 4 seatC_len, hml]
      rw [← hF] at hbb
      have e8 : F.take (i * 4) = F := List.take_of_length_le (by omega)
      simp -implicitDefEqProofs [g3, g4, g5, x4, d1, d2, d3, opAppend, srcCells, opBuildSlice, maxA, hr4, w1, hbn, hbb, hFl, hmx, e8]
      refine ⟨k - (i + 1), by omega, i + 1, _, rfl, by omega, ((hE.newOf _).setOf hb3 _).newOf _, ⟨some ⟨H.n + 1, 0, none⟩, ?_, .inr ⟨H.n + 1, rfl, ?_, ?_, by simp⟩⟩, by simp, by simp, by simp, by simp; rfl⟩
      · rw [manyL_len]
      · rw [hsn]; simp [hse, hF]
      · have := hE.n; omega
  · have hik : i = k := by omega
    subst hik
    have hml := manyL_len i
    have hvc : VenC H (manyV i) [sv, .int .i64 1, .int .i64 0, .slice none 0 0, .slice none 0 0] := ⟨_, _, _, rfl, hO.sl, SlA.nil, SlA.nil⟩
    obtain ⟨ad, esv, hz⟩ := hO
    rw [hml] at esv
    subst esv
    have hsm : venSmall (manyV i) := ⟨by show (manyL i).length ≤ _; omega, by show (0 : Nat) ≤ _; omega, by show (0 : Nat) ≤ _; omega⟩
    have hw := many_wrong i (by omega) (by omega)
    simp -implicitDefEqProofs [g3, g4, g5, x4]
    refine (told_ok H).mono ?_
    rintro v h2 ⟨E2, rfl⟩
    simp -implicitDefEqProofs [callQ]
    intro _
    refine (may_ok (manyV i) _ hsm h2 (hvc.ext E2)).mono ?_
    rintro v h3 ⟨rfl, rfl⟩
    by_cases hle : i ≤ 4096
    · rw [if_pos hle] at hw
      have hm : mayV (manyV i) = true := by unfold mayV; rw [hw]; rfl
      have hle' : (i : Int) ≤ 4096 := by omega
      have hgt : ¬ (4096 : Int) < (i : Int) := by omega
      rw [hm]
      simp -implicitDefEqProofs [callQ, hle']
      intro _
      try simp -implicitDefEqProofs [hle', hgt]
      refine (wrong_ok (manyV i) _ hsm h3 (hvc.ext E2)).mono ?_
      rintro v h4 ⟨rfl, rfl⟩
      rw [hw]
      simp -implicitDefEqProofs [callQ, hle', hgt]
    · rw [if_neg hle] at hw
      have hm : mayV (manyV i) = false := by unfold mayV; rw [hw]; rfl
      have hle' : ¬ (i : Int) ≤ 4096 := by omega
      have hgt : (4096 : Int) < (i : Int) := by omega
      rw [hm]
      simp -implicitDefEqProofs [callQ, hle']
      intro _
      try simp -implicitDefEqProofs [hle', hgt]
      refine (wrong_ok (manyV i) _ hsm h3 (hvc.ext E2)).mono ?_
      rintro v h4 ⟨rfl, rfl⟩
      rw [hw]
      simp -implicitDefEqProofs [callQ, hle', hgt]
end Go.Proofs.Yth
