import Derived.Test.YtfcllalhfcmfdaaAmTB
set_option linter.unusedVariables false
set_option linter.unusedSimpArgs false
set_option linter.unusedSectionVars false
namespace Go.Proofs.Ytf
open Go Go.Am
set_option maxRecDepth 20000
set_option linter.unusedSimpArgs false
set_option maxHeartbeats 2000000
/-! the document's own answer: one byte -/
theorem rletter_ok (b : UInt8) (h : Heap) : ACalls PP 25 [.int .u8 b.toNat] h (fun v h' => h' = h ∧ v = .bool (decide (kindV b.toNat = 4))) := by
  refine acalls_of_vc mix fn25 bodyEq25 rfl (by show 1 ≤ 9; decide) ok25 ?_
  simp only [body25, Try.f25]
  have hk : kindV b.toNat = 4 ↔ 97 ≤ b.toNat ∧ b.toNat ≤ 122 := by simp only [kindV]; (repeat' split) <;> omega
  by_cases h1 : (97 : Int) ≤ (b.toNat : Int)
  · by_cases h2 : (b.toNat : Int) ≤ (122 : Int)
    · have : kindV b.toNat = 4 := by rw [hk]; omega
      simp [h1, h2, this]
    · have : ¬ kindV b.toNat = 4 := by rw [hk]; omega
      simp [h1, h2, this]
  · have : ¬ kindV b.toNat = 4 := by rw [hk]; omega
    simp [h1, this]
theorem rdigit_ok (b : UInt8) (h : Heap) : ACalls PP 26 [.int .u8 b.toNat] h (fun v h' => h' = h ∧ v = .bool (decide (kindV b.toNat = 5))) := by
  refine acalls_of_vc mix fn26 bodyEq26 rfl (by show 1 ≤ 9; decide) ok26 ?_
  simp only [body26, Try.f26]
  have hk : kindV b.toNat = 5 ↔ 48 ≤ b.toNat ∧ b.toNat ≤ 57 := kind_digit
  by_cases h1 : (48 : Int) ≤ (b.toNat : Int)
  · by_cases h2 : (b.toNat : Int) ≤ (57 : Int)
    · have : kindV b.toNat = 5 := by rw [hk]; omega
      simp [h1, h2, this]
    · have : ¬ kindV b.toNat = 5 := by rw [hk]; omega
      simp [h1, h2, this]
  · have : ¬ kindV b.toNat = 5 := by rw [hk]; omega
    simp [h1, this]
theorem rblank_ok (b : UInt8) (h : Heap) : ACalls PP 29 [.int .u8 b.toNat] h (fun v h' => h' = h ∧ v = .bool (decide (kindV b.toNat = 1))) := by
  refine acalls_of_vc mix fn29 bodyEq29 rfl (by show 1 ≤ 13; decide) ok29 ?_
  simp only [body29, Try.f29]
  have hk : kindV b.toNat = 1 ↔ b.toNat = 32 ∨ b.toNat = 9 ∨ b.toNat = 13 := by simp only [kindV]; (repeat' split) <;> omega
  by_cases h1 : (b.toNat : Int) = 32
  · have : kindV b.toNat = 1 := by rw [hk]; omega
    simp [h1, this]
  · by_cases h2 : (b.toNat : Int) = 9
    · have : kindV b.toNat = 1 := by rw [hk]; omega
      simp [h1, h2, this]
    · by_cases h3 : (b.toNat : Int) = 13
      · have : kindV b.toNat = 1 := by rw [hk]; omega
        simp [h1, h2, h3, this]
      · have : ¬ kindV b.toNat = 1 := by rw [hk]; omega
        simp [h1, h2, h3, this]
def J23 (l : List UInt8) (a : Nat) (h : Heap) (n : Nat) (σ : St) : Prop := ∃ b, n = l.length - b ∧ b ≤ l.length ∧ σ.t.get 0 = some (.string (B l)) ∧ σ.t.get 1 = some (.int .i64 (b : Nat)) ∧ σ.m.h = h ∧ b + skipL false (l.drop b) = a + skipL false (l.drop a)
def J23r (l : List UInt8) (a : Nat) (h : Heap) (n : Nat) (σ : St) : Prop := ∃ b, n = l.length - b ∧ b ≤ l.length ∧ σ.t.get 0 = some (.string (B l)) ∧ σ.t.get 1 = some (.int .i64 (b : Nat)) ∧ σ.m.h = h ∧ b + skipL true (l.drop b) = a + skipL false (l.drop a)
theorem rskip_ok (l : List UInt8) (a : Nat) (ha : a ≤ l.length) (hl : l.length ≤ 1073741824) (h : Heap) : ACalls PP 23 [.string (B l), .int .i64 a] h (fun v h' => h' = h ∧ v = .int .i64 ((a + skipL false (l.drop a) : Nat) : Int)) := by
  refine acalls_of_vc mix fn23 bodyEq23 rfl (by show 2 ≤ 40; decide) ok23 ?_
  simp only [body23, Try.f23]
  simp
  refine vc_loop (J23 l a h) _ ⟨a, rfl, ha, by simp, by simp, rfl, rfl⟩ ?_
  rintro n ⟨T, ⟨x, H⟩⟩ ⟨b, rfl, hb, g0, g1, rfl, hr⟩
  simp at g0 g1
  simp [g0, g1]
  refine guardQ_of (fun hc => ?_) (fun hc => ?_) <;> simp only [decide_eq_true_eq, decide_eq_false_iff_not] at hc
  · have hbl : b < l.length := by omega
    have hc' : l[b]? = some l[b] := List.getElem?_eq_getElem hbl
    have hd := drop_get hc'
    simp [g0, g1, hc, hc', hbl]
    refine (rblank_ok _ _).mono ?_
    rintro v h'' ⟨rfl, rfl⟩
    simp [callQ, g0, g1]
    intro _
    by_cases hk : kindV l[b].toNat = 1
    · have hw : IntKind.wrap .i64 ((b : Int) + 1) = ((b + 1 : Nat) : Int) := by rw [i64wrap (by omega)]; omega
      rw [hd, skipL, if_pos hk] at hr
      simp [hk, g0, g1, hw, hbl]
      exact ⟨l.length - (b + 1), by omega, b + 1, rfl, by omega, by simp [g0], by simp, rfl, by omega⟩
    · rw [hd, skipL, if_neg hk] at hr
      simp [hk, g0, g1, hbl, hc']
      by_cases hq : l[b].toNat = 35
      · have hk2 : kindV l[b].toNat = 2 := by rw [kind_remark]; omega
        rw [if_pos hk2] at hr
        simp [hq]
        have hr2 : b + skipL true (l.drop b) = a + skipL false (l.drop a) := by rw [hd, skipL, if_neg (by omega)]; omega
        clear hr hd hc'
        refine vc_loop (J23r l a h'') _ ⟨b, rfl, by omega, by simp [g0], by simp [g1], rfl, hr2⟩ ?_
        clear g0 g1
        rintro n ⟨T, ⟨x, H'⟩⟩ ⟨b, rfl, hb, g0, g1, hH, hr⟩
        simp at g0 g1 hH
        subst hH
        simp [g0, g1]
        by_cases hc : b < l.length
        · have hc' : l[b]? = some l[b] := List.getElem?_eq_getElem hc
          have hd := drop_get hc'
          have hw : IntKind.wrap .i64 ((b : Int) + 1) = ((b + 1 : Nat) : Int) := by rw [i64wrap (by omega)]; omega
          rw [hd, skipL] at hr
          by_cases h10 : l[b].toNat = 10
          · rw [if_pos h10] at hr
            simp [g0, g1, hc, hc', h10]
            omega
          · rw [if_neg h10] at hr
            have h10' : ¬ (l[b].toNat : Int) = 10 := by omega
            simp [g0, g1, hc, hc', h10', hw]
            exact ⟨l.length - (b + 1), by omega, b + 1, rfl, by omega, by simp [g0], by simp, rfl, by omega⟩
        · rw [drop_end hc, skipL] at hr
          simp [g0, g1, hc]
          omega
      · have hk2 : ¬ kindV l[b].toNat = 2 := by rw [kind_remark]; omega
        rw [if_neg hk2] at hr
        have hq' : ¬ (l[b].toNat : Int) = 35 := by omega
        simp [hq', g0, g1]
        omega
  · rw [drop_end (by omega), skipL] at hr
    have hbl : ¬ b < l.length := by omega
    simp [g0, g1, hbl]
    omega
end Go.Proofs.Ytf
