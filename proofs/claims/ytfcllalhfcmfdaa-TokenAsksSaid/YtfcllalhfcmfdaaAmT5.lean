import Derived.Test.YtfcllalhfcmfdaaAmT4
set_option linter.unusedVariables false
set_option linter.unusedSimpArgs false
set_option linter.unusedSectionVars false
namespace Go.Proofs.Ytf
open Go Go.Am
set_option maxRecDepth 20000
set_option linter.unusedSimpArgs false
/-- blanks and remarks; true: within a remark -/
def skipL : Bool → List UInt8 → Nat
  | _, [] => 0
  | true, c :: r => if c.toNat = 10 then 0 else skipL true r + 1
  | false, c :: r => if kindV c.toNat = 1 then skipL false r + 1 else if kindV c.toNat = 2 then skipL true r + 1 else 0
theorem drop_get {a : Nat} {l : List UInt8} {c : UInt8} (hc : l[a]? = some c) : l.drop a = c :: l.drop (a + 1) := by
  rw [List.getElem?_eq_some_iff] at hc
  obtain ⟨ha, hc⟩ := hc
  rw [List.drop_eq_getElem_cons ha, hc]
theorem drop_end {a : Nat} {l : List UInt8} (h : ¬ a < l.length) : l.drop a = [] := List.drop_eq_nil_of_le (by omega)
theorem kind_remark {b : Nat} : kindV b = 2 ↔ b = 35 := by simp only [kindV]; (repeat' split) <;> omega
def J18 (l : List UInt8) (a : Nat) (h : Heap) (n : Nat) (σ : St) : Prop := ∃ b, n = l.length - b ∧ σ.t.get 0 = some (.string (B l)) ∧ σ.t.get 1 = some (.int .i64 (b : Nat)) ∧ σ.m.h = h ∧ b + skipL false (l.drop b) = a + skipL false (l.drop a)
def J18r (l : List UInt8) (a : Nat) (h : Heap) (n : Nat) (σ : St) : Prop := ∃ b, n = l.length - b ∧ a ≤ b ∧ σ.t.get 0 = some (.string (B l)) ∧ σ.t.get 1 = some (.int .i64 (b : Nat)) ∧ σ.m.h = h ∧ b + skipL true (l.drop b) = a + skipL true (l.drop a)
theorem skip_ok (l : List UInt8) (a : Nat) (hl : l.length ≤ 1073741824) (h : Heap) : ACalls PP 18 [.string (B l), .int .i64 a] h (fun v h' => h' = h ∧ v = .int .i64 ((a + skipL false (l.drop a) : Nat) : Int)) := by
  refine acalls_of_vc mix fn18 bodyEq18 rfl (by show 2 ≤ 33; decide) ok18 ?_
  simp only [body18, Try.f18]
  simp
  refine vc_loop (J18 l a h) _ ⟨a, rfl, by simp, by simp, rfl, rfl⟩ ?_
  rintro n ⟨t, ⟨x, h'⟩⟩ ⟨b, rfl, h0, h1, rfl, hr⟩
  simp at h0 h1
  simp [h0, h1]
  refine condQ_of (fun hc => ?_) (fun hc => ?_) <;> simp only [decide_eq_true_eq, decide_eq_false_iff_not] at hc
  · have hb : b < l.length := by omega
    have hc' : l[b]? = some l[b] := List.getElem?_eq_getElem hb
    have hd := drop_get hc'
    simp [h0, h1, hc']
    refine (kind_ok _ _).mono ?_
    rintro v h'' ⟨rfl, rfl⟩
    simp [h0, h1, hc', callQ]
    intro _
    refine condQ_of (fun hk => ?_) (fun hk => ?_) <;> simp only [decide_eq_true_eq, decide_eq_false_iff_not] at hk
    · have hw : IntKind.wrap .i64 ((b : Int) + 1) = ((b + 1 : Nat) : Int) := by rw [i64wrap (by omega)]; omega
      simp [hw, h0]
      rw [hd, skipL, if_pos (by omega)] at hr
      exact ⟨l.length - (b + 1), by omega, b + 1, by omega, by simp [h0], by simp, rfl, by omega⟩
    · simp [h0]
      refine condQ_of (fun hk2 => ?_) (fun hk2 => ?_) <;> simp only [decide_eq_true_eq, decide_eq_false_iff_not] at hk2
      · simp
        have h35 := kind_remark.1 (show kindV l[b].toNat = 2 by omega)
        refine vc_loop (J18r l b h'') _ ⟨b, rfl, Nat.le_refl _, by simp [h0], by simp, rfl, rfl⟩ ?_
        rintro n ⟨t, ⟨x, h'⟩⟩ ⟨c, rfl, hbc, h0, h1, rfl, hr2⟩
        simp at h0 h1
        rw [hd, skipL, if_neg (by omega), if_pos (by omega)] at hr
        have hr3 : skipL true (l.drop b) = skipL true (l.drop (b + 1)) + 1 := by rw [hd, skipL, if_neg (by omega)]
        simp [h0, h1]
        refine guardQ_of (fun hq => ?_) (fun hq => ?_) <;> simp only [decide_eq_true_eq, decide_eq_false_iff_not] at hq
        · have hb' : c < l.length := by omega
          have hc2 : l[c]? = some l[c] := List.getElem?_eq_getElem hb'
          have hd2 := drop_get hc2
          simp [h0, h1, hq, hc2]
          refine condQ_of (fun hk4 => ?_) (fun hk4 => ?_) <;> simp at hk4
          · have hw : IntKind.wrap .i64 ((c : Int) + 1) = ((c + 1 : Nat) : Int) := by rw [i64wrap (by omega)]; omega
            simp [hw]
            rw [hd2, skipL, if_neg (by omega)] at hr2
            exact ⟨l.length - (c + 1), by omega, c + 1, by omega, by omega, by simp [h0], by simp, rfl, by omega⟩
          · simp
            have hcb : b ≠ c := by
              intro e; subst e; omega
            rw [hd2, skipL, if_pos (by omega)] at hr2
            refine ⟨l.length - c, by omega, c, rfl, by simp [h0], by simp, rfl, ?_⟩
            have : kindV l[c].toNat = 3 := by rw [show l[c].toNat = 10 by omega]; rfl
            rw [hd2, skipL, if_neg (by omega), if_neg (by omega)]
            omega
        · have hr' := drop_end (a := c) (l := l) (by omega)
          simp [h0, h1, hq]
          rw [hr', skipL] at hr2
          refine ⟨l.length - c, by omega, c, rfl, by simp [h0], by simp, rfl, ?_⟩
          rw [hr', skipL]; omega
      · simp [h0]
        rw [hd, skipL, if_neg (by omega), if_neg (by omega)] at hr
        omega
  · have hr' := drop_end (a := b) (l := l) (by omega)
    rw [hr', skipL] at hr
    simp [h0, h1]
    omega
end Go.Proofs.Ytf
