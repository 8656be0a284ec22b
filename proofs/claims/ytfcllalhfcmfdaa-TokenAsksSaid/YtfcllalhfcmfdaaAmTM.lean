import Derived.Test.YtfcllalhfcmfdaaAmTL
set_option linter.unusedVariables false
set_option linter.unusedSimpArgs false
set_option linter.unusedSectionVars false
namespace Go.Proofs.Ytf
open Go Go.Am
set_option maxRecDepth 20000
set_option linter.unusedSimpArgs false
set_option maxHeartbeats 2000000
/-! the document's own answer: numbers -/
@[irreducible] def capM (n d : Nat) : Nat := if 1099511627776 < n * 10 + d then 1099511627776 else n * 10 + d
theorem capM_eq (n d : Nat) : capM n d = if 1099511627776 < n * 10 + d then 1099511627776 else n * 10 + d := by unfold capM; rfl
theorem capM_le (n d : Nat) : capM n d ≤ 1099511627776 := by rw [capM_eq]; split <;> omega
def rnumL (n : Nat) : List UInt8 → Nat
  | [] => n
  | c :: r => rnumL (if kindV c.toNat = 5 then capM n (c.toNat - 48) else n) r
theorem rnumL_cons (n : Nat) (c : UInt8) (r : List UInt8) : rnumL n (c :: r) = rnumL (if kindV c.toNat = 5 then capM n (c.toNat - 48) else n) r := by simp only [rnumL]
theorem rnumL_nil (n : Nat) : rnumL n [] = n := by simp only [rnumL]
@[irreducible] def capV (n d : Nat) : Nat := n * 10 + d
theorem capV_eq (n d : Nat) : capV n d = n * 10 + d := by unfold capV; rfl
def valL (n : Nat) : List UInt8 → Nat
  | [] => n
  | c :: r => valL (capV n (c.toNat - 48)) r
theorem valL_cons (n : Nat) (c : UInt8) (r : List UInt8) : valL n (c :: r) = valL (capV n (c.toNat - 48)) r := by simp only [valL]
theorem valL_nil (n : Nat) : valL n [] = n := by simp only [valL]
theorem numL_val (C : Nat) (hC : C = 2147483649) : ∀ (l : List UInt8) (x : Nat), numL (min x C) l = min (valL x l) C := by
  intro l
  induction l with
  | nil => intro x; rw [numL_nil, valL_nil]
  | cons c r ih =>
    intro x
    have e : capN (min x C) (c.toNat - 48) = min (x * 10 + (c.toNat - 48)) C := by rw [capN_eq]; split <;> omega
    rw [numL_cons, valL_cons, ← ih, capV_eq, e]
theorem rnumL_val (C : Nat) (hC : C = 1099511627776) : ∀ (l : List UInt8) (x : Nat), (∀ c ∈ l, kindV c.toNat = 5) → rnumL (min x C) l = min (valL x l) C := by
  intro l
  induction l with
  | nil => intro x _; rw [rnumL_nil, valL_nil]
  | cons c r ih =>
    intro x h
    have e : capM (min x C) (c.toNat - 48) = min (x * 10 + (c.toNat - 48)) C := by rw [capM_eq]; split <;> omega
    rw [rnumL_cons, valL_cons, ← ih _ (fun y hy => h y (by simp [hy])), if_pos (h c (by simp)), capV_eq, e]
def J27 (w : List UInt8) (mi : Bool) (h : Heap) (n : Nat) (σ : St) : Prop := ∃ i v : Nat, n = w.length - i ∧ i ≤ w.length ∧ v ≤ 1099511627776 ∧ σ.m.h = h ∧ σ.t.get 0 = some (.string (B w)) ∧ σ.t.get 4 = some (.int .i64 (v : Nat)) ∧ σ.t.get 5 = some (.bool mi) ∧ σ.t.get 6 = some (.int .i64 (i : Nat)) ∧ rnumL v (w.drop i) = rnumL 0 w
theorem rnumber_ok (w : List UInt8) (c : UInt8) (hc : w[0]? = some c) (hl : w.length ≤ 1073741824) (h : Heap) (x : Int) (hx : x = if c.toNat = 45 then -(rnumL 0 w : Int) else rnumL 0 w) :
    ACalls PP 27 [.string (B w)] h (fun v h' => h' = h ∧ v = .tuple #[.int .i64 x, .bool (decide (-2147483648 ≤ x) && decide (x ≤ 2147483647))]) := by
  refine acalls_of_vc mix fn27 bodyEq27 rfl (by show 1 ≤ 39; decide) ok27 ?_
  simp only [body27, Try.f27]
  have hpos : 0 < w.length := by rw [List.getElem?_eq_some_iff] at hc; exact hc.1
  have hcw : c = w[0] := by rw [List.getElem?_eq_some_iff] at hc; exact hc.2.symm
  subst hcw
  simp [hc, hpos]
  refine vc_loop (J27 w (decide (((w[0]'hpos).toNat : Int) = 45)) h) _ ⟨0, 0, rfl, by omega, by omega, rfl, by simp, by simp, by simp, by simp, by simp⟩ ?_
  rintro n ⟨T, ⟨y, H⟩⟩ ⟨i, v, rfl, hi, hv, rfl, g0, g4, g5, g6, hr⟩
  simp at g0 g4 g5 g6
  simp [g0, g4, g5, g6]
  refine condQ_of (fun hq => ?_) (fun hq => ?_) <;> simp only [decide_eq_true_eq, decide_eq_false_iff_not] at hq
  · have hil : i < w.length := by omega
    have hci : w[i]? = some w[i] := List.getElem?_eq_getElem hil
    have hd := drop_get hci
    have w1 : IntKind.wrap .i64 ((i : Int) + 1) = ((i + 1 : Nat) : Int) := by rw [i64wrap (by omega)]; omega
    simp [g0, g4, g5, g6, hci, hil]
    refine (rdigit_ok _ _).mono ?_
    rintro v' h'' ⟨rfl, rfl⟩
    simp [callQ]
    intro _
    rw [hd, rnumL_cons] at hr
    by_cases hk : kindV w[i].toNat = 5
    · rw [if_pos hk] at hr
      have hk' := kind_digit.1 hk
      obtain ⟨d, hd2⟩ : ∃ d : Nat, d = w[i].toNat - 48 := ⟨_, rfl⟩
      obtain ⟨q1, hq1⟩ : ∃ q : Int, q = (v : Int) * 10 := ⟨_, rfl⟩
      obtain ⟨q2, hq2⟩ : ∃ q : Int, q = (d : Int) := ⟨_, rfl⟩
      obtain ⟨q3, hq3⟩ : ∃ q : Int, q = q1 + q2 := ⟨_, rfl⟩
      obtain ⟨q4, hq4⟩ : ∃ q : Int, q = if 1099511627776 < q3 then 1099511627776 else q3 := ⟨_, rfl⟩
      have hq5 : q4 = (capM v d : Int) := by rw [hq4, capM_eq]; split <;> split <;> omega
      have u1 : IntKind.wrap .u8 ((w[i].toNat : Int) - 48) = q2 := by
        have e : IntKind.wrap .u8 ((w[i].toNat : Int) - 48) = ((w[i].toNat : Int) - 48) % 256 := by simp [IntKind.wrap, IntKind.bits, IntKind.signed]
        rw [e]; omega
      have u2 : IntKind.wrap .i64 ((v : Int) * 10) = q1 := by rw [i64wrap (by omega)]; omega
      have u3 : IntKind.wrap .i64 q2 = q2 := i64wrap (by omega)
      have u4 : IntKind.wrap .i64 (q1 + q2) = q3 := by rw [i64wrap (by omega)]; omega
      rw [← hd2] at hr
      simp [g0, g4, g5, g6, hk, hci, hil, u1, u2, u3, u4, ← hq4, w1]
      exact ⟨w.length - (i + 1), by omega, i + 1, capM v d, rfl, by omega, capM_le _ _, rfl, by simp [g0], by simp [← hq5], by simp [g5], by simp, hr⟩
    · rw [if_neg hk] at hr
      simp [g0, g4, g5, g6, hk, w1]
      exact ⟨w.length - (i + 1), by omega, i + 1, v, rfl, by omega, hv, rfl, by simp [g0], by simp [g4], by simp [g5], by simp, hr⟩
  · have hr0 : rnumL 0 w = v := by rw [drop_end (by omega), rnumL_nil] at hr; exact hr.symm
    rw [hr0] at hx
    simp [g0, g4, g5, g6]
    refine condQ_of (fun hm => ?_) (fun hm => ?_) <;> simp only [decide_eq_true_eq, decide_eq_false_iff_not] at hm
    · rw [if_pos (by omega)] at hx
      have e9 : IntKind.wrap .i64 (-(v : Int)) = x := by rw [i64wrap (by omega), hx]
      simp [g4, e9]
      by_cases h1 : -2147483648 ≤ x
      · simp [h1]
      · simp [h1]
    · rw [if_neg (by omega)] at hx
      subst hx
      simp [g4]
/-- the two readings of a number agree -/
theorem num_agree (m ds : List UInt8) (c : UInt8) (hm : m = [] ∨ m = [45]) (hd : ∀ x ∈ ds, kindV x.toNat = 5) (hne : ds ≠ []) (hc : (m ++ ds)[0]? = some c) (x : Int) (hx : x = if c.toNat = 45 then -(rnumL 0 (m ++ ds) : Int) else rnumL 0 (m ++ ds))
    (y : Int) (hy : y = if m = [] then (numL 0 ds : Int) else -(numL 0 ds : Int)) :
    ((-2147483648 ≤ x ∧ x ≤ 2147483647) ↔ ¬ (y < -2147483648 ∨ 2147483647 < y)) ∧ (-2147483648 ≤ x → x ≤ 2147483647 → x = y) := by
  obtain ⟨C, hC⟩ : ∃ C, C = 2147483649 := ⟨_, rfl⟩
  obtain ⟨D, hD⟩ : ∃ D, D = 1099511627776 := ⟨_, rfl⟩
  have e1 : numL 0 ds = min (valL 0 ds) C := by have := numL_val C hC ds 0; rwa [Nat.zero_min] at this
  have e2 : rnumL 0 (m ++ ds) = min (valL 0 ds) D := by
    have := rnumL_val D hD ds 0 hd
    rw [Nat.zero_min] at this
    rcases hm with rfl | rfl
    · exact this
    · rw [List.cons_append, rnumL_cons, if_neg (by decide)]; exact this
  rw [e1] at hy
  rw [e2] at hx
  rcases hm with rfl | rfl
  · have hc5 : c.toNat ≠ 45 := by
      cases ds with
      | nil => exact absurd rfl hne
      | cons d r =>
        simp at hc; subst hc
        have := kind_digit.1 (hd d (by simp)); omega
    rw [if_neg hc5] at hx
    rw [if_pos rfl] at hy
    omega
  · simp at hc
    subst hc
    rw [if_pos (by decide)] at hx
    rw [if_neg (by simp)] at hy
    omega
end Go.Proofs.Ytf
