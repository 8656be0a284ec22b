import Derived.Test.YtfcllalhfcmfdaaAmT5
import Derived.Laws.RangeString
set_option linter.unusedVariables false
set_option linter.unusedSimpArgs false
set_option linter.unusedSectionVars false
namespace Go.Proofs.Ytf
open Go Go.Am
set_option maxRecDepth 20000
set_option linter.unusedSimpArgs false
set_option maxHeartbeats 2000000
@[irreducible] def capN (n d : Nat) : Nat := if 2147483649 < n * 10 + d then 2147483649 else n * 10 + d
theorem capN_eq (n d : Nat) : capN n d = if 2147483649 < n * 10 + d then 2147483649 else n * 10 + d := by unfold capN; rfl
theorem capN_le (n d : Nat) : capN n d ≤ 2147483649 := by rw [capN_eq]; split <;> omega
def numL (n : Nat) : List UInt8 → Nat
  | [] => n
  | c :: r => numL (capN n (c.toNat - 48)) r
theorem numL_cons (n : Nat) (c : UInt8) (r : List UInt8) : numL n (c :: r) = numL (capN n (c.toNat - 48)) r := by simp only [numL]
theorem numL_nil (n : Nat) : numL n [] = n := by simp only [numL]
def isD (c : UInt8) : Prop := 48 ≤ c.toNat ∧ c.toNat ≤ 57
theorem kind_digit {b : Nat} : kindV b = 5 ↔ 48 ≤ b ∧ b ≤ 57 := by simp only [kindV]; (repeat' split) <;> omega
theorem kind_minus {b : Nat} : kindV b = 6 ↔ b = 45 := by simp only [kindV]; (repeat' split) <;> omega
theorem numL_le : ∀ (l : List UInt8) (n : Nat), n ≤ 2147483649 → numL n l ≤ 2147483649 := by
  intro l
  induction l with
  | nil => intro n h; exact h
  | cons c r ih => intro n h; exact ih _ (capN_le _ _)
/-- a number at a place: what it is, where it ends, whether it is well -/
structure Num where
  n : Int
  to : Nat
  ok : Bool
def numV' (l : List UInt8) (k m t : Nat) (n : Int) : Num :=
  if t = 0 ∨ n < -2147483648 ∨ 2147483647 < n then ⟨0, k, false⟩
  else ⟨n, k + m + t, match l[k + m + t]? with
    | some c => decide (kindV c.toNat ≠ 4) && decide (kindV c.toNat ≠ 6)
    | none => true⟩
def numM (l : List UInt8) (k : Nat) : Nat := if (l.getD k 0).toNat = 45 then 1 else 0
def numT (l : List UInt8) (k : Nat) : Nat := runL 5 (l.drop (k + numM l k))
def numN (l : List UInt8) (k : Nat) : Int :=
  let n : Int := numL 0 ((l.drop (k + numM l k)).take (numT l k))
  if numM l k = 1 then -n else n
def numV (l : List UInt8) (k : Nat) : Num := numV' l k (numM l k) (numT l k) (numN l k)
def J22 (l ds : List UInt8) (z f g : Int) (h : Heap) (n : Nat) (σ : St) : Prop := ∃ p, n = ds.length - p ∧ p ≤ ds.length ∧ Ext h σ.m.h ∧ h.n < σ.m.h.n ∧ σ.m.h.f h.n = .obj (.stringIter (B ds) p) ∧
  σ.t.get 0 = some (.string (B l)) ∧ σ.t.get 1 = some (.int .i64 z) ∧ σ.t.get 7 = some (.int .i64 f) ∧ σ.t.get 8 = some (.int .i64 g) ∧
  σ.t.get 26 = some (.pointer (some ⟨h.n, 0, none⟩)) ∧ ∃ v : Nat, v ≤ 2147483649 ∧ σ.t.get 9 = some (.int .i64 v) ∧ numL v (ds.drop p) = numL 0 ds
theorem dec_B {ds : List UInt8} {p : Nat} {c : UInt8} (hc : ds[p]? = some c) (h : c.toNat < 128) : Utf8.decode (B ds) p = (c.toNat, 1) := by
  rw [List.getElem?_eq_some_iff] at hc
  obtain ⟨hp, hc⟩ := hc
  have := decode_ascii (B ds) p (by rw [B_size]; exact hp) (by show (ds[p]).toNat < 128; rw [hc]; exact h)
  rw [this]
  show ((ds[p]).toNat, 1) = _
  rw [hc]
theorem i32wrap {x : Int} (h : -2147483648 ≤ x ∧ x ≤ 2147483647) : IntKind.wrap .i32 x = x := by
  have e : IntKind.wrap .i32 x = if (x % 4294967296 : Int) ≥ 2147483648 then x % 4294967296 - 4294967296 else x % 4294967296 := by
    simp [IntKind.wrap, IntKind.bits, IntKind.signed]
  rw [e]; split <;> omega
theorem runL_le (k : Nat) : ∀ l : List UInt8, runL k l ≤ l.length := by
  intro l
  induction l with
  | nil => simp [runL]
  | cons c r ih => simp only [runL]; split <;> simp <;> omega
theorem runL_all (k : Nat) : ∀ l : List UInt8, ∀ c ∈ l.take (runL k l), kindV c.toNat = k := by
  intro l
  induction l with
  | nil => simp [runL]
  | cons c r ih =>
    intro d hd
    simp only [runL] at hd
    split at hd
    · rename_i hk
      rw [List.take_succ_cons, List.mem_cons] at hd
      rcases hd with rfl | hd
      · exact hk
      · exact ih d hd
    · simp at hd
theorem number_ok (l : List UInt8) (k : Nat) (hk : k < l.length) (hl : l.length ≤ 1073741824) (h : Heap) : ACalls PP 22 [.string (B l), .int .i64 k] h (fun v h' => Ext h h' ∧ v = .tuple #[.int .i64 (numV l k).n, .int .i64 (numV l k).to, .bool (numV l k).ok]) := by
  refine acalls_of_vc mix fn22 bodyEq22 rfl (by show 2 ≤ 74; decide) ok22 ?_
  simp only [body22, Try.f22]
  have hc' : l[k]? = some l[k] := List.getElem?_eq_getElem hk
  have hd := drop_get hc'
  simp [hc']
  obtain ⟨m, hm⟩ : ∃ m, m = if l[k].toNat = 45 then 1 else 0 := ⟨_, rfl⟩
  have hkm : k + m ≤ l.length := by split at hm <;> omega
  obtain ⟨t, ht⟩ : ∃ t, t = runL 5 (l.drop (k + m)) := ⟨_, rfl⟩
  have htl : k + m + t ≤ l.length := by have := runL_le 5 (l.drop (k + m)); rw [List.length_drop] at this; omega
  obtain ⟨ds, hds⟩ : ∃ ds, ds = (l.drop (k + m)).take t := ⟨_, rfl⟩
  have hds' : (l.take (k + m + t)).drop (k + m) = ds := by rw [hds, List.drop_take]; congr 1; omega
  have hdl : ds.length = t := by rw [hds, List.length_take, List.length_drop]; omega
  have hdd : ∀ c ∈ ds, 48 ≤ c.toNat ∧ c.toNat ≤ 57 := fun c hc => by rw [hds, ht] at hc; exact kind_digit.1 (runL_all 5 _ c hc)
  have e1 : IntKind.wrap .i64 ((k : Int) + 1) = ((k + 1 : Nat) : Int) := by rw [i64wrap (by omega)]; omega
  obtain ⟨f, hf⟩ : ∃ f : Int, f = ((k + m : Nat) : Int) := ⟨_, rfl⟩
  obtain ⟨g, hg⟩ : ∃ g : Int, g = ((k + m + t : Nat) : Int) := ⟨_, rfl⟩
  have hrun := run_ok l (k + m) 5 hl h
  rw [← hf, ← ht, ← hg] at hrun
  have i1 : (0 : Int) ≤ f := by omega
  have i2 : (0 : Int) ≤ g := by omega
  have i3 : f.toNat = k + m := by omega
  have i4 : g.toNat = k + m + t := by omega
  obtain ⟨nn, hnn⟩ : ∃ nn : Int, nn = if m = 1 then -(numL 0 ds : Int) else numL 0 ds := ⟨_, rfl⟩
  have hM : numM l k = m := by rw [hm]; simp [numM, hk]
  have hT : numT l k = t := by rw [ht, numT, hM]
  have hN : numN l k = nn := by rw [hnn, numN, hM, hT, ← hds]
  have hV : numV l k = numV' l k m t nn := by rw [numV, hM, hT, hN]
  have hnl := numL_le ds 0 (by omega)
  rw [hV]
  refine condQ_of (fun hm' => ?_) (fun hm' => ?_) <;> simp only [decide_eq_true_eq, decide_eq_false_iff_not] at hm'
  · have hm1 : m = 1 := by rw [if_pos (by omega)] at hm; exact hm
    have e1 : IntKind.wrap .i64 ((k : Int) + 1) = f := by rw [i64wrap (by omega), hf, hm1]; omega
    simp [e1]
    refine hrun.mono ?_
    rintro v h'' ⟨rfl, rfl⟩
    simp [callQ]
    intro _
    simp [i1, i2, i3, i4, htl, hds', opRange]
    refine vc_loop (J22 l ds _ f g h'') _ ⟨0, rfl, by omega, Ext.new _ _, by simp, by simp, by simp, rfl, by simp, by simp, by simp, 0, by omega, by simp, rfl⟩ ?_
    rintro n ⟨T, ⟨x, H⟩⟩ ⟨p, rfl, hp, hE, hn, hit, h0, h1, h7, h8, h26, v, hv, h9, hr⟩
    simp at hE hn hit h0 h1 h7 h8 h26 h9
    simp [h26, hit, opNextS]
    by_cases hpl : p < ds.length
    · have hc2 : ds[p]? = some ds[p] := List.getElem?_eq_getElem hpl
      have hdig := hdd ds[p] (List.getElem_mem hpl)
      have hdr := drop_get hc2
      rw [hdr, numL_cons] at hr
      obtain ⟨d, hd2⟩ : ∃ d : Nat, d = ds[p].toNat - 48 := ⟨_, rfl⟩
      obtain ⟨q1, hq1⟩ : ∃ q : Int, q = (v : Int) * 10 := ⟨_, rfl⟩
      obtain ⟨q2, hq2⟩ : ∃ q : Int, q = (d : Int) := ⟨_, rfl⟩
      obtain ⟨q3, hq3⟩ : ∃ q : Int, q = q1 + q2 := ⟨_, rfl⟩
      obtain ⟨q4, hq4⟩ : ∃ q : Int, q = if 2147483649 < q3 then 2147483649 else q3 := ⟨_, rfl⟩
      have hq5 : q4 = (capN v d : Int) := by rw [hq4, capN_eq]; split <;> split <;> omega
      have w1 : IntKind.wrap .i32 ((ds[p].toNat : Int) - 48) = q2 := by rw [i32wrap (by omega)]; omega
      have w2 : IntKind.wrap .i64 ((v : Int) * 10) = q1 := by rw [i64wrap (by omega)]; omega
      have w3 : IntKind.wrap .i64 q2 = q2 := i64wrap (by omega)
      have w4 : IntKind.wrap .i64 (q1 + q2) = q3 := by rw [i64wrap (by omega)]; omega
      simp only [hpl, if_true, dec_B hc2 (by omega)]
      rw [← hd2] at hr
      simp [h0, h1, h7, h8, h9, h26, w1, w2, w3, w4, ← hq4]
      refine ⟨ds.length - (p + 1), by omega, p + 1, rfl, by omega, hE.setOf (Nat.le_refl _) _, hn, by simp, by simp [h0], by simp [h1], by simp [h7], by simp [h8], by simp [h26], _, capN_le _ _, by simp [← hq5], hr⟩
    · have hr0 : numL 0 ds = v := by rw [drop_end hpl, numL_nil] at hr; exact hr.symm
      simp [hpl, h0, h1, h7, h8, h9, h26]
      have e9 : IntKind.wrap .i64 (-(v : Int)) = nn := by rw [i64wrap (by omega), hnn, if_pos hm1, hr0]
      have e10 : (k : Int) < f := by omega
      simp [e9, e10]
      by_cases ht0 : t = 0
      · have hg0 : g = f := by omega
        simp [hg0, numV', ht0, hf]
        exact hE
      · have hg0 : ¬ g = f := by omega
        simp [hg0]
        by_cases hn1 : nn < -2147483648
        · simp [hn1, numV', hf]
          exact hE
        · simp [hn1]
          by_cases hn2 : 2147483647 < nn
          · simp [hn2, numV', hf]
            exact hE
          · simp [hn2]
            have hV2 : numV' l k m t nn = ⟨nn, k + m + t, match l[k + m + t]? with
                | some c => decide (kindV c.toNat ≠ 4) && decide (kindV c.toNat ≠ 6)
                | none => true⟩ := by rw [numV', if_neg (by omega)]
            rw [hV2]
            by_cases hend : g = (l.length : Int)
            · have hnone : l[k + m + t]? = none := List.getElem?_eq_none (by omega)
              simp [hend, hnone]
              exact ⟨hE, by omega⟩
            · have hlt : k + m + t < l.length := by omega
              have hc3 : l[k + m + t]? = some l[k + m + t] := List.getElem?_eq_getElem hlt
              simp [hend, i2, i4, hc3]
              refine (kind_ok _ _).mono ?_
              rintro v' h3 ⟨rfl, rfl⟩
              simp [callQ]
              intro _
              by_cases hk4 : kindV l[k + m + t].toNat = 4
              · have hk4' : ((kindV l[k + m + t].toNat : Nat) : Int) = 4 := by omega
                simp [hk4', hk4]
                exact ⟨hE, by omega⟩
              · have hk4' : ¬ ((kindV l[k + m + t].toNat : Nat) : Int) = 4 := by omega
                simp [hk4', hk4, i2, i4, hc3]
                refine (kind_ok _ _).mono ?_
                rintro v' h3 ⟨rfl, rfl⟩
                simp [callQ]
                intro _
                refine ⟨hE, by omega, ?_⟩
                by_cases hk6 : kindV l[k + m + t].toNat = 6
                · simp [hk6]
                · have : ¬ ((kindV l[k + m + t].toNat : Nat) : Int) = 6 := by omega
                  simp [hk6, this]
  · have hm1 : m = 0 := by rw [if_neg (by omega)] at hm; exact hm
    have e1 : (k : Int) = f := by rw [hf, hm1]; omega
    simp [e1]
    refine hrun.mono ?_
    rintro v h'' ⟨rfl, rfl⟩
    simp [callQ]
    intro _
    simp [i1, i2, i3, i4, htl, hds', opRange]
    refine vc_loop (J22 l ds _ f g h'') _ ⟨0, rfl, by omega, Ext.new _ _, by simp, by simp, by simp, rfl, by simp, by simp, by simp, 0, by omega, by simp, rfl⟩ ?_
    rintro n ⟨T, ⟨x, H⟩⟩ ⟨p, rfl, hp, hE, hn, hit, h0, h1, h7, h8, h26, v, hv, h9, hr⟩
    simp at hE hn hit h0 h1 h7 h8 h26 h9
    simp [h26, hit, opNextS]
    by_cases hpl : p < ds.length
    · have hc2 : ds[p]? = some ds[p] := List.getElem?_eq_getElem hpl
      have hdig := hdd ds[p] (List.getElem_mem hpl)
      have hdr := drop_get hc2
      rw [hdr, numL_cons] at hr
      obtain ⟨d, hd2⟩ : ∃ d : Nat, d = ds[p].toNat - 48 := ⟨_, rfl⟩
      obtain ⟨q1, hq1⟩ : ∃ q : Int, q = (v : Int) * 10 := ⟨_, rfl⟩
      obtain ⟨q2, hq2⟩ : ∃ q : Int, q = (d : Int) := ⟨_, rfl⟩
      obtain ⟨q3, hq3⟩ : ∃ q : Int, q = q1 + q2 := ⟨_, rfl⟩
      obtain ⟨q4, hq4⟩ : ∃ q : Int, q = if 2147483649 < q3 then 2147483649 else q3 := ⟨_, rfl⟩
      have hq5 : q4 = (capN v d : Int) := by rw [hq4, capN_eq]; split <;> split <;> omega
      have w1 : IntKind.wrap .i32 ((ds[p].toNat : Int) - 48) = q2 := by rw [i32wrap (by omega)]; omega
      have w2 : IntKind.wrap .i64 ((v : Int) * 10) = q1 := by rw [i64wrap (by omega)]; omega
      have w3 : IntKind.wrap .i64 q2 = q2 := i64wrap (by omega)
      have w4 : IntKind.wrap .i64 (q1 + q2) = q3 := by rw [i64wrap (by omega)]; omega
      simp only [hpl, if_true, dec_B hc2 (by omega)]
      rw [← hd2] at hr
      simp [h0, h1, h7, h8, h9, h26, w1, w2, w3, w4, ← hq4]
      refine ⟨ds.length - (p + 1), by omega, p + 1, rfl, by omega, hE.setOf (Nat.le_refl _) _, hn, by simp, by simp [h0], by simp [h1], by simp [h7], by simp [h8], by simp [h26], _, capN_le _ _, by simp [← hq5], hr⟩
    · have hr0 : numL 0 ds = v := by rw [drop_end hpl, numL_nil] at hr; exact hr.symm
      simp [hpl, h0, h1, h7, h8, h9, h26]
      have e9 : (v : Int) = nn := by rw [hnn, if_neg (by omega), hr0]
      simp [e9]
      by_cases ht0 : t = 0
      · have hg0 : g = f := by omega
        simp [hg0, numV', ht0, ← e1]
        exact hE
      · have hg0 : ¬ g = f := by omega
        simp [hg0]
        by_cases hn1 : nn < -2147483648
        · simp [hn1, numV', ← e1]
          exact hE
        · simp [hn1]
          by_cases hn2 : 2147483647 < nn
          · simp [hn2, numV', ← e1]
            exact hE
          · simp [hn2]
            have hV2 : numV' l k m t nn = ⟨nn, k + m + t, match l[k + m + t]? with
                | some c => decide (kindV c.toNat ≠ 4) && decide (kindV c.toNat ≠ 6)
                | none => true⟩ := by rw [numV', if_neg (by omega)]
            rw [hV2]
            by_cases hend : g = (l.length : Int)
            · have hnone : l[k + m + t]? = none := List.getElem?_eq_none (by omega)
              simp [hend, hnone]
              exact ⟨hE, by omega⟩
            · have hlt : k + m + t < l.length := by omega
              have hc3 : l[k + m + t]? = some l[k + m + t] := List.getElem?_eq_getElem hlt
              simp [hend, i2, i4, hc3]
              refine (kind_ok _ _).mono ?_
              rintro v' h3 ⟨rfl, rfl⟩
              simp [callQ]
              intro _
              by_cases hk4 : kindV l[k + m + t].toNat = 4
              · have hk4' : ((kindV l[k + m + t].toNat : Nat) : Int) = 4 := by omega
                simp [hk4', hk4]
                exact ⟨hE, by omega⟩
              · have hk4' : ¬ ((kindV l[k + m + t].toNat : Nat) : Int) = 4 := by omega
                simp [hk4', hk4, i2, i4, hc3]
                refine (kind_ok _ _).mono ?_
                rintro v' h3 ⟨rfl, rfl⟩
                simp [callQ]
                intro _
                refine ⟨hE, by omega, ?_⟩
                by_cases hk6 : kindV l[k + m + t].toNat = 6
                · simp [hk6]
                · have : ¬ ((kindV l[k + m + t].toNat : Nat) : Int) = 6 := by omega
                  simp [hk6, this]
end Go.Proofs.Ytf
