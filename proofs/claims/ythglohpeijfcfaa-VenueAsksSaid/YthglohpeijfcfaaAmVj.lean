import Derived.Test.YthglohpeijfcfaaAmVi
set_option linter.unusedVariables false
set_option linter.unusedSimpArgs false
set_option linter.unusedSectionVars false
namespace Go.Proofs.Yth
open Go Go.Am
set_option maxRecDepth 20000
set_option maxHeartbeats 4000000
/-- a number put into a rising list -/
def PutR (l : List Int) (n : Int) (zs : List Int) : Prop := ∃ k, k ≤ l.length ∧ (∀ j a, k ≤ j → l[j]? = some a → n < a) ∧ (∀ a, 1 ≤ k → l[k - 1]? = some a → a ≤ n) ∧
  ((∃ j, j + 1 = k ∧ l[j]? = some n ∧ zs = l) ∨ ((∀ j, j + 1 = k → l[j]? ≠ some n) ∧ zs = l.take k ++ [n] ++ l.drop k))
def J31 (lv : Value) (l : List Int) (n : Int) (h : Heap) (m : Nat) (σ : St) : Prop := m ≤ l.length ∧ σ.m.h = h ∧ σ.t.get 0 = some lv ∧ σ.t.get 1 = some (.int .i64 n) ∧ σ.t.get 5 = some (.int .i64 (m : Nat)) ∧ (∀ j a, m ≤ j → l[j]? = some a → n < a)
def PutP (h0 h : Heap) (l : List Int) (n : Int) (r : Value) (h' : Heap) : Prop := Ext h h' ∧ ∃ zs o', PutR l n zs ∧ OwO 3 intC h0 h' o' zs r
theorem put_ok (lv : Value) (l : List Int) (n : Int) (hl : l.length ≤ 1000000) (h0 h : Heap) (hn0 : h0.n ≤ h.n) (o : Option Nat) (hs : OwO 3 intC h0 h o l lv) :
    ACalls PP 31 [lv, .int .i64 n] h (PutP h0 h l n) := by
  refine acalls_of_vc mix fn31 bodyEq31 rfl (by show 2 ≤ 45; decide) ok31 ?_
  simp only [body31, Try.f31]
  obtain ⟨rfl, ho⟩ := id hs
  obtain ⟨m, hm⟩ : ∃ m, m = l.length := ⟨_, rfl⟩
  rw [← hm]
  simp -implicitDefEqProofs
  refine vc_loop (J31 (.slice (o.map fun b => ⟨b, 0, none⟩) m m) l n h) m ⟨by omega, rfl, by simp, by simp, by simp, fun j a hj ha => by have := (List.getElem?_eq_some_iff.mp ha).1; omega⟩ ?_
  rintro k ⟨T, ⟨x, H⟩⟩ ⟨hk, hH, g0, g1, g5, hup⟩
  simp at hH g0 g1 g5
  subst hH
  have hr1 : List.range 1 = [0] := rfl
  -- the exit
  have out : (∀ a, 1 ≤ k → l[k - 1]? = some a → a ≤ n) → (∀ j, j + 1 = k → l[j]? ≠ some n) → ∀ H2, Ext H H2 → ∀ b2, H2.f b2 = .row true 3 ((l.take k ++ [n] ++ l.drop k).flatMap intC) → H.n ≤ b2 → b2 < H2.n →
      PutP h0 H l n (.slice (some ⟨b2, 0, none⟩) (k + 1 + (m - k)) (k + 1 + (m - k))) H2 := by
    intro q1 q2 H2 E b2 f2 l2 l3
    refine ⟨E, l.take k ++ [n] ++ l.drop k, some b2, ⟨k, hk, hup, q1, .inr ⟨q2, rfl⟩⟩, ?_, f2, by omega, l3⟩
    have : (l.take k ++ [n] ++ l.drop k).length = k + 1 + (m - k) := by simp; omega
    rw [this]; rfl
  obtain ⟨F, hF⟩ : ∃ F, F = l.flatMap intC := ⟨_, rfl⟩
  have hFl : F.length = m := by have := flatA_len 1 intC_len l; rw [← hF] at this; omega
  have hFone : F.all Go.Am.one = true := by
    rw [List.all_eq_true]; intro y hy
    rw [hF, int_map] at hy
    obtain ⟨s, _, rfl⟩ := List.mem_map.1 hy
    rfl
  have hFd : ∀ j (hj : j < l.length), (F.drop j).take 1 = [.int .i64 l[j]] := fun j hj => by
    rw [hF, int_map, ← List.map_drop, List.drop_eq_getElem_cons hj]; rfl
  have hFr : (l.take k ++ [n] ++ l.drop k).flatMap intC = F.take k ++ [.int .i64 n] ++ F.drop k := by
    rw [hF, int_map, int_map, List.map_append, List.map_append, List.map_take, List.map_drop]; rfl
  have hkm : k ≤ m := by omega
  have c1 : ¬ H.n = H.n + 1 + 1 := by omega
  have c2 : ¬ H.n = H.n + 1 + 1 + 1 := by omega
  have c3 : ¬ H.n + 1 = H.n + 1 + 1 + 1 := by omega
  have c4 : ¬ H.n + 1 + 1 = H.n := by omega
  have c5 : ¬ H.n + 1 + 1 + 1 = H.n := by omega
  have c6 : ¬ H.n + 1 + 1 + 1 = H.n + 1 := by omega
  cases o with
  | none =>
    simp only at ho
    subst ho
    have hm0 : m = 0 := by rw [hm]; rfl
    have hk0 : k = 0 := by simpa using hk
    subst hk0
    subst hm0
    have out' := out (fun a h => by omega) (fun j h => by omega)
    rw [hFr] at out'
    have hF0 : F = [] := List.length_eq_zero_iff.1 hFl
    subst hF0
    simp -implicitDefEqProofs [g0, g1, g5]
    rw [altQ_cons, altQ_cons, altQ_cons, altQ_nil]
    refine ⟨?_, ?_, ?_, trivial⟩ <;>
    · simp -implicitDefEqProofs [opBuildSlice, hr1, opAppend, srcCells, maxA, g0, g1, g5, c1, c2, c3, c4, c5, c6]
      apply out'
      · repeat' (first | exact Ext.new _ _ | apply Ext.newOf | refine Ext.setOf ?_ ?_ _)
        all_goals omega
      · simp
      · omega
      · simp
  | some b =>
    simp only at ho
    obtain ⟨hb, hb1, hb2⟩ := ho
    rw [← hF] at hb
    have tail : (∀ a, 1 ≤ k → l[k - 1]? = some a → a ≤ n) → (∀ j, j + 1 = k → l[j]? ≠ some n) → ∀ H2, Ext H H2 → ∀ b2, H2.f b2 = .row true 3 (F.take k ++ [.int .i64 n] ++ F.drop k) → H.n ≤ b2 → b2 < H2.n →
      PutP h0 H l n (.slice (some ⟨b2, 0, none⟩) (k + 1 + (m - k)) (k + 1 + (m - k))) H2 := by rw [hFr] at out; exact out
    obtain ⟨FD, hFD⟩ : ∃ z, z = F.drop k := ⟨_, rfl⟩
    have hFDl : FD.length = m - k := by rw [hFD, List.length_drop, hFl]
    obtain ⟨FT, hFT⟩ : ∃ z, z = F.take k := ⟨_, rfl⟩
    have hFTl : FT.length = k := by rw [hFT, List.length_take, hFl]; omega
    have t1 : FD.take (m - k) = FD := List.take_of_length_le (by omega)
    have t1' : FT.take k = FT := List.take_of_length_le (by omega)
    have t2 : FD.all Go.Am.one = true := by rw [List.all_eq_true] at hFone ⊢; intro z hz; exact hFone z (List.mem_of_mem_drop (hFD ▸ hz))
    have t3 : FT.all Go.Am.one = true := by rw [List.all_eq_true] at hFone ⊢; intro z hz; exact hFone z (List.mem_of_mem_take (hFT ▸ hz))
    have q1 : k * 8 ≤ 140737488355328 := by omega
    have q2 : (k + 1) * 8 ≤ 140737488355328 := by omega
    have q3 : (k + 1 + (m - k)) * 8 ≤ 140737488355328 := by omega
    have q5 : k + (m - k) ≤ m := by omega
    have hif : (if k = 0 then some (([] : List Value), 0) else some (FT, k)) = some (FT, k) := by
      by_cases z : k = 0
      · rw [if_pos z, hFT, z]; rfl
      · rw [if_neg z]
    have hif2 : (if m - k = 0 then some (([] : List Value), 0) else some (FD, m - k)) = some (FD, m - k) := by
      by_cases z : m - k = 0
      · rw [if_pos z, z]
        have : FD = [] := List.length_eq_zero_iff.1 (by omega)
        rw [this]
      · rw [if_neg z]
    have t4 : (FT ++ [Value.int .i64 n]).take (k + 1) = FT ++ [Value.int .i64 n] := List.take_of_length_le (by simp; omega)
    have b1 : ¬ b = H.n := by omega
    have b2 : ¬ b = H.n + 1 := by omega
    have b3 : ¬ b = H.n + 1 + 1 := by omega
    have b4 : ¬ b = H.n + 1 + 1 + 1 := by omega
    rw [← hFT, ← hFD] at tail
    by_cases hk0 : k = 0
    · have hk0' : (k : Int) = 0 := by omega
      have tail' := tail (fun a h => by omega) (fun j h => by omega)
      have hnk : ¬ 0 < k := by omega
      simp -implicitDefEqProofs [g0, g1, g5, hnk]
      rw [altQ_cons, altQ_cons, altQ_cons, altQ_nil]
      refine ⟨?_, ?_, ?_, trivial⟩ <;>
      · simp -implicitDefEqProofs [opBuildSlice, hr1, opAppend, srcCells, maxA, g0, g1, g5, hb, hFl, ← hFT, ← hFD, t1, t1', t2, t3, q1, q2, q3, q5, hkm, hif, hif2, b1, b2, b3, b4, hFTl, hFDl, t4, c1, c2, c3, c4, c5, c6]
        apply tail'
        · repeat' (first | exact Ext.new _ _ | apply Ext.newOf | refine Ext.setOf ?_ ?_ _)
          all_goals omega
        · simp
        · omega
        · simp
    · obtain ⟨j, hkk⟩ : ∃ j, k = j + 1 := ⟨k - 1, by omega⟩
      have hjl : j < l.length := by omega
      have hjm : j < m := by omega
      have hlj : l[j]? = some l[j] := List.getElem?_eq_getElem hjl
      have d1 := hFd j hjl
      obtain ⟨t, ht⟩ : ∃ t, t = l[j] := ⟨_, rfl⟩
      rw [← ht] at d1 hlj
      have w1 : IntKind.wrap .i64 ((k : Int) - 1) = (j : Int) := by rw [i64wrap (by omega)]; omega
      have hkp : 0 < k := by omega
      have hj1 : j + 1 ≤ m := by omega
      by_cases hgt : n < t
      · simp -implicitDefEqProofs [g0, g1, g5, hkp, w1, hjm, hb, d1, hFl, hj1, hgt]
        exact ⟨j, by omega, by omega, rfl, by simp [g0], by simp [g1], by simp, fun i a hi ha => by
          rcases Nat.lt_or_ge i k with q | q
          · have : i = j := by omega
            subst this
            rw [hlj] at ha
            obtain rfl := Option.some.inj ha
            exact hgt
          · exact hup i a q ha⟩
      · by_cases heq : t = n
        · simp -implicitDefEqProofs [g0, g1, g5, hkp, w1, hjm, hb, d1, hFl, hj1, hgt, heq]
          refine ⟨Ext.rfl' H, l, some b, ⟨k, hk, hup, fun a _ ha => ?_, .inl ⟨j, hkk.symm, by rw [hlj, heq], rfl⟩⟩, ?_⟩
          · rw [show k - 1 = j by omega, hlj] at ha; obtain rfl := Option.some.inj ha; omega
          · rw [hm]; exact hs
        · have tail' := tail (fun a _ ha => by rw [show k - 1 = j by omega, hlj] at ha; obtain rfl := Option.some.inj ha; omega) (fun i hi => by rw [show i = j by omega, hlj]; intro e; exact heq (Option.some.inj e))
          simp -implicitDefEqProofs [g0, g1, g5, hkp, w1, hjm, hb, d1, hFl, hj1, hgt, heq]
          rw [altQ_cons, altQ_cons, altQ_cons, altQ_nil]
          refine ⟨?_, ?_, ?_, trivial⟩ <;>
          · simp -implicitDefEqProofs [opBuildSlice, hr1, opAppend, srcCells, maxA, g0, g1, g5, hb, hFl, ← hFT, ← hFD, t1, t1', t2, t3, q1, q2, q3, q5, hkm, hif, hif2, b1, b2, b3, b4, hFTl, hFDl, t4, c1, c2, c3, c4, c5, c6]
            apply tail'
            · repeat' (first | exact Ext.new _ _ | apply Ext.newOf | refine Ext.setOf ?_ ?_ _)
              all_goals omega
            · simp
            · omega
            · simp
end Go.Proofs.Yth
