import Derived.Shelf.Slices.CompactI
import Derived.Test.YthglohpeijfcfaaAmVs3
set_option linter.unusedVariables false
set_option linter.unusedSimpArgs false
set_option linter.unusedSectionVars false
namespace Go.Proofs
open Go.Shelf Go.RowKit Go.Lib Go.Sort
def Try.compactInts_ren : Go.Shelf.Ren := ⟨fun | 20 => 28 | n => n, fun | 22 => 23 | 3 => 3 | 4 => 4 | 0 => 0 | n => n, fun | n => n⟩
theorem Try.compactInts : Lays2.n20 Try.prog Try.compactInts_ren := {
  mixed := by kernel_rfl,
  f20 := Try.func28.trans (congrArg some (by kernel_rfl)),
  t0 := Try.underlying0,
  a0 := Try.isAgg0,
  z0 := Try.sizeOf0,
  v0 := Try.zeroValue0,
  t3 := Try.underlying3,
  a3 := Try.isAgg3,
  z3 := Try.sizeOf3,
  v3 := Try.zeroValue3,
  t4 := Try.underlying4,
  a4 := Try.isAgg4,
  z4 := Try.sizeOf4,
  v4 := Try.zeroValue4,
  t22 := Try.underlying23,
  a22 := Try.isAgg23,
  z22 := Try.sizeOf23,
  v22 := Try.zeroValue23,
  i3 := by kernel_rfl }
end Go.Proofs
namespace Go.Proofs.Yth
open Go Go.Am
set_option maxRecDepth 20000
set_option maxHeartbeats 2000000
theorem cp_len (xs : List Int) : (Lib.compact xs).length ≤ xs.length := by
  unfold Lib.compact Lib.compactUpTo
  rw [List.length_map]
  exact Nat.le_trans (List.length_filter_le _ _) (by simp)
def cpZ (xs : List Int) : List Int := Lib.compact xs ++ List.replicate (xs.length - (Lib.compact xs).length) 0
theorem cpZ_len (xs : List Int) : (cpZ xs).length = xs.length := by
  have := cp_len xs
  unfold cpZ
  simp; omega
theorem compactI_ok (b c : Nat) (xs : List Int) (hn : xs ≠ []) (hl : xs.length ≤ 1073741824) (h : Heap) (hb : h.f b = .row true 3 (xs.flatMap intC)) :
    ACalls PP 28 [.slice (some ⟨b, 0, none⟩) xs.length c] h (fun r h' => r = .slice (some ⟨b, 0, none⟩) (Lib.compact xs).length (Lib.compact xs).length ∧ h' = h.set b (.row true 3 ((cpZ xs).flatMap intC))) := by
  rw [PP_eq]
  refine ⟨⟨Try.f28, Try.func28, by kernel_rfl, by kernel_rfl⟩, fun ρ w args' hbx R V => ?_⟩
  obtain ⟨v0, hv0, V0⟩ := V.2 0 _ rfl
  have hargs : args' = [v0] := by
    have := V.1
    match args', hv0, this with
    | [p], h0, _ => simp at h0; rw [h0]
  subst hargs
  have hlen : 0 < xs.length := List.length_pos_iff.2 hn
  obtain ⟨pl, cap, hk, hc1, hc2, e0⟩ : ∃ pl cap, ρ (false, b) = some pl ∧ xs.length ≤ cap ∧ 0 + cap * pl.sz ≤ pl.n ∧ v0 = .slice (some ⟨pl.B, pl.o, none⟩) xs.length cap := by
    rcases V0.slice_some with ⟨a', e, _⟩ | ⟨b', off, pl, cap, e, hk, hc, hn', rfl⟩
    · omega
    · simp only [Addr.mk.injEq, and_true] at e
      obtain ⟨rfl, rfl⟩ := e
      exact ⟨pl, cap, hk, hc, hn', by simp⟩
  subst e0
  obtain ⟨C, e', fz, c1, c2, c3, c4, c5, c6⟩ := R.row (false, b) pl true 3 (xs.flatMap intC) hk (by simp [Mem.row?, hb])
  obtain rfl := c2 rfl
  have hblk := R.bound _ _ hk
  have hfl : (xs.flatMap intC).length = xs.length := by have := flatA_len 1 intC_len xs; omega
  have hcell : ∀ j (hj : j < xs.length), C[pl.o + j]? = some (.int .i64 xs[j]) := by
    intro j hj
    obtain ⟨v', q1, q2⟩ := c6 j _ (int_get xs j hj)
    rw [q1]
    congr 1
    exact q2.flat1 rfl
  have hH : Go.Sort.Holds (Value.int .i64) w pl.B pl.o xs.toArray := by
    intro j hj
    have hj' : j < xs.length := by simpa using hj
    have e : xs.toArray[j]! = xs[j] := by simp [hj']
    rw [e]
    constructor
    · unfold World.cell?
      simp only [c1, Option.isSome_none]
      exact hcell j hj'
    · unfold World.frozen?
      simp only [c1]
      simp
  have hcon' : Calls Try.prog 28 ⟨[.slice (some ⟨pl.B, pl.o, none⟩) xs.length cap]⟩ w _ := Any.slices_Compact_int Try.compactInts pl.B pl.o cap xs w hH (by omega) (by omega)
  refine hcon'.mono ?_
  rintro e w' ⟨rfl, n, rfl⟩
  have hd : (cpZ xs).length = xs.length := cpZ_len xs
  refine ⟨.slice (some ⟨b, 0, none⟩) (Lib.compact xs).length (Lib.compact xs).length, .slice (some ⟨pl.B, pl.o, none⟩) (Lib.compact xs).length cap, _, ρ, rfl, ⟨rfl, rfl⟩, hbx, ?_⟩
  have hfl' : ((cpZ xs).flatMap intC).length = xs.length := by have := flatA_len 1 intC_len (cpZ xs); omega
  have hheap : (Go.Sort.putRow (Value.int .i64) (Go.Sort.ahead w n) pl.B pl.o (cpZ xs).toArray).heap = (w.heap.modify pl.B (Go.Sort.onCells (Go.Sort.putCells (Value.int .i64) pl.o (cpZ xs).toArray))) := rfl
  have hsz : (w.heap.modify pl.B (Go.Sort.onCells (Go.Sort.putCells (Value.int .i64) pl.o (cpZ xs).toArray))).size = w.heap.size := by simp
  obtain ⟨q1, q2⟩ := turned R hk hb (cs' := (cpZ xs).flatMap intC) (by rw [hfl', hfl]) (w' := Go.Sort.putRow (Value.int .i64) (Go.Sort.ahead w n) pl.B pl.o (cpZ xs).toArray) rfl rfl rfl (Nat.le_add_right _ _) (by rw [hheap, hsz]; omega)
    (fun B hB hne => by
      rw [hheap, Array.getElem?_modify, if_neg (Ne.symm hne)])
    (fun C2 e2 fz2 hC2 => by
      rw [c1] at hC2
      simp only [Option.some.injEq, Obj.cells.injEq] at hC2
      obtain ⟨rfl, rfl, rfl⟩ := hC2
      refine ⟨Go.Sort.putCells (Value.int .i64) pl.o (cpZ xs).toArray C, ?_, by simp [Go.Sort.putCells], fun i v hi => ?_⟩
      · rw [hheap, Array.getElem?_modify, if_pos rfl, c1]; rfl
      · have hi' : i < (cpZ xs).length := by have := (List.getElem?_eq_some_iff.mp hi).1; omega
        rw [int_get _ i hi'] at hi
        obtain rfl := Option.some.inj hi
        have hin : pl.o + i < C.size := by omega
        refine ⟨.int .i64 (cpZ xs)[i], ?_, .int _ _⟩
        unfold Go.Sort.putCells
        rw [Array.getElem?_mapIdx, Array.getElem?_eq_getElem hin]
        simp only [Option.map_some]
        rw [if_pos ⟨by omega, by simp; omega⟩, Nat.add_sub_cancel_left]
        simp [hi'])
  have hz : (Lib.compact xs).length ≤ cap := Nat.le_trans (cp_len xs) (by omega)
  exact ⟨q1, q2, by have := VR.sl (ρ := ρ) b 0 (Lib.compact xs).length (Lib.compact xs).length pl cap hk hz (by omega); simpa using this⟩

/-- of a sorted list it is the rising one of the same numbers -/
theorem compact_rise (xs : List Int) (hs : xs.Pairwise (fun a b => a ≤ b)) : (Lib.compact xs).Pairwise (fun a b => a < b) ∧ ∀ x, x ∈ Lib.compact xs ↔ x ∈ xs := by
  have key : ∀ m, m ≤ xs.length → (Lib.compactUpTo xs.toArray m).Pairwise (fun a b => a < b) ∧ (∀ x, x ∈ Lib.compactUpTo xs.toArray m ↔ x ∈ xs.take m) := by
    intro m
    induction m with
    | zero => intro _; simp [Lib.compactUpTo]
    | succ m ih =>
      intro hm
      obtain ⟨i1, i2⟩ := ih (by omega)
      have e : xs.toArray[m]! = xs[m] := by simp [show m < xs.length by omega]
      rw [Lib.compactUpTo_succ, e, List.take_add_one, List.getElem?_eq_getElem (by omega : m < xs.length)]
      cases hk : Lib.keeps xs.toArray m with
      | true =>
        rw [if_pos rfl]
        refine ⟨?_, fun x => by rw [List.mem_append, i2, List.mem_append]; simp⟩
        rw [List.pairwise_append]
        refine ⟨i1, by simp, fun a ha b hb => ?_⟩
        obtain rfl := List.mem_singleton.1 hb
        obtain ⟨j, hj⟩ := List.mem_iff_getElem?.1 ((i2 a).1 ha)
        rw [List.getElem?_take] at hj
        split at hj
        rotate_left
        · cases hj
        rename_i hjm
        obtain ⟨z1, rfl⟩ := List.getElem?_eq_some_iff.mp hj
        have h1 := (List.pairwise_iff_getElem.1 hs) j (m - 1) z1 (by omega)
        have h2 := (List.pairwise_iff_getElem.1 hs) (m - 1) m (by omega) (by omega) (by omega)
        have h3 : xs[j] ≤ xs[m - 1]'(by omega) := by
          by_cases q : j = m - 1
          · subst q; omega
          · exact h1 (by omega)
        have h4 : xs[m] ≠ xs[m - 1]'(by omega) := by
          unfold Lib.keeps at hk
          rw [decide_eq_true_eq] at hk
          rcases hk with q | q
          · omega
          · rw [e] at q
            have e2 : xs.toArray[m - 1]! = xs[m - 1]'(by omega) := by simp [show m - 1 < xs.length by omega]
            rw [e2] at q
            exact q
        omega
      | false =>
        rw [if_neg (by simp), List.append_nil]
        refine ⟨i1, fun x => ?_⟩
        rw [i2, List.mem_append]
        constructor
        · intro q; exact .inl q
        · rintro (q | q)
          · exact q
          · simp at q
            subst q
            unfold Lib.keeps at hk
            rw [decide_eq_false_iff_not] at hk
            have hm0 : m ≠ 0 := fun z => hk (.inl z)
            have e2 : xs.toArray[m - 1]! = xs[m - 1]'(by omega) := by simp [show m - 1 < xs.length by omega]
            have h4 : xs[m] = xs[m - 1]'(by omega) := by
              apply Classical.byContradiction
              intro z
              exact hk (.inr (by rw [e, e2]; exact z))
            rw [h4]
            exact List.mem_take_iff_getElem.2 ⟨m - 1, by omega, rfl⟩
  obtain ⟨k1, k2⟩ := key xs.length (Nat.le_refl _)
  rw [List.take_length] at k2
  exact ⟨k1, k2⟩
end Go.Proofs.Yth
