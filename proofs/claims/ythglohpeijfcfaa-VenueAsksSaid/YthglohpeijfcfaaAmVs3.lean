import Derived.Test.YthglohpeijfcfaaAmVs2
set_option linter.unusedVariables false
set_option linter.unusedSimpArgs false
set_option linter.unusedSectionVars false
namespace Go.Proofs.Yth
open Go Go.Am
set_option maxRecDepth 20000
set_option maxHeartbeats 2000000
theorem len64_0 (h : Heap) : ACalls PP 58 [.int .u64 0] h (fun v h' => h' = h ∧ v = .int .i64 0) := by
  refine acalls_of_vc mix fn58 bodyEq58 rfl (by show 1 ≤ 25; decide) ok58 ?_
  simp only [body58, Try.f58]
  have e1 : IntKind.wrap .u8 0 = 0 := rfl
  have e2 : IntKind.wrap .i64 0 = 0 := rfl
  simp -implicitDefEqProofs [e1, e2]
  rfl
theorem len_0 (h : Heap) : ACalls PP 44 [.int .u64 0] h (fun v h' => h' = h ∧ v = .int .i64 0) := by
  refine acalls_of_vc mix fn44 bodyEq44 rfl (by show 1 ≤ 8; decide) ok44 ?_
  simp only [body44, Try.f44]
  simp -implicitDefEqProofs
  refine (len64_0 h).mono ?_
  rintro v h' ⟨rfl, rfl⟩
  simp -implicitDefEqProofs [callQ]
def J49 (h : Heap) (n : Nat) (σ : St) : Prop := n = 0 ∧ σ.m.h = h ∧ σ.t.get 8 = some (.int .i64 1) ∧ σ.t.get 2 = some (.int .i64 0)
theorem ins_0 (ad : Option Addr) (c : Nat) (h : Heap) : ACalls PP 49 [.slice ad 0 c, .int .i64 0, .int .i64 0, .func (.func 24) #[] #[]] h (fun v h' => h' = h ∧ v = .tuple #[]) := by
  refine acalls_of_vc mix fn49 bodyEq49 rfl (by show 4 ≤ 53; decide) ok49 ?_
  simp only [body49, Try.f49]
  have e1 : IntKind.wrap .i64 1 = 1 := rfl
  simp -implicitDefEqProofs [e1]
  refine vc_loop (J49 h) _ ⟨rfl, rfl, by simp, by simp⟩ ?_
  rintro n ⟨T, ⟨x, H⟩⟩ ⟨rfl, hH, g8, g2⟩
  simp at hH g8 g2
  subst hH
  simp -implicitDefEqProofs [g8, g2]
def J43 (v : Value) (h : Heap) (n : Nat) (σ : St) : Prop := n = 0 ∧ σ.m.h = h ∧ σ.t.get 0 = some v ∧ σ.t.get 1 = some (.int .i64 0) ∧ σ.t.get 2 = some (.int .i64 0) ∧ σ.t.get 4 = some (.func (.func 24) #[] #[])
theorem pdq_0 (ad : Option Addr) (c : Nat) (h : Heap) : ACalls PP 43 [.slice ad 0 c, .int .i64 0, .int .i64 0, .int .i64 0, .func (.func 24) #[] #[]] h (fun v h' => h' = h ∧ v = .tuple #[]) := by
  refine acalls_of_vc mix fn43 bodyEq43 rfl (by show 5 ≤ 148; decide) ok43 ?_
  simp only [body43, Try.f43]
  simp -implicitDefEqProofs
  refine vc_loop (J43 (.slice ad 0 c) h) _ ⟨rfl, rfl, by simp, by simp, by simp, by simp⟩ ?_
  rintro n ⟨T, ⟨x, H⟩⟩ ⟨rfl, hH, g0, g1, g2, g4⟩
  simp at hH g0 g1 g2 g4
  subst hH
  have e1 : IntKind.wrap .i64 0 = 0 := rfl
  simp -implicitDefEqProofs [g0, g1, g2, g4, e1]
  refine (ins_0 ad c H).mono ?_
  rintro v h' ⟨rfl, rfl⟩
  simp -implicitDefEqProofs [callQ]
theorem sortF_0 (ad : Option Addr) (c : Nat) (h : Heap) : ACalls PP 23 [.slice ad 0 c, .func (.func 24) #[] #[]] h (fun v h' => h' = h ∧ v = .tuple #[]) := by
  refine acalls_of_vc mix fn23 bodyEq23 rfl (by show 2 ≤ 14; decide) ok23 ?_
  simp only [body23, Try.f23]
  have e1 : IntKind.wrap .u64 0 = 0 := rfl
  simp -implicitDefEqProofs [e1]
  refine (len_0 h).mono ?_
  rintro v h' ⟨rfl, rfl⟩
  simp -implicitDefEqProofs [callQ]
  intro _
  refine (pdq_0 ad c h').mono ?_
  rintro v h' ⟨rfl, rfl⟩
  simp -implicitDefEqProofs [callQ]
/-! the same of whole numbers -/
def J59 (h : Heap) (n : Nat) (σ : St) : Prop := n = 0 ∧ σ.m.h = h ∧ σ.t.get 6 = some (.int .i64 1) ∧ σ.t.get 2 = some (.int .i64 0)
def J45 (v : Value) (h : Heap) (n : Nat) (σ : St) : Prop := n = 0 ∧ σ.m.h = h ∧ σ.t.get 0 = some v ∧ σ.t.get 1 = some (.int .i64 0) ∧ σ.t.get 2 = some (.int .i64 0)
theorem insI_0 (ad : Option Addr) (c : Nat) (h : Heap) : ACalls PP 59 [.slice ad 0 c, .int .i64 0, .int .i64 0] h (fun v h' => h' = h ∧ v = .tuple #[]) := by
  refine acalls_of_vc mix fn59 bodyEq59 rfl (by show 3 ≤ 49; decide) ok59 ?_
  simp only [body59, Try.f59]
  have e1 : IntKind.wrap .i64 1 = 1 := rfl
  simp -implicitDefEqProofs [e1]
  refine vc_loop (J59 h) _ ⟨rfl, rfl, by simp, by simp⟩ ?_
  rintro n ⟨T, ⟨x, H⟩⟩ ⟨rfl, hH, g8, g2⟩
  simp at hH g8 g2
  subst hH
  simp -implicitDefEqProofs [g8, g2]
theorem pdqI_0 (ad : Option Addr) (c : Nat) (h : Heap) : ACalls PP 45 [.slice ad 0 c, .int .i64 0, .int .i64 0, .int .i64 0] h (fun v h' => h' = h ∧ v = .tuple #[]) := by
  refine acalls_of_vc mix fn45 bodyEq45 rfl (by show 4 ≤ 134; decide) ok45 ?_
  simp only [body45, Try.f45]
  simp -implicitDefEqProofs
  refine vc_loop (J45 (.slice ad 0 c) h) _ ⟨rfl, rfl, by simp, by simp, by simp⟩ ?_
  rintro n ⟨T, ⟨x, H⟩⟩ ⟨rfl, hH, g0, g1, g2⟩
  simp at hH g0 g1 g2
  subst hH
  have e1 : IntKind.wrap .i64 0 = 0 := rfl
  simp -implicitDefEqProofs [g0, g1, g2, e1]
  refine (insI_0 ad c H).mono ?_
  rintro v h' ⟨rfl, rfl⟩
  simp -implicitDefEqProofs [callQ]
theorem sortI_0 (ad : Option Addr) (c : Nat) (h : Heap) : ACalls PP 27 [.slice ad 0 c] h (fun v h' => h' = h ∧ v = .tuple #[]) := by
  refine acalls_of_vc mix fn27 bodyEq27 rfl (by show 1 ≤ 11; decide) ok27 ?_
  simp only [body27, Try.f27]
  have e1 : IntKind.wrap .u64 0 = 0 := rfl
  simp -implicitDefEqProofs [e1]
  refine (len_0 h).mono ?_
  rintro v h' ⟨rfl, rfl⟩
  simp -implicitDefEqProofs [callQ]
  intro _
  refine (pdqI_0 ad c h').mono ?_
  rintro v h' ⟨rfl, rfl⟩
  simp -implicitDefEqProofs [callQ]
def sortI (xs : List Int) : List Int := xs.mergeSort (fun x y => decide (x ≤ y))
theorem int_map (xs : List Int) : xs.flatMap intC = xs.map (Value.int .i64) := by
  induction xs with
  | nil => rfl
  | cons x r ih => rw [List.flatMap_cons, ih]; rfl
theorem int_get (xs : List Int) (j : Nat) (hj : j < xs.length) : (xs.flatMap intC)[j]? = some (.int .i64 xs[j]) := by
  rw [int_map, List.getElem?_map, List.getElem?_eq_getElem hj]; rfl
theorem sortI_ok (b c : Nat) (xs : List Int) (hn : xs ≠ []) (hl : xs.length ≤ 1073741824) (h : Heap) (hb : h.f b = .row true 3 (xs.flatMap intC)) :
    ACalls PP 27 [.slice (some ⟨b, 0, none⟩) xs.length c] h (fun r h' => r = .tuple #[] ∧ h' = h.set b (.row true 3 ((sortI xs).flatMap intC))) := by
  rw [PP_eq]
  refine ⟨⟨Try.f27, Try.func27, by kernel_rfl, by kernel_rfl⟩, fun ρ w args' hbx R V => ?_⟩
  obtain ⟨v0, hv0, V0⟩ := V.2 0 _ rfl
  have hargs : args' = [v0] := by
    have := V.1
    match args', hv0, this with
    | [p], h0, _ => simp at h0; rw [h0]
  subst hargs
  have hlen : 0 < xs.length := List.length_pos_iff.2 hn
  obtain ⟨pl, cap, hk, e0⟩ : ∃ pl cap, ρ (false, b) = some pl ∧ v0 = .slice (some ⟨pl.B, pl.o, none⟩) xs.length cap := by
    rcases V0.slice_some with ⟨a', e, _⟩ | ⟨b', off, pl, cap, e, hk, hc, hn', rfl⟩
    · omega
    · simp only [Addr.mk.injEq, and_true] at e
      obtain ⟨rfl, rfl⟩ := e
      exact ⟨pl, cap, hk, by simp⟩
  subst e0
  obtain ⟨C, e', fz, c1, c2, c3, c4, c5, c6⟩ := R.row (false, b) pl true 3 (xs.flatMap intC) hk (by simp [Mem.row?, hb])
  obtain rfl := c2 rfl
  have hblk := R.bound _ _ hk
  have hfl : (xs.flatMap intC).length = xs.length := by have := flatA_len 1 intC_len xs; omega
  have hcell : ∀ j (hj : j < xs.length), C[pl.o + j]? = some (.int .i64 xs[j]) := by
    intro j hj
    obtain ⟨v', q1, q2⟩ := c6 j _ (int_get xs j hj)
    rw [q1]
    congr 1
    exact q2.flat1 rfl
  have hH : Go.Sort.Holds (Value.int .i64) w pl.B pl.o xs.toArray := by
    intro j hj
    have hj' : j < xs.length := by simpa using hj
    have e : xs.toArray[j]! = xs[j] := by simp [hj']
    rw [e]
    constructor
    · unfold World.cell?
      simp only [c1, Option.isSome_none]
      exact hcell j hj'
    · unfold World.frozen?
      simp only [c1]
      simp
  have hcon' : Calls Try.prog 27 ⟨[.slice (some ⟨pl.B, pl.o, none⟩) xs.length cap]⟩ w _ := Any.slices_Sort_int Try.sortInts pl.B pl.o cap xs w hH hblk (by omega)
  refine hcon'.mono ?_
  rintro e w' ⟨rfl, n, os, rfl⟩
  have hd : (sortI xs).length = xs.length := List.length_mergeSort _
  refine ⟨.tuple #[], .tuple #[], _, ρ, rfl, ⟨rfl, rfl⟩, hbx, ?_⟩
  have hfl' : ((sortI xs).flatMap intC).length = xs.length := by have := flatA_len 1 intC_len (sortI xs); omega
  have hheap : (Go.Sort.grow (Go.Sort.putRow (Value.int .i64) (Go.Sort.ahead w n) pl.B pl.o (sortI xs).toArray) os).heap = (w.heap.modify pl.B (Go.Sort.onCells (Go.Sort.putCells (Value.int .i64) pl.o (sortI xs).toArray))) ++ os := rfl
  have hsz : (w.heap.modify pl.B (Go.Sort.onCells (Go.Sort.putCells (Value.int .i64) pl.o (sortI xs).toArray))).size = w.heap.size := by simp
  obtain ⟨q1, q2⟩ := turned R hk hb (cs' := (sortI xs).flatMap intC) (by rw [hfl', hfl]) (w' := Go.Sort.grow (Go.Sort.putRow (Value.int .i64) (Go.Sort.ahead w n) pl.B pl.o (sortI xs).toArray) os) rfl rfl rfl (Nat.le_add_right _ _) (by rw [hheap, Array.size_append, hsz]; omega)
    (fun B hB hne => by
      rw [hheap, Array.getElem?_append_left (by rw [hsz]; exact hB), Array.getElem?_modify, if_neg (Ne.symm hne)])
    (fun C2 e2 fz2 hC2 => by
      rw [c1] at hC2
      simp only [Option.some.injEq, Obj.cells.injEq] at hC2
      obtain ⟨rfl, rfl, rfl⟩ := hC2
      refine ⟨Go.Sort.putCells (Value.int .i64) pl.o (sortI xs).toArray C, ?_, by simp [Go.Sort.putCells], fun i v hi => ?_⟩
      · rw [hheap, Array.getElem?_append_left (by rw [hsz]; exact hblk), Array.getElem?_modify, if_pos rfl, c1]; rfl
      · have hi' : i < (sortI xs).length := by have := (List.getElem?_eq_some_iff.mp hi).1; omega
        rw [int_get _ i hi'] at hi
        obtain rfl := Option.some.inj hi
        have hin : pl.o + i < C.size := by omega
        refine ⟨.int .i64 (sortI xs)[i], ?_, .int _ _⟩
        unfold Go.Sort.putCells
        rw [Array.getElem?_mapIdx, Array.getElem?_eq_getElem hin]
        simp only [Option.map_some]
        rw [if_pos ⟨by omega, by simp; omega⟩, Nat.add_sub_cancel_left]
        simp [hi'])
  exact ⟨q1, q2, .of_flat2 rfl⟩
end Go.Proofs.Yth
