import Derived.Test.YthglohpeijfcfaaAmVs0
import Derived.Test.YthglohpeijfcfaaAmV6
import Derived.Test.YthglohpeijfcfaaAmW
set_option linter.unusedVariables false
set_option linter.unusedSimpArgs false
set_option linter.unusedSectionVars false
namespace Go.Proofs.Yth
open Go Go.Am
theorem PP_eq : PP = Try.prog := by unfold PP; rfl
instance : Inhabited SeatR := ⟨⟨0, 0, 0, 0⟩⟩
theorem cmpS_lt (x y : SeatR) : ltOf cmpS x y = lessS x y := by
  unfold ltOf cmpS
  by_cases h1 : lessS x y = true
  · rw [if_pos h1, h1]; rfl
  · rw [if_neg h1]
    have : lessS x y = false := by simpa using h1
    rw [this]
    split <;> rfl
theorem lessS_iff (a b : SeatR) : lessS a b = true ↔ a.row < b.row ∨ (a.row = b.row ∧ a.x < b.x) := by
  simp [lessS]
theorem swoS : Go.Sort.SWO (ltOf cmpS) where
  irrefl x := by rw [cmpS_lt, ← Bool.not_eq_true, lessS_iff]; omega
  trans x y z h1 h2 := by rw [cmpS_lt, lessS_iff] at *; omega
  ntrans x y z h1 h2 := by rw [cmpS_lt, ← Bool.not_eq_true, lessS_iff] at *; omega
theorem flat_get {α : Type} [Inhabited α] (enc : α → List Value) (k : Nat) (hk : ∀ x, (enc x).length = k) (xs : List α) (j : Nat) (hj : j < xs.length * k) :
    (xs.flatMap enc)[j]? = some ((enc xs.toArray[j / k]!)[j % k]!) := by
  have hk0 : 0 < k := by rcases Nat.eq_zero_or_pos k with h | h; · subst h; simp at hj
                         · exact h
  have hq : j / k < xs.length := (Nat.div_lt_iff_lt_mul hk0).2 hj
  have hd := flatA_drop (enc := enc) k hk xs (j / k)
  have e : (xs.flatMap enc)[j]? = ((xs.flatMap enc).drop (j / k * k))[j % k]? := by
    rw [List.getElem?_drop]; congr 1
    have := Nat.div_add_mod j k
    rw [Nat.mul_comm] at this; omega
  rw [e, hd, List.drop_eq_getElem_cons hq, List.flatMap_cons, List.getElem?_append_left (by rw [hk]; exact Nat.mod_lt _ hk0)]
  have h2 : j % k < (enc xs[j / k]).length := by rw [hk]; exact Nat.mod_lt _ hk0
  have h3 : xs.toArray[j / k]! = xs[j / k] := by simp [hq]
  rw [List.getElem?_eq_getElem h2, h3]
  congr 1
  exact (getElem!_pos (enc xs[j / k]) (j % k) h2).symm
theorem seat_int (xs : List SeatR) (v : Value) (hm : v ∈ xs.flatMap seatC) : ∃ n, v = .int .i64 n := by
  obtain ⟨s, _, hs⟩ := List.mem_flatMap.1 hm
  simp only [seatC, List.mem_cons, List.not_mem_nil, or_false] at hs
  rcases hs with z | z | z | z <;> exact ⟨_, z⟩
def SortedS (ys : List SeatR) : Prop := ∀ (i j : Nat) (a b : SeatR), i < j → ys[i]? = some a → ys[j]? = some b → lessS b a = false
theorem sortF_ok (b c : Nat) (xs : List SeatR) (hn : xs ≠ []) (hl : xs.length ≤ 1073741824) (h : Heap) (hb : h.f b = .row true 34 (xs.flatMap seatC)) :
    ACalls PP 23 [.slice (some ⟨b, 0, none⟩) xs.length c, .func (.func 24) #[] #[]] h (fun r h' => r = .tuple #[] ∧ ∃ ys, ys.Perm xs ∧ SortedS ys ∧ h' = h.set b (.row true 34 (ys.flatMap seatC))) := by
  rw [PP_eq]
  refine ⟨⟨Try.f23, Try.func23, by kernel_rfl, by kernel_rfl⟩, fun ρ w args' hbx R V => ?_⟩
  obtain ⟨v0, hv0, V0⟩ := V.2 0 _ rfl
  obtain ⟨v1, hv1, V1⟩ := V.2 1 _ rfl
  have hargs : args' = [v0, v1] := by
    have := V.1
    match args', hv0, hv1, this with
    | [p, q], h0, h1, _ => simp at h0 h1; rw [h0, h1]
  subst hargs
  have e1 : v1 = .func (.func 24) #[] #[] := by
    cases V1 with
    | func fn p p' q q' ha hl _ _ =>
      have h1 : p' = [] := List.eq_nil_of_length_eq_zero ha.symm
      have h2 : q' = [] := List.eq_nil_of_length_eq_zero hl.symm
      subst h1; subst h2; rfl
  subst e1
  have hlen : 0 < xs.length := List.length_pos_iff.2 hn
  obtain ⟨pl, cap, hk, e0⟩ : ∃ pl cap, ρ (false, b) = some pl ∧ v0 = .slice (some ⟨pl.B, pl.o, none⟩) xs.length cap := by
    rcases V0.slice_some with ⟨a', e, _⟩ | ⟨b', off, pl, cap, e, hk, hc, hn', rfl⟩
    · omega
    · simp only [Addr.mk.injEq, and_true] at e
      obtain ⟨rfl, rfl⟩ := e
      exact ⟨pl, cap, hk, by simp⟩
  subst e0
  obtain ⟨C, e', fz, c1, c2, c3, c4, c5, c6⟩ := R.row (false, b) pl true 34 (xs.flatMap seatC) hk (by simp [Mem.row?, hb])
  obtain rfl := c2 rfl
  have hblk := R.bound _ _ hk
  have hfl : (xs.flatMap seatC).length = xs.length * 4 := flatA_len 4 seatC_len xs
  have hcell : ∀ j, j < xs.length * 4 → C[pl.o + j]? = some ((seatC xs.toArray[j / 4]!)[j % 4]!) := by
    intro j hj
    have hg := flat_get seatC 4 seatC_len xs j hj
    obtain ⟨v', q1, q2⟩ := c6 j _ hg
    rw [q1]
    congr 1
    refine q2.flat1 ?_
    have hm : (seatC xs.toArray[j / 4]!)[j % 4]! ∈ xs.flatMap seatC := List.mem_of_getElem? hg
    obtain ⟨n, hn⟩ := seat_int xs _ hm
    rw [hn]; rfl
  have hH : Go.Sort.HoldsK seatC 4 w pl.B pl.o xs.toArray := by
    intro j hj
    rw [Go.Sort.size_flatK] at hj
    have hj' : j < xs.length * 4 := by simpa using hj
    rw [Go.Sort.get_flatK _ _ _ _ hj]
    constructor
    · unfold World.cell?
      simp only [c1, Option.isSome_none]
      exact hcell j hj'
    · unfold World.frozen?
      simp only [c1]
      simp
  have hcmp : CmpLays Try.prog 24 #[] seatC 4 cmpS pl.B pl.o xs.toArray.size w := by
    intro m os dk _ x y
    have := (PP_eq ▸ cmp_ok x y h0 : ACalls Try.prog 24 [seatV x, seatV y] h0 _).grown (fun v h' q => q.2) rfl (fun v hv => by
      simp only [List.mem_cons, List.not_mem_nil, or_false] at hv
      rcases hv with z | z <;> rw [z] <;> rfl) (sortWorldK seatC 4 w pl.B pl.o m dk os)
    exact this
  have hcon := AnyQ.slices_SortFunc Try.sortSeats 4 Try.isAgg34 Try.sizeOf34 seatC seatC_len (fun x v hv => by
    simp only [seatC, List.mem_cons, List.not_mem_nil, or_false] at hv
    rcases hv with z | z | z | z <;> rw [z] <;> rfl) cmpS swoS 24 #[] pl.B pl.o cap xs.toArray w (enters_of Try.func24 (by kernel_rfl) rfl) hcmp hH hblk (by simp; omega)
  have hcon' : Calls Try.prog 23 ⟨[.slice (some ⟨pl.B, pl.o, none⟩) xs.length cap, .func (.func 24) #[] #[]]⟩ w _ := hcon
  refine hcon'.mono ?_
  rintro e w' ⟨rfl, d', n, os, hperm, hsort, rfl⟩
  obtain ⟨p1, p2, p3⟩ := hperm
  have hd : d'.size = xs.length := by simpa using p1
  have hdl : (d'.extract 0 xs.toArray.size).toList = d'.toList := by simp; rw [List.take_of_length_le (by simp [hd])]
  have hxl : (xs.toArray.extract 0 xs.toArray.size).toList = xs := by simp
  rw [hdl, hxl] at p3
  have hys : ∀ i a, d'.toList[i]? = some a → d'[i]! = a ∧ i < xs.length := by
    intro i a hi
    have hlt := (List.getElem?_eq_some_iff.mp hi).1
    have hlt' : i < d'.size := by simpa using hlt
    refine ⟨?_, by omega⟩
    rw [getElem!_pos d' i hlt']
    have := (List.getElem?_eq_some_iff.mp hi).2
    simpa using this
  refine ⟨.tuple #[], .tuple #[], _, ρ, rfl, ⟨rfl, d'.toList, p3, fun i j a b hij hi hj => ?_, rfl⟩, hbx, ?_⟩
  · obtain ⟨a1, a2⟩ := hys i a hi
    obtain ⟨b1, b2⟩ := hys j b hj
    have := hsort i j (Nat.zero_le _) hij (by simpa using b2)
    rw [cmpS_lt, a1, b1] at this
    exact this
  · have hfl' : (d'.toList.flatMap seatC).length = xs.length * 4 := by rw [flatA_len 4 seatC_len]; simp [hd]
    have hheap : (sortWorldK seatC 4 w pl.B pl.o n d' os).heap = (w.heap.modify pl.B (Go.Sort.onCells (Go.Sort.putCells id pl.o (Go.Sort.flatK seatC 4 d')))) ++ os := rfl
    have hsz : (w.heap.modify pl.B (Go.Sort.onCells (Go.Sort.putCells id pl.o (Go.Sort.flatK seatC 4 d')))).size = w.heap.size := by simp
    obtain ⟨q1, q2⟩ := turned R hk hb (cs' := d'.toList.flatMap seatC) (by rw [hfl', hfl]) (w' := sortWorldK seatC 4 w pl.B pl.o n d' os) rfl rfl rfl (Nat.le_add_right _ _) (by rw [hheap, Array.size_append, hsz]; omega)
      (fun B hB hne => by
        rw [hheap, Array.getElem?_append_left (by rw [hsz]; exact hB), Array.getElem?_modify, if_neg (Ne.symm hne)])
      (fun C2 e2 fz2 hC2 => by
        rw [c1] at hC2
        simp only [Option.some.injEq, Obj.cells.injEq] at hC2
        obtain ⟨rfl, rfl, rfl⟩ := hC2
        refine ⟨Go.Sort.putCells id pl.o (Go.Sort.flatK seatC 4 d') C, ?_, by simp [Go.Sort.putCells], fun i v hi => ?_⟩
        · rw [hheap, Array.getElem?_append_left (by rw [hsz]; exact hblk), Array.getElem?_modify, if_pos rfl, c1]; rfl
        · have hi' : i < xs.length * 4 := by have := (List.getElem?_eq_some_iff.mp hi).1; omega
          have hg := flat_get seatC 4 seatC_len d'.toList i (by simpa [hd] using hi')
          rw [hg] at hi
          obtain rfl := Option.some.inj hi
          have hin : pl.o + i < C.size := by omega
          refine ⟨(seatC d'[i / 4]!)[i % 4]!, ?_, ?_⟩
          · unfold Go.Sort.putCells
            rw [Array.getElem?_mapIdx, Array.getElem?_eq_getElem hin]
            simp only [Option.map_some, id]
            rw [if_pos ⟨by omega, by rw [Go.Sort.size_flatK, hd]; omega⟩, Nat.add_sub_cancel_left, Go.Sort.get_flatK _ _ _ _ (by rw [hd]; exact hi')]
          · simp only [Array.toArray_toList]
            have hm : (seatC d'[i / 4]!)[i % 4]! ∈ d'.toList.flatMap seatC := by
              have := List.mem_of_getElem? hg
              simpa using this
            obtain ⟨n, hn⟩ := seat_int _ _ hm
            rw [hn]; exact .int _ _)
    exact ⟨q1, q2, .of_flat2 rfl⟩
end Go.Proofs.Yth
