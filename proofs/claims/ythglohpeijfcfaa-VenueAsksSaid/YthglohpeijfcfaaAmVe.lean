import Derived.Test.YthglohpeijfcfaaAmVd
set_option linter.unusedVariables false
set_option linter.unusedSimpArgs false
set_option linter.unusedSectionVars false
namespace Go.Proofs.Yth
open Go Go.Am
set_option maxRecDepth 20000
set_option maxHeartbeats 2000000
theorem made_sorted {i : Nat} {v : VenR} {row x : Int} (M : Made i v row x) : ∀ (j d : Nat) (s t : SeatR), v.seats[j]? = some s → v.seats[j + d + 1]? = some t → lessS s t = true := by
  intro j d
  induction d with
  | zero => intro s t h1 h2; exact M.up j s t h1 h2
  | succ d ih =>
    intro s t h1 h2
    have hlt := (List.getElem?_eq_some_iff.mp h2).1
    have h3 : v.seats[j + d + 1]? = some v.seats[j + d + 1] := List.getElem?_eq_getElem (by omega)
    have q1 := ih s _ h1 h3
    have q2 := M.up _ _ _ h3 (by rw [show j + d + 1 + 1 = j + (d + 1) + 1 by omega]; exact h2)
    rw [lessS_iff] at *
    omega
theorem made_pw {i : Nat} {v : VenR} {row x : Int} (M : Made i v row x) : v.seats.Pairwise (fun a b => lessS a b = true) := by
  rw [List.pairwise_iff_getElem]
  intro a b ha hb hab
  exact made_sorted M a (b - a - 1) _ _ (List.getElem?_eq_getElem ha) (by rw [show a + (b - a - 1) + 1 = b by omega]; exact List.getElem?_eq_getElem hb)
theorem perm_sorted {xs ys : List SeatR} (hx : xs.Pairwise (fun a b => lessS a b = true)) (hp : ys.Perm xs) (hs : SortedS ys) : ys = xs := by
  have hy : ys.Pairwise (fun a b => lessS b a = false) := by
    rw [List.pairwise_iff_getElem]
    intro a b ha hb hab
    exact hs a b _ _ hab (List.getElem?_eq_getElem ha) (List.getElem?_eq_getElem hb)
  induction xs generalizing ys with
  | nil => exact List.perm_nil.1 hp
  | cons x r ih =>
    cases ys with
    | nil => exact absurd hp.length_eq (by simp)
    | cons y z =>
      rw [List.pairwise_cons] at hx hy
      have e : y = x := by
        rcases List.mem_cons.1 (hp.subset (List.mem_cons_self)) with e | e
        · exact e
        · have q1 := hx.1 y e
          rcases List.mem_cons.1 (hp.symm.subset (List.mem_cons_self)) with e2 | e2
          · exact e2.symm
          · have := hy.1 x e2; rw [q1] at this; cases this
      subst e
      rw [ih hx.2 ((List.perm_cons y).1 hp) (fun i j a b hij hi hj => hs (i + 1) (j + 1) a b (by omega) hi hj) hy.2]
theorem sortI_up {l ks : List Int} (hu : ∀ j a b, ks[j]? = some a → ks[j + 1]? = some b → a < b) (hp : l.Perm ks) : sortI l = ks := by
  have h1 : (sortI l).Perm ks := (List.mergeSort_perm l _).trans hp
  have h2 : (sortI l).Pairwise (fun a b => a ≤ b) := by
    have := List.pairwise_mergeSort (le := fun a b : Int => decide (a ≤ b)) (fun a b c h1 h2 => by simp at *; omega) (fun a b => by simp; omega) l
    exact this.imp (fun h => by simpa using h)
  have h3 : ks.Pairwise (fun a b => a < b) := by
    have key : ∀ (d j : Nat) (a b : Int), ks[j]? = some a → ks[j + d + 1]? = some b → a < b := by
      intro d
      induction d with
      | zero => exact hu
      | succ d ih =>
        intro j a b q1 q2
        have hlt := (List.getElem?_eq_some_iff.mp q2).1
        have q3 : ks[j + d + 1]? = some ks[j + d + 1] := List.getElem?_eq_getElem (by omega)
        have r1 := ih j a _ q1 q3
        have r2 := hu _ _ _ q3 (by rw [show j + d + 1 + 1 = j + (d + 1) + 1 by omega]; exact q2)
        omega
    rw [List.pairwise_iff_getElem]
    intro a b ha hb hab
    exact key (b - a - 1) a _ _ (List.getElem?_eq_getElem ha) (by rw [show a + (b - a - 1) + 1 = b by omega]; exact List.getElem?_eq_getElem hb)
  exact h1.eq_of_pairwise (fun a b _ _ q1 q2 => by omega) h2 (h3.imp (fun h => by omega))
def trn (k n : Nat) (a : Int) : Int := (a - k + n) % n
def turnK (k n j : Nat) (K : List Int) : List Int := ((K.take j).map (trn k n)).reverse
def turnV (v : VenR) (k : Nat) : VenR := ⟨v.seats.drop k ++ v.seats.take k, v.gap, v.radius, turnK k v.seats.length v.kills.length v.kills, v.poles⟩
theorem turn_perm (v : VenR) (k : Nat) : (turnV v k).seats.Perm v.seats := by
  show (v.seats.drop k ++ v.seats.take k).Perm v.seats
  have := (List.perm_append_comm (l₁ := v.seats.drop k) (l₂ := v.seats.take k))
  rwa [List.take_append_drop] at this
theorem made_find {i : Nat} {v : VenR} {row x : Int} (M : Made i v row x) {a : Nat} (ha : a < v.seats.length) : findA (atS (v.seats.getD a default)) v.seats = a := by
  have e : v.seats[a]? = some v.seats[a] := List.getElem?_eq_getElem ha
  have e2 : v.seats.getD a default = v.seats[a] := by simp [List.getD_eq_getElem?_getD, e]
  rw [e2]
  refine find_hit e (by simp [atS]) (fun j t hj ht => ?_)
  have := made_sorted M j (a - j - 1) t _ ht (by rw [show j + (a - j - 1) + 1 = a by omega]; exact e)
  rw [lessS_iff] at this
  simp only [atS, Bool.and_eq_false_iff, decide_eq_false_iff_not]
  omega
theorem turn_get {v : VenR} {k : Nat} {a : Int} (hk : k < v.seats.length) (h0 : 0 ≤ a) (h1 : a < v.seats.length) : 0 ≤ trn k v.seats.length a ∧ trn k v.seats.length a < v.seats.length ∧ (turnV v k).seats.getD (trn k v.seats.length a).toNat default = v.seats.getD a.toNat default := by
  obtain ⟨n, hn⟩ : ∃ n, n = v.seats.length := ⟨_, rfl⟩
  rw [← hn] at hk h1 ⊢
  have hz : trn k n a = if (k : Int) ≤ a then a - k else a - k + n := by
    unfold trn
    split
    · rw [Int.add_emod_right, Int.emod_eq_of_lt (by omega) (by omega)]
    · rw [Int.emod_eq_of_lt (by omega) (by omega)]
  rw [hz]
  refine ⟨by split <;> omega, by split <;> omega, ?_⟩
  show (v.seats.drop k ++ v.seats.take k).getD _ default = _
  rw [List.getD_eq_getElem?_getD, List.getD_eq_getElem?_getD]
  congr 1
  by_cases q : (k : Int) ≤ a
  · rw [if_pos q, List.getElem?_append_left (by rw [List.length_drop]; omega), List.getElem?_drop]
    congr 1; omega
  · rw [if_neg q, List.getElem?_append_right (by rw [List.length_drop]; omega), List.length_drop, List.getElem?_take, if_pos (by omega)]
    congr 1; omega
theorem turn_killed {i : Nat} {v : VenR} {row x : Int} (M : Made i v row x) {k : Nat} (hk : k < v.seats.length) : (killedL (turnV v k)).map (fun s => findA (atS s) v.seats) = v.kills.reverse := by
  have hlen := M.len
  have e : (turnV v k).kills = (v.kills.map (trn k v.seats.length)).reverse := by
    show turnK k v.seats.length v.kills.length v.kills = _
    unfold turnK
    rw [List.take_length]
  unfold killedL
  rw [e, List.map_map, List.map_reverse, List.map_map]
  congr 1
  rw [List.map_congr_left (g := id) (fun a ha => ?_), List.map_id]
  have hb := M.kill a ha
  obtain ⟨q1, q2, q3⟩ := turn_get (a := a) hk (by omega) (by omega)
  simp only [Function.comp]
  rw [q3, made_find M (by omega)]
  simp only [id]; omega
theorem turn_in {i : Nat} {v : VenR} {row x : Int} (M : Made i v row x) {k : Nat} (hk : k < v.seats.length) : killsIn (turnV v k) = true := by
  have hlen := M.len
  unfold killsIn
  rw [List.all_eq_true]
  intro z hz
  have hz' : z ∈ turnK k v.seats.length v.kills.length v.kills := hz
  unfold turnK at hz'
  rw [List.take_length, List.mem_reverse, List.mem_map] at hz'
  obtain ⟨a, ha, rfl⟩ := hz'
  have hb := M.kill a ha
  obtain ⟨q1, q2, _⟩ := turn_get (a := a) hk (by omega) (by omega)
  have hl := (turn_perm v k).length_eq
  simp only [Bool.and_eq_true, decide_eq_true_eq]
  omega
theorem self_killed {i : Nat} {v : VenR} {row x : Int} (M : Made i v row x) : (killedL v).map (fun s => findA (atS s) v.seats) = v.kills := by
  have hlen := M.len
  unfold killedL
  rw [List.map_map, List.map_congr_left (g := id) (fun a ha => ?_), List.map_id]
  have hb := M.kill a ha
  simp only [Function.comp]
  rw [made_find M (by omega)]
  simp only [id]; omega
theorem self_in {i : Nat} {v : VenR} {row x : Int} (M : Made i v row x) : killsIn v = true := by
  have hlen := M.len
  unfold killsIn
  rw [List.all_eq_true]
  intro a ha
  have hb := M.kill a ha
  simp only [Bool.and_eq_true, decide_eq_true_eq]
  omega
theorem made_noAdj {i : Nat} {v : VenR} {row x : Int} (M : Made i v row x) : NoAdj v.kills := fun j a b h1 h2 => by have := M.kup j a b h1 h2; omega
theorem made_may {i : Nat} {v : VenR} {row x : Int} (M : Made i v row x) (hi : i ≤ 150) : mayV v = true := by
  have hlen := M.len
  have hg := M.gap
  have hr := M.radius
  have hkl := M.klen
  have hpl := M.plen
  have h1 : seatsOK v.seats = true := by
    unfold seatsOK
    rw [Bool.and_eq_true]
    refine ⟨?_, by simp; omega⟩
    rw [List.all_eq_true]
    intro j hj
    rw [List.mem_range] at hj
    unfold pairOK
    have e : v.seats[j]? = some v.seats[j] := List.getElem?_eq_getElem hj
    rw [e]
    have hs := M.seat _ (List.getElem_mem hj)
    have h1 : seatOK v.seats[j] = true := by
      simp only [seatOK, inB, Bool.and_eq_true, decide_eq_true_eq]
      omega
    simp only [h1, Bool.true_and]
    by_cases h0 : j = 0
    · simp [h0]
    · have e2 : v.seats[j - 1]? = some v.seats[j - 1] := List.getElem?_eq_getElem (by omega)
      rw [e2]
      have := M.up (j - 1) _ _ e2 (by rw [show j - 1 + 1 = j by omega]; exact e)
      simp [this]
  have h2 : inB v.gap 1 1048576 = true := by simp [inB, hg]
  have h3 : inB v.radius 0 1048576 = true := by simp [inB]; omega
  have h4 : killsOK v.kills v.seats.length = true := by
    unfold killsOK
    rw [Bool.and_eq_true]
    refine ⟨?_, by simp; omega⟩
    rw [List.all_eq_true]
    intro j hj
    rw [List.mem_range] at hj
    unfold killOK
    have e : v.kills[j]? = some v.kills[j] := List.getElem?_eq_getElem hj
    rw [e]
    have hs := M.kill _ (List.getElem_mem hj)
    simp only [Bool.and_eq_true, Bool.or_eq_true, decide_eq_true_eq]
    refine ⟨by omega, by omega, ?_⟩
    by_cases h0 : j = 0
    · exact .inl h0
    · have e2 : v.kills[j - 1]? = some v.kills[j - 1] := List.getElem?_eq_getElem (by omega)
      rw [e2]
      have := M.kup (j - 1) _ _ e2 (by rw [show j - 1 + 1 = j by omega]; exact e)
      exact .inr (by simpa using this)
  have h5 : polesOK v.poles = true := by
    unfold polesOK
    rw [Bool.and_eq_true]
    refine ⟨?_, by simp; omega⟩
    rw [List.all_eq_true]
    intro j hj
    rw [List.mem_range] at hj
    unfold poleI
    have e : v.poles[j]? = some v.poles[j] := List.getElem?_eq_getElem hj
    rw [e]
    have hs := M.pole _ (List.getElem_mem hj)
    simp only [poleOK, inB, Bool.and_eq_true, decide_eq_true_eq]
    omega
  unfold mayV wrongV
  rw [h1, h2, h3, h4, h5]
  rfl
end Go.Proofs.Yth
