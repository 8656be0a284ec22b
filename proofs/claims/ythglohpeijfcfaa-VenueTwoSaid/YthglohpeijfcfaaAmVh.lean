import Derived.Test.YthglohpeijfcfaaAmVe
set_option linter.unusedVariables false
set_option linter.unusedSimpArgs false
set_option linter.unusedSectionVars false
namespace Go.Proofs.Yth
open Go Go.Am
set_option maxRecDepth 20000
set_option maxHeartbeats 4000000
def putS (other : Bool) (s : SeatR) : SeatR := if other then { s with row := 900 } else s
def insV (v : VenR) (j : Nat) (s : SeatR) : VenR := ⟨v.seats.take j ++ [s] ++ v.seats.drop j, v.gap, v.radius, [], []⟩
theorem ins_perm (v : VenR) (j : Nat) (s : SeatR) : (insV v j s).seats.Perm (v.seats ++ [s]) := by
  show (v.seats.take j ++ [s] ++ v.seats.drop j).Perm _
  have h1 : (v.seats.take j ++ [s] ++ v.seats.drop j).Perm (v.seats.take j ++ v.seats.drop j ++ [s]) := by
    rw [List.append_assoc, List.append_assoc]
    exact List.Perm.append_left _ List.perm_append_comm
  rwa [List.take_append_drop] at h1
theorem two_out (v : VenR) (j : Nat) (s : SeatR) (ys : List SeatR) : outV (insV v j s) ys = ⟨ys, v.gap, v.radius, [], []⟩ := by
  have e1 : killedL (insV v j s) = [] := rfl
  unfold outV
  rw [e1]
  have e2 : sortI ([].map (fun s => findA (atS s) ys)) = [] := by simp [sortI]
  rw [e2]; rfl
theorem seatsOK_pw {l : List SeatR} (h : seatsOK l = true) : l.Pairwise (fun a b => lessS a b = true) := by
  unfold seatsOK at h
  rw [Bool.and_eq_true, List.all_eq_true] at h
  have key : ∀ (d i : Nat) (a b : SeatR), l[i]? = some a → l[i + d + 1]? = some b → lessS a b = true := by
    have step : ∀ (i : Nat) (a b : SeatR), l[i]? = some a → l[i + 1]? = some b → lessS a b = true := by
      intro i a b h1 h2
      have hlt := (List.getElem?_eq_some_iff.mp h2).1
      have := h.1 (i + 1) (List.mem_range.2 hlt)
      unfold pairOK at this
      rw [h2, show i + 1 - 1 = i by omega, h1] at this
      simp at this
      exact this.2
    intro d
    induction d with
    | zero => exact step
    | succ d ih =>
      intro i a b h1 h2
      have hlt := (List.getElem?_eq_some_iff.mp h2).1
      have h3 : l[i + d + 1]? = some l[i + d + 1] := List.getElem?_eq_getElem (by omega)
      have q1 := ih i a _ h1 h3
      have q2 := step _ _ _ h3 (by rw [show i + d + 1 + 1 = i + (d + 1) + 1 by omega]; exact h2)
      rw [lessS_iff] at *
      omega
  rw [List.pairwise_iff_getElem]
  intro a b ha hb hab
  exact key (b - a - 1) a _ _ (List.getElem?_eq_getElem ha) (by rw [show a + (b - a - 1) + 1 = b by omega]; exact List.getElem?_eq_getElem hb)
theorem two_no {v : VenR} {j : Nat} {s : SeatR} (hs : s ∈ v.seats) {ys : List SeatR} (hp : ys.Perm (insV v j s).seats) : mayV (outV (insV v j s) ys) = false := by
  rw [two_out]
  cases h : seatsOK ys with
  | true =>
    exfalso
    have h1 := seatsOK_pw h
    have h2 := hp.trans (ins_perm v j s)
    have hnd : ys.Nodup := h1.imp (fun {a b} hab hne => by subst hne; rw [lessS_iff] at hab; omega)
    have := (h2.nodup_iff.1 hnd)
    rw [List.nodup_append] at this
    exact this.2.2 s hs s (by simp) rfl
  | false => unfold mayV wrongV; rw [if_pos h]; rfl
theorem two_yes {i : Nat} {v : VenR} {row x : Int} (M : Made i v row x) (hi : i ≤ 20) {j : Nat} {s : SeatR} (hs : s ∈ v.seats) {ys : List SeatR} (hp : ys.Perm (insV v j { s with row := 900 }).seats) (hy : SortedS ys) :
    mayV (outV (insV v j { s with row := 900 }) ys) = true := by
  have hpw : (v.seats ++ [{ s with row := 900 }]).Pairwise (fun a b => lessS a b = true) := by
    rw [List.pairwise_append]
    refine ⟨made_pw M, by simp, fun a ha b hb => ?_⟩
    obtain rfl := List.mem_singleton.1 hb
    have := M.seat a ha
    rw [lessS_iff]
    simp only
    omega
  obtain rfl := perm_sorted hpw (hp.trans (ins_perm v j _)) hy
  rw [two_out]
  have hlen := M.len
  have hg := M.gap
  have hr := M.radius
  have h1 : seatsOK (v.seats ++ [{ s with row := 900 }]) = true := by
    unfold seatsOK
    rw [Bool.and_eq_true]
    refine ⟨?_, by simp; omega⟩
    rw [List.all_eq_true]
    intro m hm
    rw [List.mem_range] at hm
    unfold pairOK
    have e : (v.seats ++ [{ s with row := 900 }])[m]? = some (v.seats ++ [{ s with row := 900 }])[m] := List.getElem?_eq_getElem hm
    rw [e]
    have hin := List.getElem_mem hm
    have h1 : seatOK (v.seats ++ [{ s with row := 900 }])[m] = true := by
      generalize (v.seats ++ [{ s with row := 900 }])[m] = z at hin
      simp only [seatOK, inB, Bool.and_eq_true, decide_eq_true_eq]
      rcases List.mem_append.1 hin with q | q
      · have := M.seat _ q; omega
      · obtain rfl := List.mem_singleton.1 q
        have := M.seat _ hs
        simp only
        omega
    simp only [h1, Bool.true_and]
    by_cases h0 : m = 0
    · simp [h0]
    · have e2 : (v.seats ++ [{ s with row := 900 }])[m - 1]? = some (v.seats ++ [{ s with row := 900 }])[m - 1] := List.getElem?_eq_getElem (by omega)
      rw [e2]
      have := (List.pairwise_iff_getElem.1 hpw) (m - 1) m (by omega) hm (by omega)
      simp [this]
  have h2 : inB v.gap 1 1048576 = true := by simp [inB, hg]
  have h3 : inB v.radius 0 1048576 = true := by simp [inB]; omega
  have h4 : killsOK [] (v.seats ++ [{ s with row := 900 }]).length = true := by simp [killsOK]
  have h5 : polesOK [] = true := by simp [polesOK]
  unfold mayV wrongV
  rw [h1, h2, h3, h4, h5]
  rfl
theorem ins_flat {v : VenR} {j : Nat} {s : SeatR} (hj : j ≤ v.seats.length) : (insV v j s).seats.flatMap seatC = (v.seats.flatMap seatC).take (j * 4) ++ seatC s ++ (v.seats.flatMap seatC).drop (j * 4) := by
  show (v.seats.take j ++ [s] ++ v.seats.drop j).flatMap seatC = _
  rw [List.flatMap_append, List.flatMap_append, flatA_drop 4 seatC_len]
  congr 1
  congr 1
  · have e : v.seats.flatMap seatC = (v.seats.take j).flatMap seatC ++ (v.seats.drop j).flatMap seatC := by rw [← List.flatMap_append, List.take_append_drop]
    have := flatA_len 4 seatC_len (v.seats.take j)
    rw [e, List.take_append_of_le_length (by rw [this, List.length_take]; omega)]
    exact (List.take_of_length_le (by rw [this, List.length_take]; omega)).symm
def MT1 (h1 : Heap) (other : Bool) (cs : List Value) (j : Nat) (s : SeatR) (σ : St) : Prop := σ.m.h = h1 ∧ σ.t.get 3 = some (.bool other) ∧ σ.t.get 9 = some (.pointer (some ⟨9, 0, some 0⟩)) ∧ σ.t.get 11 = some (.int .i64 (j : Nat)) ∧ σ.t.get 12 = some (.pointer (some ⟨12, 0, some 0⟩)) ∧
  σ.m.x.look 9 = some (26, cs) ∧ σ.m.x.look 12 = some (34, seatC s)
def MT2 (h1 : Heap) (other : Bool) (cs : List Value) (u : VenR) (σ : St) : Prop := ∃ bu cu, Ext h1 σ.m.h ∧ σ.m.h.f bu = .row true 34 (u.seats.flatMap seatC) ∧ bu < σ.m.h.n ∧ σ.t.get 3 = some (.bool other) ∧ σ.t.get 9 = some (.pointer (some ⟨9, 0, some 0⟩)) ∧ σ.t.get 13 = some (.pointer (some ⟨13, 0, some 0⟩)) ∧
  σ.m.x.look 9 = some (26, cs) ∧ σ.m.x.look 13 = some (26, [.slice (some ⟨bu, 0, none⟩) u.seats.length cu, .int .i64 u.gap, .int .i64 u.radius, .slice none 0 0, .slice none 0 0])
theorem two_ok (lv : Value) (l : List Int) (which at' : Int) (other : Bool) (hl : l.length ≤ 4611686018427387904) (h : Heap) (hs : IntS h lv l) : ACalls PP 8 [lv, .int .i64 which, .int .i64 at', .bool other] h (fun v _ => v = .bool true) := by
  refine acalls_of_vc mix fn8 bodyEq8 rfl (by show 4 ≤ 100; decide) ok8 ?_
  simp only [body8, Try.f8]
  obtain ⟨ad, cap, rfl⟩ := hs.shape
  simp -implicitDefEqProofs
  refine (make_ok _ l 20 (by omega) hl h hs).mono ?_
  rintro r h1 ⟨E1, i, v, row, x, a, b, c, cs, him, hM, ha, hO, rfl⟩
  obtain ⟨bs, rfl⟩ : ∃ bs, a = some bs := by cases a with | none => exact absurd rfl ha | some b => exact ⟨b, rfl⟩
  have hO' := hO
  obtain ⟨sv, kv, pv, rfl, ⟨rfl, o1, o12, o13⟩, ⟨rfl, o2⟩, ⟨rfl, o3⟩, a1, a2, a3⟩ := hO
  have hlen := hM.len
  obtain ⟨n, hn⟩ : ∃ n, n = v.seats.length := ⟨_, rfl⟩
  have hn' : n = i + 1 := by omega
  obtain ⟨n1, hn1⟩ : ∃ n1, n1 = n + 1 := ⟨_, rfl⟩
  obtain ⟨q, hq⟩ : ∃ q : Int, q = which % 18446744073709551616 := ⟨_, rfl⟩
  obtain ⟨p, hp⟩ : ∃ q : Int, q = at' % 18446744073709551616 := ⟨_, rfl⟩
  have e1 : IntKind.wrap .u64 which = q := by rw [u64wrap_mod, hq]
  have e1' : IntKind.wrap .u64 at' = p := by rw [u64wrap_mod, hp]
  have e2 : IntKind.wrap .u64 (n : Int) = (n : Int) := u64wrap (by omega)
  have e2' : IntKind.wrap .i64 ((n : Int) + 1) = (n1 : Int) := by rw [i64wrap (by omega)]; omega
  have e2'' : IntKind.wrap .u64 (n1 : Int) = (n1 : Int) := u64wrap (by omega)
  obtain ⟨k, hk⟩ : ∃ k : Nat, k = (q % n).toNat := ⟨_, rfl⟩
  obtain ⟨j, hj⟩ : ∃ j : Nat, j = (p % n1).toNat := ⟨_, rfl⟩
  have hq0 : 0 ≤ q := by omega
  have hp0 : 0 ≤ p := by omega
  have hmod := Int.emod_nonneg q (b := (n : Int)) (by omega)
  have hmod2 := Int.emod_lt_of_pos q (b := (n : Int)) (by omega)
  have hmod3 := Int.emod_nonneg p (b := (n1 : Int)) (by omega)
  have hmod4 := Int.emod_lt_of_pos p (b := (n1 : Int)) (by omega)
  have e3 : q.tmod (n : Int) = (k : Int) := by rw [Int.tmod_eq_emod_of_nonneg hq0]; omega
  have e3' : p.tmod (n1 : Int) = (j : Int) := by rw [Int.tmod_eq_emod_of_nonneg hp0]; omega
  have hkn : k < n := by omega
  have hjn : j ≤ n := by omega
  have e4 : IntKind.wrap .u64 (k : Int) = (k : Int) := u64wrap (by omega)
  have e5 : IntKind.wrap .i64 (k : Int) = (k : Int) := i64wrap (by omega)
  have e4' : IntKind.wrap .u64 (j : Int) = (j : Int) := u64wrap (by omega)
  have e5' : IntKind.wrap .i64 (j : Int) = (j : Int) := i64wrap (by omega)
  have hn0 : ¬ n = 0 := by omega
  have hn10 : ¬ n1 = 0 := by omega
  have hkn' : (k : Int) < (n : Int) := by omega
  have hts : v.seats[k]? = some v.seats[k] := List.getElem?_eq_getElem (by omega)
  obtain ⟨s, hsd⟩ : ∃ s, s = v.seats[k] := ⟨_, rfl⟩
  rw [← hsd] at hts
  have hsin : s ∈ v.seats := hsd ▸ List.getElem_mem _
  have hS : SeatS h1 (.slice (some ⟨bs, 0, none⟩) v.seats.length v.seats.length) v.seats := (OwO.own (h0 := h) (h := h1) (o := some bs) (e := 34) (enc := seatC) (xs := v.seats) ⟨rfl, o1, o12, o13⟩).sl
  obtain ⟨_, b', o', wb', cs', r', eb, hb', hd', hl', _⟩ := hS.at 4 seatC_len hts
  simp only [Option.some.injEq, Addr.mk.injEq, and_true] at eb
  obtain ⟨rfl, rfl⟩ := eb
  rw [o1] at hb'
  simp only [Blk.row.injEq, true_and] at hb'
  obtain ⟨rfl, rfl⟩ := hb'
  rw [← hn]
  obtain ⟨F, hF⟩ : ∃ F, F = v.seats.flatMap seatC := ⟨_, rfl⟩
  have hFl : F.length = n * 4 := by rw [hF, flatA_len 4 seatC_len, hn]
  rw [← hF] at o1 hd' hl'
  rw [Nat.zero_add] at hd' hl'
  have hl4 : k * 4 + 4 ≤ n * 4 := by omega
  simp -implicitDefEqProofs [callQ, e1, e2, e3, e4, e5, e1', e2', e2'', e3', e4', e5', hn0, hn10, hkn, hkn', o1, hd', hl4, hFl, seatC]
  intro _
  obtain ⟨kv, hkv⟩ : ∃ kv, kv = Value.slice (b.map fun b => ⟨b, 0, none⟩) v.kills.length v.kills.length := ⟨_, rfl⟩
  obtain ⟨pv, hpv⟩ : ∃ pv, pv = Value.slice (c.map fun b => ⟨b, 0, none⟩) v.poles.length v.poles.length := ⟨_, rfl⟩
  rw [← hkv, ← hpv]
  refine condQ_cut (MT1 h1 other [.slice (some ⟨bs, 0, none⟩) n n, .int .i64 v.gap, .int .i64 v.radius, kv, pv] j (putS other s)) ?_ ?_
  · cases other
    · simp -implicitDefEqProofs
      exact ⟨by simp, by simp, by simp, by simp, by simp, by simp, by simp [putS, seatC]⟩
    · simp -implicitDefEqProofs
      exact ⟨by simp, by simp, by simp, by simp, by simp, by simp, by simp [putS, seatC]⟩
  obtain ⟨s', hs'⟩ : ∃ z, z = putS other s := ⟨_, rfl⟩
  rw [← hs']
  rintro ⟨T, ⟨bx, H⟩⟩ ⟨rfl, g3, g9, g11, g12, x9, x12⟩
  simp at g3 g9 g11 g12 x9 x12 o1
  have hr4 : List.range 4 = [0, 1, 2, 3] := rfl
  simp -implicitDefEqProofs [g3, g9, g11, g12, x9, x12]
  obtain ⟨FD, hFD⟩ : ∃ z, z = F.drop (j * 4) := ⟨_, rfl⟩
  have hFDl : FD.length = (n - j) * 4 := by rw [hFD, List.length_drop, hFl]; omega
  obtain ⟨FT, hFT⟩ : ∃ z, z = F.take (j * 4) := ⟨_, rfl⟩
  have hFTl : FT.length = j * 4 := by rw [hFT, List.length_take, hFl]; omega
  have hone := seat_one v.seats
  rw [← hF] at hone
  have t1 : FD.take ((n - j) * 4) = FD := List.take_of_length_le (by omega)
  have t1' : FT.take (j * 4) = FT := List.take_of_length_le (by omega)
  have t2 : FD.all Go.Am.one = true := by rw [List.all_eq_true] at hone ⊢; intro z hz; exact hone z (List.mem_of_mem_drop (hFD ▸ hz))
  have t3 : FT.all Go.Am.one = true := by rw [List.all_eq_true] at hone ⊢; intro z hz; exact hone z (List.mem_of_mem_take (hFT ▸ hz))
  have q1 : j * 32 ≤ 140737488355328 := by omega
  have q2 : (j + 1) * 32 ≤ 140737488355328 := by omega
  have q3 : (j + 1 + (n - j)) * 32 ≤ 140737488355328 := by omega
  have q4 : j * 4 ≤ n * 4 := by omega
  have q5 : j * 4 + (n - j) * 4 ≤ n * 4 := by omega
  have hif : (if j = 0 then some (([] : List Value), 0) else some (FT, j)) = some (FT, j) := by
    by_cases z : j = 0
    · rw [if_pos z, hFT, z]; rfl
    · rw [if_neg z]
  have hif2 : (if n - j = 0 then some (([] : List Value), 0) else some (FD, n - j)) = some (FD, n - j) := by
    by_cases z : n - j = 0
    · rw [if_pos z, z]
      have : FD = [] := List.length_eq_zero_iff.1 (by omega)
      rw [this]
    · rw [if_neg z]
  have q6 : (j + 1) * 4 ≤ j * 4 + 4 := by omega
  have t4 : (FT ++ [Value.int .i64 s'.row, .int .i64 s'.x, .int .i64 s'.y, .int .i64 s'.kind]).take ((j + 1) * 4) = FT ++ [Value.int .i64 s'.row, .int .i64 s'.x, .int .i64 s'.y, .int .i64 s'.kind] := List.take_of_length_le (by simp; omega)
  have b1 : ¬ bs = H.n := by simp at o13; omega
  have b2 : ¬ bs = H.n + 1 := by simp at o13; omega
  have b3 : ¬ bs = H.n + 1 + 1 := by simp at o13; omega
  have b4 : ¬ bs = H.n + 1 + 1 + 1 := by simp at o13; omega
  refine altQ_cut (MT2 H other [.slice (some ⟨bs, 0, none⟩) n n, .int .i64 v.gap, .int .i64 v.radius, kv, pv] (insV v j s')) ?_ ?_
  · have hul : (insV v j s').seats.length = j + 1 + (n - j) := by
      show (v.seats.take j ++ [s'] ++ v.seats.drop j).length = _
      simp; omega
    have hur : (insV v j s').seats.flatMap seatC = FT ++ seatC s' ++ FD := by rw [ins_flat (by omega), ← hF, ← hFT, ← hFD]
    have hug : (insV v j s').gap = v.gap := rfl
    have hud : (insV v j s').radius = v.radius := rfl
    have c1 : ¬ H.n = H.n + 1 + 1 := by omega
    have c2 : ¬ H.n = H.n + 1 + 1 + 1 := by omega
    have c3 : ¬ H.n + 1 = H.n + 1 + 1 + 1 := by omega
    have c4 : ¬ H.n + 1 + 1 = H.n := by omega
    have c5 : ¬ H.n + 1 + 1 + 1 = H.n := by omega
    have c6 : ¬ H.n + 1 + 1 + 1 = H.n + 1 := by omega
    rw [altQ_cons, altQ_cons, altQ_cons, altQ_nil]
    refine ⟨?_, ?_, ?_, trivial⟩ <;>
    · simp -implicitDefEqProofs [opBuildSlice, hr4, opAppend, srcCells, maxA, g3, g9, g11, g12, x9, x12, o1, seatC, hjn, hFl, ← hFT, ← hFD, t1, t1', t2, t3, q1, q2, q3, q4, q5, hif, hif2, b1, b2, b3, b4, hFTl, hFDl, q6, t4, c1, c2, c3, c4, c5, c6]
      refine ⟨H.n + 1 + 1 + 1 + 1, j + 1 + (n - j), ?_, by simp [hur, seatC], by simp, by simp, by simp, by simp, by simp, by simp [hul, hug, hud]⟩
      repeat' (first | exact Ext.new _ _ | apply Ext.newOf | refine Ext.setOf ?_ ?_ _)
      all_goals omega
  obtain ⟨u, hu⟩ : ∃ u, u = insV v j s' := ⟨_, rfl⟩
  rw [← hu]
  rintro ⟨T, ⟨bx, G⟩⟩ ⟨bu, cu, EG, fu, lu, g3, g9, g13, x9, x13⟩
  simp at EG fu lu g3 g9 g13 x9 x13
  have hul : u.seats.length = n + 1 := by
    rw [hu]
    show (v.seats.take j ++ [s'] ++ v.seats.drop j).length = _
    simp; omega
  have hsu : SlA 34 seatC G (.slice (some ⟨bu, 0, none⟩) u.seats.length cu) u.seats := ⟨_, _, rfl, fun q => by simp at q, .inr ⟨bu, 0, true, _, [], rfl, fu, by simp, by simp, lu⟩⟩
  have huk : u.kills = [] := by rw [hu]; rfl
  have hup : u.poles = [] := by rw [hu]; rfl
  have hcu : VenC G u [.slice (some ⟨bu, 0, none⟩) u.seats.length cu, .int .i64 u.gap, .int .i64 u.radius, .slice none 0 0, .slice none 0 0] := ⟨_, _, _, rfl, hsu, by rw [huk]; exact SlA.nil, by rw [hup]; exact SlA.nil⟩
  have hsm : venSmall u := ⟨by omega, by rw [huk]; simp, by rw [hup]; simp⟩
  have hkin : killsIn u = true := by unfold killsIn; rw [huk]; rfl
  have hkl : killedL u = [] := by unfold killedL; rw [huk]; rfl
  simp -implicitDefEqProofs [g3, g9, g13, x9, x13]
  refine (norm_ok u _ hsm (by rw [huk]; simp) G hcu (fun ys hp hs => by rw [hkl]; exact fun i a b h1 _ => by simp [sortI] at h1)).mono ?_
  rintro r H2 ⟨E2, hr | ⟨_, ys, hp, hys, hr⟩⟩
  · rw [hkin] at hr; cases hr.1
  cases other
  · have hno : mayV (outV u ys) = false := by
      rw [hu] at hp ⊢
      rw [hs'] at hp ⊢
      exact two_no hsin hp
    rw [hno] at hr
    rcases hr with ⟨hr, _⟩ | ⟨_, rfl⟩
    · cases hr
    simp -implicitDefEqProofs [callQ, g3, g9, g13, x9, x13, zVen]
    intro _
    refine (told_ok _).mono ?_
    rintro r H3 ⟨E3, rfl⟩
    simp -implicitDefEqProofs [callQ, g3, g9, g13, x9, x13]
  · have hyes : mayV (outV u ys) = true := by
      rw [hu] at hp ⊢
      rw [hs'] at hp ⊢
      exact two_yes hM (by omega) hsin hp hys
    rw [hyes] at hr
    rcases hr with ⟨_, co, hco, rfl⟩ | ⟨hr, _⟩
    rotate_left
    · cases hr
    have hco' := hco
    obtain ⟨su, ku, pu, rfl, hw1, hw2, hw3⟩ := hco
    obtain ⟨adU2, cU2, rfl⟩ := hw1.shape
    obtain ⟨adV2, cV2, rfl⟩ := hw2.shape
    obtain ⟨adW2, cW2, rfl⟩ := hw3.shape
    have hyl : (outV u ys).seats.length = n1 := by
      have := hp.length_eq
      rw [hul] at this
      show ys.length = n1
      omega
    have hkk : (outV u ys).kills.length = 0 := by unfold outV; rw [hkl]; simp [sortI]
    have hpp : (outV u ys).poles.length = 0 := by show u.poles.length = 0; rw [hup]; rfl
    have hsm2 : venSmall (outV u ys) := ⟨by omega, by omega, by omega⟩
    rw [hyl, hkk, hpp] at hco'
    rw [hyl, hkk, hpp]
    simp -implicitDefEqProofs [callQ, g3, g9, g13, x9, x13]
    intro _
    refine (told_ok _).mono ?_
    rintro r H3 ⟨E3, rfl⟩
    simp -implicitDefEqProofs [callQ, g3, g9, g13, x9, x13, e2']
    intro _
    refine (may_ok (outV u ys) _ hsm2 H3 (hco'.ext E3)).mono ?_
    rintro r H4 ⟨rfl, rfl⟩
    rw [hyes]
    simp -implicitDefEqProofs [callQ, g3, g9, g13, x9, x13]
end Go.Proofs.Yth
