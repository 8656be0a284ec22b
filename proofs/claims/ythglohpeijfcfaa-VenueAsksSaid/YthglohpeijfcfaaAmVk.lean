import Derived.Test.YthglohpeijfcfaaAmVj
set_option linter.unusedVariables false
set_option linter.unusedSimpArgs false
set_option linter.unusedSectionVars false
namespace Go.Proofs.Yth
open Go Go.Am
set_option maxRecDepth 20000
set_option maxHeartbeats 4000000
def SoP (xs : List SeatR) : Prop := xs.Pairwise (fun a b => lessS b a = false)
theorem SoP.sorted {xs : List SeatR} (h : SoP xs) : SortedS xs := by
  intro i j a b hij ha hb
  have h1 := (List.getElem?_eq_some_iff.mp ha)
  have h2 := (List.getElem?_eq_some_iff.mp hb)
  obtain ⟨p1, rfl⟩ := h1
  obtain ⟨p2, rfl⟩ := h2
  exact (List.pairwise_iff_getElem.1 h) i j p1 p2 hij
theorem lessS_no {a b : SeatR} : lessS a b = false ↔ ¬ (a.row < b.row ∨ a.row = b.row ∧ a.x < b.x) := by
  rw [← lessS_iff]; cases lessS a b <;> simp
theorem ins_sorted {xs : List SeatR} {s : SeatR} {k : Nat} (hk : k ≤ xs.length) (h : SoP xs) (h1 : ∀ j a, k ≤ j → xs[j]? = some a → lessS s a = true) (h2 : ∀ j a, j + 1 = k → xs[j]? = some a → lessS s a = false) : SoP (xs.take k ++ [s] ++ xs.drop k) := by
  have hx := h
  unfold SoP at hx ⊢
  rw [← List.take_append_drop k xs, List.pairwise_append] at hx
  obtain ⟨p1, p2, p3⟩ := hx
  rw [List.pairwise_append, List.pairwise_append]
  have hd : ∀ b ∈ xs.drop k, lessS s b = true := fun b hb => by
    obtain ⟨i, hi⟩ := List.mem_iff_getElem?.1 hb
    rw [List.getElem?_drop] at hi
    exact h1 _ b (by omega) hi
  refine ⟨⟨p1, by simp, fun a ha b hb => ?_⟩, p2, fun a ha b hb => ?_⟩
  · obtain rfl := List.mem_singleton.1 hb
    cases k with
    | zero => simp at ha
    | succ k =>
      obtain ⟨i, hi⟩ := List.mem_iff_getElem?.1 ha
      rw [List.getElem?_take] at hi
      split at hi
      rotate_left
      · cases hi
      rename_i hik
      rcases Nat.lt_or_ge k xs.length with q | q
      · have e : xs[k]? = some xs[k] := List.getElem?_eq_getElem q
        have q1 := h2 k _ rfl e
        by_cases hik2 : i = k
        · subst hik2
          rw [e] at hi
          obtain rfl := Option.some.inj hi
          exact q1
        · have q2 := h.sorted i k a _ (by omega) hi e
          rw [lessS_no] at *
          omega
      · omega
  · rcases List.mem_append.1 ha with q | q
    · exact p3 a q b hb
    · obtain rfl := List.mem_singleton.1 q
      have := hd b hb
      rw [lessS_no]
      rw [lessS_iff] at this
      omega
def insS (xs : List SeatR) (k : Nat) (s : SeatR) : List SeatR := xs.take k ++ [s] ++ xs.drop k
theorem insS_perm (xs : List SeatR) (k : Nat) (s : SeatR) : (insS xs k s).Perm (xs ++ [s]) := by
  have h1 : (insS xs k s).Perm (xs.take k ++ xs.drop k ++ [s]) := by
    unfold insS
    rw [List.append_assoc, List.append_assoc]
    exact List.Perm.append_left _ List.perm_append_comm
  rwa [List.take_append_drop] at h1
theorem insS_flat {xs : List SeatR} {k : Nat} {s : SeatR} (hk : k ≤ xs.length) : (insS xs k s).flatMap seatC = (xs.flatMap seatC).take (k * 4) ++ seatC s ++ (xs.flatMap seatC).drop (k * 4) := by
  unfold insS
  rw [List.flatMap_append, List.flatMap_append, flatA_drop 4 seatC_len]
  congr 1
  congr 1
  have e : xs.flatMap seatC = (xs.take k).flatMap seatC ++ (xs.drop k).flatMap seatC := by rw [← List.flatMap_append, List.take_append_drop]
  have := flatA_len 4 seatC_len (xs.take k)
  rw [e, List.take_append_of_le_length (by rw [this, List.length_take]; omega)]
  exact (List.take_of_length_le (by rw [this, List.length_take]; omega)).symm
def Ri (ks : List Int) : Prop := ks.Pairwise (fun a b => a < b)
/-- what a venue in order is, whoever puts it in order -/
def NormG (v : VenR) (h : Heap) (r : Value) (h' : Heap) : Prop := Ext h h' ∧
  ((killsIn v = false ∧ r = .tuple #[.agg ⟨zVen⟩, .bool false]) ∨
   (killsIn v = true ∧ ∃ ys ks, ys.Perm v.seats ∧ SortedS ys ∧ Ri ks ∧ (∀ x, x ∈ ks ↔ x ∈ (killedL v).map (fun s => findA (atS s) ys)) ∧
     ((mayV ⟨ys, v.gap, v.radius, ks, v.poles⟩ = true ∧ ∃ co, VenC h' ⟨ys, v.gap, v.radius, ks, v.poles⟩ co ∧ r = .tuple #[.agg ⟨co⟩, .bool true]) ∨
      (mayV ⟨ys, v.gap, v.radius, ks, v.poles⟩ = false ∧ r = .tuple #[.agg ⟨zVen⟩, .bool false]))))
theorem put_len {l zs : List Int} {n : Int} (p : PutR l n zs) : zs.length ≤ l.length + 1 := by
  obtain ⟨k, hk, h1, h2, ⟨j, hj, hl, rfl⟩ | ⟨hne, rfl⟩⟩ := p
  · omega
  · simp; omega
theorem put_ri {l zs : List Int} {n : Int} (h : Ri l) (p : PutR l n zs) : Ri zs ∧ ∀ x, x ∈ zs ↔ x ∈ l ∨ x = n := by
  obtain ⟨k, hk, h1, h2, ⟨j, hj, hl, rfl⟩ | ⟨hne, rfl⟩⟩ := p
  · refine ⟨h, fun x => ⟨fun q => .inl q, fun q => ?_⟩⟩
    rcases q with q | rfl
    · exact q
    · exact List.mem_of_getElem? hl
  · have hx := h
    unfold Ri at hx ⊢
    rw [← List.take_append_drop k l, List.pairwise_append] at hx
    obtain ⟨p1, p2, p3⟩ := hx
    have hd : ∀ b ∈ l.drop k, n < b := fun b hb => by
      obtain ⟨i, hi⟩ := List.mem_iff_getElem?.1 hb
      rw [List.getElem?_drop] at hi
      exact h1 _ b (by omega) hi
    refine ⟨?_, fun x => ?_⟩
    · rw [List.pairwise_append, List.pairwise_append]
      refine ⟨⟨p1, by simp, fun a ha b hb => ?_⟩, p2, fun a ha b hb => ?_⟩
      · obtain rfl := List.mem_singleton.1 hb
        cases k with
        | zero => simp at ha
        | succ k =>
          have e : l[k]? = some l[k] := List.getElem?_eq_getElem (by omega)
          have q1 := h2 l[k] (by omega) (by simp)
          have q2 : l[k] ≠ b := fun z => hne k rfl (by rw [e, z])
          obtain ⟨i, hi⟩ := List.mem_iff_getElem?.1 ha
          rw [List.getElem?_take] at hi
          split at hi
          rotate_left
          · cases hi
          rename_i hik
          have hil := (List.getElem?_eq_some_iff.mp hi)
          obtain ⟨z1, rfl⟩ := hil
          by_cases hik2 : i = k
          · subst hik2; omega
          · have := (List.pairwise_iff_getElem.1 h) i k z1 (by omega) (by omega)
            omega
      · rcases List.mem_append.1 ha with q | q
        · exact p3 a q b hb
        · obtain rfl := List.mem_singleton.1 q
          exact hd b hb
    · have : x ∈ l ↔ x ∈ l.take k ∨ x ∈ l.drop k := by rw [← List.mem_append, List.take_append_drop]
      simp only [List.mem_append, List.mem_singleton, this]
      constructor
      · rintro ((q | q) | q)
        · exact .inl (.inl q)
        · exact .inr q
        · exact .inl (.inr q)
      · rintro ((q | q) | q)
        · exact .inl (.inl q)
        · exact .inr q
        · exact .inl (.inr q)
theorem ri_eq {a b : List Int} (ha : Ri a) (hb : Ri b) (h : ∀ x, x ∈ a ↔ x ∈ b) : a = b := by
  have n1 : a.Nodup := ha.imp (fun {x y} hxy => by omega)
  have n2 : b.Nodup := hb.imp (fun {x y} hxy => by omega)
  have hp : a.Perm b := (List.perm_ext_iff_of_nodup n1 n2).2 h
  exact hp.eq_of_pairwise (fun x y _ _ q1 q2 => by omega) ha hb
def J12a (h : Heap) (v : VenR) (cs : List Value) (pv : Value) (m : Nat) (σ : St) : Prop := ∃ (i : Nat) (xs : List SeatR) (o : Option Nat) (sv : Value), m = v.seats.length - i ∧ i ≤ v.seats.length ∧ Ext h σ.m.h ∧ SoP xs ∧ xs.Perm (v.seats.take i) ∧ OwO 34 seatC h σ.m.h o xs sv ∧
  σ.t.get 1 = some (.pointer (some ⟨1, 0, some 0⟩)) ∧ σ.t.get 2 = some (.pointer (some ⟨2, 0, some 0⟩)) ∧ σ.t.get 4 = some (.pointer (some ⟨4, 0, some 0⟩)) ∧ σ.t.get 5 = some (.int .i64 (i : Nat)) ∧
  σ.m.x.look 1 = some (26, cs) ∧ σ.m.x.look 2 = some (26, zVen) ∧ σ.m.x.look 4 = some (26, [sv, .int .i64 v.gap, .int .i64 v.radius, .slice none 0 0, pv])
def J12b (H : Heap) (v : VenR) (cs : List Value) (pv sv : Value) (i : Nat) (s : SeatR) (xs : List SeatR) (k : Nat) (σ : St) : Prop := k ≤ xs.length ∧ σ.m.h = H ∧ (∀ j a, k ≤ j → xs[j]? = some a → lessS s a = true) ∧
  σ.t.get 1 = some (.pointer (some ⟨1, 0, some 0⟩)) ∧ σ.t.get 2 = some (.pointer (some ⟨2, 0, some 0⟩)) ∧ σ.t.get 4 = some (.pointer (some ⟨4, 0, some 0⟩)) ∧ σ.t.get 5 = some (.int .i64 (i : Nat)) ∧ σ.t.get 6 = some (.int .i64 (k : Nat)) ∧
  σ.m.x.look 1 = some (26, cs) ∧ σ.m.x.look 2 = some (26, zVen) ∧ σ.m.x.look 4 = some (26, [sv, .int .i64 v.gap, .int .i64 v.radius, .slice none 0 0, pv])
def J12c (h H0 : Heap) (v : VenR) (cs : List Value) (ys : List SeatR) (sv pv : Value) (m : Nat) (σ : St) : Prop := ∃ (i : Nat) (ks : List Int) (o : Option Nat) (kv : Value), m = v.kills.length - i ∧ i ≤ v.kills.length ∧ Ext H0 σ.m.h ∧ Ri ks ∧ ks.length ≤ i ∧ (∀ x, x ∈ ks ↔ x ∈ ((killedL v).take i).map (fun s => findA (atS s) ys)) ∧
  (∀ j k, j < i → v.kills[j]? = some k → 0 ≤ k ∧ k < v.seats.length) ∧ OwO 3 intC h σ.m.h o ks kv ∧
  σ.t.get 1 = some (.pointer (some ⟨1, 0, some 0⟩)) ∧ σ.t.get 2 = some (.pointer (some ⟨2, 0, some 0⟩)) ∧ σ.t.get 4 = some (.pointer (some ⟨4, 0, some 0⟩)) ∧ σ.t.get 7 = some (.int .i64 (i : Nat)) ∧
  σ.m.x.look 1 = some (26, cs) ∧ σ.m.x.look 2 = some (26, zVen) ∧ σ.m.x.look 4 = some (26, [sv, .int .i64 v.gap, .int .i64 v.radius, kv, pv])
def J12d (H : Heap) (v : VenR) (cs : List Value) (ys : List SeatR) (s : SeatR) (sv pv kv : Value) (i : Nat) (m : Nat) (σ : St) : Prop := ∃ a : Nat, m = ys.length - a ∧ a < ys.length ∧ σ.m.h = H ∧ (∀ j t, j < a → ys[j]? = some t → atS s t = false) ∧
  σ.t.get 1 = some (.pointer (some ⟨1, 0, some 0⟩)) ∧ σ.t.get 2 = some (.pointer (some ⟨2, 0, some 0⟩)) ∧ σ.t.get 4 = some (.pointer (some ⟨4, 0, some 0⟩)) ∧ σ.t.get 7 = some (.int .i64 (i : Nat)) ∧ σ.t.get 8 = some (.pointer (some ⟨8, 0, some 0⟩)) ∧ σ.t.get 9 = some (.int .i64 (a : Nat)) ∧
  σ.m.x.look 1 = some (26, cs) ∧ σ.m.x.look 2 = some (26, zVen) ∧ σ.m.x.look 4 = some (26, [sv, .int .i64 v.gap, .int .i64 v.radius, kv, pv]) ∧ σ.m.x.look 8 = some (34, seatC s)
theorem rnorm_ok (v : VenR) (cs : List Value) (hv : v.seats.length ≤ 4000 ∧ v.kills.length ≤ 4000 ∧ v.poles.length ≤ 4000) (h : Heap) (HV : VenC h v cs) : ACalls PP 12 [.agg ⟨cs⟩] h (NormG v h) := by
  refine acalls_of_vc mix fn12 bodyEq12 rfl (by show 1 ≤ 136; decide) ok12 ?_
  simp only [body12, Try.f12]
  obtain ⟨sq, kq, pv, rfl, h1, h2, h3⟩ := id HV
  obtain ⟨ad1, c1, e1⟩ := h1.shape
  obtain ⟨ad2, c2, e2⟩ := h2.shape
  obtain ⟨ad3, c3, e3⟩ := h3.shape
  subst e1; subst e2; subst e3
  have hr4 : List.range 4 = [0, 1, 2, 3] := rfl
  obtain ⟨n, hn⟩ : ∃ n, n = v.seats.length := ⟨_, rfl⟩
  obtain ⟨kn, hkn⟩ : ∃ n, n = v.kills.length := ⟨_, rfl⟩
  rw [← hn] at h1 HV ⊢
  rw [← hkn] at h2 HV ⊢
  obtain ⟨pn, hpn⟩ : ∃ n, n = v.poles.length := ⟨_, rfl⟩
  rw [← hpn] at h3 HV ⊢
  obtain ⟨cv, hcv⟩ : ∃ cv, cv = [Value.slice ad1 n c1, .int .i64 v.gap, .int .i64 v.radius, .slice ad2 kn c2, .slice ad3 pn c3] := ⟨_, rfl⟩
  simp -implicitDefEqProofs
  refine vc_loop (J12a h v cv (.slice ad3 pn c3)) n ⟨0, [], none, .slice none 0 0, by omega, by omega, Ext.rfl' h, by simp [SoP], by simp, OwO.nil, by simp, by simp, by simp, by simp, by simp [hcv], by simp [zVen], by simp⟩ ?_
  rintro m ⟨T, ⟨x, H⟩⟩ ⟨i, xs, o, sv, rfl, hi, hE, hso, hpe, hO, g1, g2, g4, g5, x1, x2, x4⟩
  simp at hE hO g1 g2 g4 g5 x1 x2 x4
  rw [← hn] at hi
  rw [hcv] at x1
  simp -implicitDefEqProofs [g1, g2, g4, g5, x1, x2, x4]
  by_cases hin : i < n
  · have hin4 : (i : Int) ≤ 4096 := by omega
    have hin4' : i ≤ 4096 := by omega
    have hti : v.seats[i]? = some v.seats[i] := List.getElem?_eq_getElem (by omega)
    obtain ⟨_, b, of, wb, cells, r, rfl, hb, hd, hlc, hbn⟩ := h1.at 4 seatC_len hti
    obtain ⟨t, ht⟩ : ∃ t, t = v.seats[i] := ⟨_, rfl⟩
    rw [← ht] at hd hti
    have hbH : H.f b = .row wb 34 cells := by rw [hE.f b hbn]; exact hb
    have hxl : xs.length = i := by have := hpe.length_eq; rw [List.length_take] at this; omega
    obtain ⟨rfl, ho⟩ := id hO
    simp -implicitDefEqProofs [hin, hin4, hin4', g1, g2, g4, g5, x1, x2, x4]
    refine vc_loop (J12b H v cv (.slice ad3 pn c3) (.slice (o.map fun b => ⟨b, 0, none⟩) xs.length xs.length) i t xs) xs.length ⟨Nat.le_refl _, rfl, fun j a hj ha => by have := (List.getElem?_eq_some_iff.mp ha).1; omega, by simp, by simp, by simp, by simp, by simp, by simp [hcv], by simp, by simp⟩ ?_
    clear g1 g2 g4 g5 x1 x2 x4
    rintro k ⟨T, ⟨x, H'⟩⟩ ⟨hk, rfl, hup, g1, g2, g4, g5, g6, x1, x2, x4⟩
    simp at g1 g2 g4 g5 g6 x1 x2 x4 hE hbH hO ho
    rw [hcv] at x1
    rw [hxl] at x4
    obtain ⟨m, hm⟩ : ∃ m, m = i := ⟨_, rfl⟩
    have w1 : IntKind.wrap .i64 ((i : Int) + 1) = ((i + 1 : Nat) : Int) := by rw [i64wrap (by omega)]; omega
    have hd4 : (cells.drop (of + i * 4)).take 4 = seatC t := by rw [hd]; rfl
    have hlc' : of + i * 4 + 4 ≤ cells.length := hlc
    have nxt : (∀ j a, j + 1 = k → xs[j]? = some a → lessS t a = false) → ∀ b2 σ2, Ext H' σ2.m.h → σ2.m.h.f b2 = .row true 34 ((insS xs k t).flatMap seatC) → H'.n ≤ b2 → b2 < σ2.m.h.n →
        σ2.t.get 1 = some (.pointer (some ⟨1, 0, some 0⟩)) → σ2.t.get 2 = some (.pointer (some ⟨2, 0, some 0⟩)) → σ2.t.get 4 = some (.pointer (some ⟨4, 0, some 0⟩)) → σ2.t.get 5 = some (.int .i64 ((i + 1 : Nat) : Int)) →
        σ2.m.x.look 1 = some (26, cv) → σ2.m.x.look 2 = some (26, zVen) → σ2.m.x.look 4 = some (26, [.slice (some ⟨b2, 0, none⟩) (k + 1 + (i - k)) (k + 1 + (i - k)), .int .i64 v.gap, .int .i64 v.radius, .slice none 0 0, .slice ad3 pn c3]) →
        ∃ j, j < v.seats.length - i ∧ J12a h v cv (.slice ad3 pn c3) j σ2 := by
      intro q1 b2 σ2 E f2 l2 l3 r1 r2 r4 r5 y1 y2 y4
      have hil : (insS xs k t).length = k + 1 + (i - k) := by unfold insS; simp; omega
      refine ⟨v.seats.length - (i + 1), by omega, i + 1, insS xs k t, some b2, _, rfl, by omega, hE.trans E, ins_sorted hk hso hup q1, ?_, ⟨by rw [hil], f2, ?_, l3⟩, r1, r2, r4, r5, y1, y2, by rw [y4]; rfl⟩
      · refine (insS_perm xs k t).trans ?_
        rw [List.take_add_one, hti]
        exact List.Perm.append_right _ hpe
      · have := hE.n; omega
    have hnH := hE.n
    have hw1 : IntKind.wrap .i64 1 = 1 := rfl
    have a1 : ¬ b = H'.n := by omega
    have a2 : ¬ b = H'.n + 1 := by omega
    have a3 : ¬ b = H'.n + 1 + 1 := by omega
    have a4 : ¬ b = H'.n + 1 + 1 + 1 := by omega
    have c1 : ¬ H'.n = H'.n + 1 + 1 := by omega
    have c2 : ¬ H'.n = H'.n + 1 + 1 + 1 := by omega
    have c3 : ¬ H'.n + 1 = H'.n + 1 + 1 + 1 := by omega
    have c4 : ¬ H'.n + 1 + 1 = H'.n := by omega
    have c5 : ¬ H'.n + 1 + 1 + 1 = H'.n := by omega
    have c6 : ¬ H'.n + 1 + 1 + 1 = H'.n + 1 := by omega
    have hd4' : (cells.drop (of + i * 4)).take 4 = [Value.int .i64 t.row, .int .i64 t.x, .int .i64 t.y, .int .i64 t.kind] := hd4
    clear hO
    cases o with
    | none =>
      simp only at ho
      subst ho
      obtain rfl : i = 0 := by simpa using hxl.symm
      obtain rfl : k = 0 := by simpa using hk
      have tail := nxt (fun j a hj => by omega)
      simp only [Nat.sub_zero, Nat.zero_add, Nat.add_zero] at tail
      simp only [Nat.zero_mul, Nat.add_zero] at hlc' hd4'
      simp -implicitDefEqProofs [g1, g2, g4, g5, g6, x1, x2, x4]
      rw [altQ_cons, altQ_cons, altQ_cons, altQ_nil]
      refine ⟨?_, ?_, ?_, trivial⟩ <;>
      · simp -implicitDefEqProofs [opBuildSlice, hr4, opAppend, srcCells, maxA, g1, g2, g4, g5, g6, x1, x2, x4, hin, hbH, hlc', hd4', w1, hw1, a1, a2, a3, a4, c1, c2, c3, c4, c5, c6]
        apply tail (H'.n + 1 + 1 + 1 + 1)
        · repeat' (first | exact Ext.new _ _ | apply Ext.newOf | refine Ext.setOf ?_ ?_ _)
          all_goals omega
        · simp [insS, seatC]
        · omega
        · simp
        · simp
        · simp
        · simp
        · simp
        · simp [hcv]
        · simp [zVen]
        · simp
    | some bu =>
      simp only at ho
      obtain ⟨hbu, hb1, hb2⟩ := ho
      obtain ⟨F, hF⟩ : ∃ F, F = xs.flatMap seatC := ⟨_, rfl⟩
      have hFl : F.length = i * 4 := by rw [hF, flatA_len 4 seatC_len, hxl]
      rw [← hF] at hbu
      have hrow : (insS xs k t).flatMap seatC = F.take (k * 4) ++ seatC t ++ F.drop (k * 4) := by
        rw [hF]; exact insS_flat hk
      obtain ⟨FD, hFD⟩ : ∃ z, z = F.drop (k * 4) := ⟨_, rfl⟩
      have hFDl : FD.length = (i - k) * 4 := by rw [hFD, List.length_drop, hFl]; omega
      obtain ⟨FT, hFT⟩ : ∃ z, z = F.take (k * 4) := ⟨_, rfl⟩
      have hFTl : FT.length = k * 4 := by rw [hFT, List.length_take, hFl]; omega
      have hone := seat_one xs
      rw [← hF] at hone
      have t1 : FD.take ((i - k) * 4) = FD := List.take_of_length_le (by omega)
      have t1' : FT.take (k * 4) = FT := List.take_of_length_le (by omega)
      have t2 : FD.all Go.Am.one = true := by rw [List.all_eq_true] at hone ⊢; intro z hz; exact hone z (List.mem_of_mem_drop (hFD ▸ hz))
      have t3 : FT.all Go.Am.one = true := by rw [List.all_eq_true] at hone ⊢; intro z hz; exact hone z (List.mem_of_mem_take (hFT ▸ hz))
      have q1 : k * 32 ≤ 140737488355328 := by omega
      have q2 : (k + 1) * 32 ≤ 140737488355328 := by omega
      have q3 : (k + 1 + (i - k)) * 32 ≤ 140737488355328 := by omega
      have q4 : k * 4 ≤ i * 4 := by omega
      have q5 : k * 4 + (i - k) * 4 ≤ i * 4 := by omega
      have hki : k ≤ i := by omega
      have hif : (if k = 0 then some (([] : List Value), 0) else some (FT, k)) = some (FT, k) := by
        by_cases z : k = 0
        · rw [if_pos z, hFT, z]; rfl
        · rw [if_neg z]
      have hif2 : (if i - k = 0 then some (([] : List Value), 0) else some (FD, i - k)) = some (FD, i - k) := by
        by_cases z : i - k = 0
        · rw [if_pos z, z]
          have : FD = [] := List.length_eq_zero_iff.1 (by omega)
          rw [this]
        · rw [if_neg z]
      have q6 : (k + 1) * 4 ≤ k * 4 + 4 := by omega
      have t4 : (FT ++ [Value.int .i64 t.row, .int .i64 t.x, .int .i64 t.y, .int .i64 t.kind]).take ((k + 1) * 4) = FT ++ [Value.int .i64 t.row, .int .i64 t.x, .int .i64 t.y, .int .i64 t.kind] := List.take_of_length_le (by simp; omega)
      have b1 : ¬ bu = H'.n := by omega
      have b2 : ¬ bu = H'.n + 1 := by omega
      have b3 : ¬ bu = H'.n + 1 + 1 := by omega
      have b4 : ¬ bu = H'.n + 1 + 1 + 1 := by omega
      rw [hrow, ← hFT, ← hFD] at nxt
      by_cases hk0 : k = 0
      · have hnk : ¬ 0 < k := by omega
        have tail := nxt (fun j a hj => by omega)
        simp -implicitDefEqProofs [g1, g2, g4, g5, g6, x1, x2, x4, hnk]
        rw [altQ_cons, altQ_cons, altQ_cons, altQ_nil]
        refine ⟨?_, ?_, ?_, trivial⟩ <;>
        · simp -implicitDefEqProofs [opBuildSlice, hr4, opAppend, srcCells, maxA, g1, g2, g4, g5, g6, x1, x2, x4, hin, hbH, hlc', hd4', w1, hw1, a1, a2, a3, a4, c1, c2, c3, c4, c5, c6, hbu, hFl, ← hFT, ← hFD, t1, t1', t2, t3, q1, q2, q3, q4, q5, hki, hif, hif2, b1, b2, b3, b4, hFTl, hFDl, q6, t4]
          apply tail (H'.n + 1 + 1 + 1 + 1)
          · repeat' (first | exact Ext.new _ _ | apply Ext.newOf | refine Ext.setOf ?_ ?_ _)
            all_goals omega
          · simp [seatC]
          · omega
          · simp
          · simp
          · simp
          · simp
          · simp
          · simp [hcv]
          · simp [zVen]
          · simp
      · obtain ⟨j, hkk⟩ : ∃ j, k = j + 1 := ⟨k - 1, by omega⟩
        have hji : j < i := by omega
        have htj : xs[j]? = some xs[j] := List.getElem?_eq_getElem (by omega)
        obtain ⟨p, hp⟩ : ∃ p, p = xs[j] := ⟨_, rfl⟩
        rw [← hp] at htj
        have hdj : (F.drop (j * 4)).take 4 = [Value.int .i64 p.row, .int .i64 p.x, .int .i64 p.y, .int .i64 p.kind] := by
          rw [hF, flatA_drop 4 seatC_len, List.drop_eq_getElem_cons (by omega), ← hp]; rfl
        have hj4 : j * 4 + 4 ≤ i * 4 := by omega
        have w2 : IntKind.wrap .i64 ((k : Int) - 1) = (j : Int) := by rw [i64wrap (by omega)]; omega
        have hkp : 0 < k := by omega
        simp -implicitDefEqProofs [g1, g2, g4, g5, g6, x1, x2, x4, hkp, hin, hbH, hlc', hd4', hbu, hFl, hji, hdj, hj4, w2]
        refine (rless_ok t p H').mono ?_
        rintro r H3 ⟨e3, rfl⟩
        replace e3 := e3.symm
        subst e3
        simp -implicitDefEqProofs [callP]
        intro _
        cases hless : lessS t p with
        | true =>
          simp -implicitDefEqProofs [g1, g2, g4, g5, g6, x1, x2, x4, w2]
          exact ⟨j, by omega, by omega, rfl, fun i' a hi' ha => by
            rcases Nat.lt_or_ge i' k with q | q
            · have : i' = j := by omega
              subst this
              rw [htj] at ha
              obtain rfl := Option.some.inj ha
              exact hless
            · exact hup i' a q ha, by simp, by simp, by simp, by simp, by simp, by simp [hcv], by simp [zVen], by simp [hxl]⟩
        | false =>
          have tail := nxt (fun i' a hi' ha => by rw [show i' = j by omega, htj] at ha; obtain rfl := Option.some.inj ha; exact hless)
          simp -implicitDefEqProofs [g1, g2, g4, g5, g6, x1, x2, x4]
          rw [altQ_cons, altQ_cons, altQ_cons, altQ_nil]
          refine ⟨?_, ?_, ?_, trivial⟩ <;>
          · simp -implicitDefEqProofs [opBuildSlice, hr4, opAppend, srcCells, maxA, g1, g2, g4, g5, g6, x1, x2, x4, hin, hbH, hlc', hd4', w1, hw1, a1, a2, a3, a4, c1, c2, c3, c4, c5, c6, hbu, hFl, ← hFT, ← hFD, t1, t1', t2, t3, q1, q2, q3, q4, q5, hki, hif, hif2, b1, b2, b3, b4, hFTl, hFDl, q6, t4]
            apply tail (H'.n + 1 + 1 + 1 + 1)
            · repeat' (first | exact Ext.new _ _ | apply Ext.newOf | refine Ext.setOf ?_ ?_ _)
              all_goals omega
            · simp [seatC]
            · omega
            · simp
            · simp
            · simp
            · simp
            · simp
            · simp [hcv]
            · simp [zVen]
            · simp
  · have hie : i = n := by omega
    have hye : xs.Perm v.seats := by rw [hie, hn, List.take_length] at hpe; exact hpe
    have hxl : xs.length = n := by have := hye.length_eq; omega
    obtain ⟨rfl, ho⟩ := id hO
    have hwx : List.length xs = n := hxl
    rw [hxl] at x4
    simp -implicitDefEqProofs [hin, g1, g2, g4, g5, x1, x2, x4]
    refine vc_loop (J12c h H v cv xs (.slice (o.map fun b => ⟨b, 0, none⟩) n n) (.slice ad3 pn c3)) kn ⟨0, [], none, .slice none 0 0, by omega, by omega, Ext.rfl' H, by simp [Ri], by simp, by simp, fun j k hj => by omega, OwO.nil, by simp, by simp, by simp, by simp, by simp [hcv], by simp [zVen], by simp⟩ ?_
    clear g1 g2 g4 g5 x1 x2 x4
    rintro m ⟨T, ⟨x, H'⟩⟩ ⟨i2, ks, o2, kv, rfl, hi2, hE2, hri, hkl, hmem, hinr, hO2, g1, g2, g4, g7, x1, x2, x4⟩
    simp at hE2 hO2 g1 g2 g4 g7 x1 x2 x4
    rw [hcv] at x1
    obtain ⟨rfl, _⟩ := id hO2
    simp -implicitDefEqProofs [g1, g2, g4, g7, x1, x2, x4]
    refine condQ_of (fun hc => ?_) (fun hc => ?_) <;> simp only [decide_eq_true_eq, decide_eq_false_iff_not] at hc
    · have him : i2 < kn := by omega
      have hti : v.kills[i2]? = some v.kills[i2] := List.getElem?_eq_getElem (by omega)
      obtain ⟨_, b1, of1, wb1, cs1, r1, rfl, hb1, hd1, hl1, _⟩ := ((h2.ext hE).ext hE2).at 1 intC_len hti
      obtain ⟨t, ht⟩ : ∃ t, t = v.kills[i2] := ⟨_, rfl⟩
      rw [← ht] at hd1 hti
      rw [Nat.mul_one] at hd1 hl1
      have d1 : (cs1.drop (of1 + i2)).take 1 = [.int .i64 t] := by rw [hd1]; rfl
      have w3 : IntKind.wrap .i64 ((n : Int) - 1) = (n : Int) - 1 := i64wrap (by omega)
      simp -implicitDefEqProofs [g1, g2, g4, g7, x1, x2, x4, him, hb1, d1, hl1, w3]
      refine (rin_ok t 0 ((n : Int) - 1) H').mono ?_
      rintro r H3 ⟨e3, rfl⟩
      replace e3 := e3.symm
      subst e3
      simp -implicitDefEqProofs [callP]
      intro _
      by_cases q1 : inB t 0 ((n : Int) - 1) = true
      rotate_left
      · have hno : killsIn v = false := by
          unfold killsIn
          rw [Bool.eq_false_iff]
          intro q
          rw [List.all_eq_true] at q
          have := q t (List.mem_of_getElem? hti)
          simp only [inB, Bool.and_eq_true, decide_eq_true_eq] at q1 this
          omega
        simp -implicitDefEqProofs [q1, g1, g2, g4, g7, x1, x2, x4]
        exact ⟨hE.trans hE2, .inl ⟨hno, by simp [zVen]⟩⟩
      simp only [inB, Bool.and_eq_true, decide_eq_true_eq] at q1
      have q1' : inB t 0 ((n : Int) - 1) = true := by simp [inB]; omega
      obtain ⟨a, ha⟩ : ∃ a : Nat, t = a := ⟨t.toNat, by omega⟩
      subst ha
      have hal : a < n := by omega
      have hsa : v.seats[a]? = some v.seats[a] := List.getElem?_eq_getElem (by omega)
      obtain ⟨_, b2, of2, wb2, cs2, r2, rfl, hb2, hd2, hl2, hbn2⟩ := ((h1.ext hE).ext hE2).at 4 seatC_len hsa
      obtain ⟨u, hu⟩ : ∃ u, u = v.seats[a] := ⟨_, rfl⟩
      rw [← hu] at hd2 hsa
      have d2 : (cs2.drop (of2 + a * 4)).take 4 = [Value.int .i64 u.row, .int .i64 u.x, .int .i64 u.y, .int .i64 u.kind] := by rw [hd2]; rfl
      have hl2' : of2 + a * 4 + 4 ≤ cs2.length := hl2
      simp -implicitDefEqProofs [q1', g1, g2, g4, g7, x1, x2, x4, him, hb1, d1, hl1, hal, hb2, d2, hl2']
      have huin : u ∈ xs := hye.symm.subset (List.mem_of_getElem? hsa)
      have hx0 : 0 < n := by omega
      obtain ⟨bu, rfl⟩ : ∃ bu, o = some bu := by
        cases o with
        | none => simp only at ho; rw [ho] at huin; simp at huin
        | some b => exact ⟨b, rfl⟩
      simp only at ho
      obtain ⟨hbu, hb1', hb2'⟩ := ho
      have hbu' : H'.f bu = .row true 34 (xs.flatMap seatC) := by rw [hE2.f bu hb2']; exact hbu
      obtain ⟨F, hF⟩ : ∃ F, F = xs.flatMap seatC := ⟨_, rfl⟩
      have hFl : F.length = n * 4 := by rw [hF, flatA_len 4 seatC_len, hxl]
      rw [← hF] at hbu'
      refine vc_loop (J12d H' v cv xs u (.slice (some ⟨bu, 0, none⟩) n n) (.slice ad3 pn c3) (.slice (o2.map fun b => ⟨b, 0, none⟩) ks.length ks.length) i2) n ⟨0, by omega, by omega, rfl, fun j t hj => by omega, by simp, by simp, by simp, by simp, by simp, by simp, by simp [hcv], by simp [zVen], by simp, by simp [seatC]⟩ ?_
      clear g1 g2 g4 g7 x1 x2 x4
      rintro m ⟨T, ⟨x, H3⟩⟩ ⟨e, rfl, he, rfl, hnot, g1, g2, g4, g7, g8, g9, x1, x2, x4, x8⟩
      simp at g1 g2 g4 g7 g8 g9 x1 x2 x4 x8 hE2 hbu' hO2
      rw [hcv] at x1
      rw [hxl] at he
      have htj : xs[e]? = some xs[e] := List.getElem?_eq_getElem (by omega)
      obtain ⟨p, hp⟩ : ∃ p, p = xs[e] := ⟨_, rfl⟩
      rw [← hp] at htj
      have hde : F.drop (e * 4) = seatC p ++ (xs.drop (e + 1)).flatMap seatC := by
        rw [hF, flatA_drop 4 seatC_len, List.drop_eq_getElem_cons (by omega), ← hp]; rfl
      have f1 : (F.drop (e * 4)).take 1 = [.int .i64 p.row] := by rw [hde]; rfl
      have f2 : (F.drop (e * 4 + 1)).take 1 = [.int .i64 p.x] := by rw [← List.drop_drop, hde]; rfl
      have m1 : e * 4 + 1 ≤ n * 4 := by omega
      have m2 : e * 4 + 1 + 1 ≤ n * 4 := by omega
      obtain ⟨e1, he1⟩ : ∃ e1, e1 = e + 1 := ⟨_, rfl⟩
      have w4 : IntKind.wrap .i64 ((e : Int) + 1) = (e1 : Int) := by rw [i64wrap (by omega)]; omega
      simp only [seatC] at x8
      have w5 : IntKind.wrap .i64 ((i2 : Int) + 1) = ((i2 + 1 : Nat) : Int) := by rw [i64wrap (by omega)]; omega
      have hkt : (killedL v).take (i2 + 1) = (killedL v).take i2 ++ [u] := by
        rw [List.take_add_one]
        congr 1
        simp [killedL, hti, hsa]
      have nxt : findA (atS u) xs = e → ∀ {H4 : Heap}, Ext H3 H4 → ∀ zs o4, PutR ks e zs → ∀ σ2 : St, σ2.m.h = H4 → OwO 3 intC h H4 o4 zs (.slice (o4.map fun b => ⟨b, 0, none⟩) zs.length zs.length) →
          σ2.t.get 1 = some (.pointer (some ⟨1, 0, some 0⟩)) → σ2.t.get 2 = some (.pointer (some ⟨2, 0, some 0⟩)) → σ2.t.get 4 = some (.pointer (some ⟨4, 0, some 0⟩)) → σ2.t.get 7 = some (.int .i64 ((i2 + 1 : Nat) : Int)) →
          σ2.m.x.look 1 = some (26, cv) → σ2.m.x.look 2 = some (26, zVen) → σ2.m.x.look 4 = some (26, [.slice (some ⟨bu, 0, none⟩) n n, .int .i64 v.gap, .int .i64 v.radius, .slice (o4.map fun b => ⟨b, 0, none⟩) zs.length zs.length, .slice ad3 pn c3]) →
          ∃ j, j < v.kills.length - i2 ∧ J12c h H v cv xs (.slice (some ⟨bu, 0, none⟩) n n) (.slice ad3 pn c3) j σ2 := by
        intro hfa H4 E4 zs o4 hPut σ2 hσ hO4 r1 r2 r4 r7 y1 y2 y4
        subst hσ
        obtain ⟨pr1, pr2⟩ := put_ri hri hPut
        have pl := put_len hPut
        refine ⟨v.kills.length - (i2 + 1), by omega, i2 + 1, zs, o4, _, rfl, by omega, hE2.trans E4, pr1, by omega, fun z => ?_, ?_, hO4, r1, r2, r4, r7, y1, y2, y4⟩
        · rw [pr2, hmem, hkt, List.map_append, List.mem_append]
          simp [hfa]
        · intro j k hj hjk
          rcases Nat.lt_or_ge j i2 with z | z
          · exact hinr j k z hjk
          · have : j = i2 := by omega
            subst this
            rw [hti] at hjk
            obtain rfl := Option.some.inj hjk
            omega
      by_cases hlast : e1 < n
      · have hl' : (e1 : Int) < (n : Int) := by omega
        have cont : atS u p = false → ∀ σ2 : St, σ2.m.h = H3 → σ2.t.get 1 = some (.pointer (some ⟨1, 0, some 0⟩)) → σ2.t.get 2 = some (.pointer (some ⟨2, 0, some 0⟩)) → σ2.t.get 4 = some (.pointer (some ⟨4, 0, some 0⟩)) → σ2.t.get 7 = some (.int .i64 (i2 : Nat)) → σ2.t.get 8 = some (.pointer (some ⟨8, 0, some 0⟩)) → σ2.t.get 9 = some (.int .i64 (e1 : Nat)) →
            σ2.m.x.look 1 = some (26, cv) → σ2.m.x.look 2 = some (26, zVen) → σ2.m.x.look 4 = some (26, [.slice (some ⟨bu, 0, none⟩) n n, .int .i64 v.gap, .int .i64 v.radius, .slice (o2.map fun b => ⟨b, 0, none⟩) ks.length ks.length, .slice ad3 pn c3]) → σ2.m.x.look 8 = some (34, seatC u) →
            ∃ j, j < xs.length - e ∧ J12d H3 v cv xs u (.slice (some ⟨bu, 0, none⟩) n n) (.slice ad3 pn c3) (.slice (o2.map fun b => ⟨b, 0, none⟩) ks.length ks.length) i2 j σ2 := by
          intro hq σ2 hσ r1 r2 r4 r7 r8 r9 y1 y2 y4 y8
          refine ⟨xs.length - e1, by omega, e1, rfl, by omega, hσ, fun j t hj hjt => ?_, r1, r2, r4, r7, r8, r9, y1, y2, y4, y8⟩
          rcases Nat.lt_or_ge j e with z | z
          · exact hnot j t z hjt
          · have : j = e := by omega
            subst this
            rw [htj] at hjt
            obtain rfl := Option.some.inj hjt
            exact hq
        by_cases r1 : p.row = u.row
        · by_cases r2 : p.x = u.x
          · have hfa : findA (atS u) xs = e := find_hit htj (by simp [atS, r1, r2]) hnot
            simp -implicitDefEqProofs [g1, g2, g4, g7, g8, g9, x1, x2, x4, x8, w4, hlast, hl', he, hbu', hFl, f1, f2, m1, m2, r1, r2]
            refine (put_ok _ ks e (by omega) h H3 (by have := hE.n; have := hE2.n; omega) o2 hO2).mono ?_
            rintro r H4 ⟨E4, zs, o4, hPut, hO4⟩
            obtain ⟨rfl, _⟩ := id hO4
            simp -implicitDefEqProofs [callQ]
            intro _
            simp -implicitDefEqProofs [g1, g2, g4, g7, x1, x2, x4, w5]
            exact nxt hfa E4 zs o4 hPut _ (by simp) (by simpa using hO4) (by simp) (by simp) (by simp) (by simp) (by simp [hcv]) (by simp [zVen]) (by simp)
          · simp -implicitDefEqProofs [g1, g2, g4, g7, g8, g9, x1, x2, x4, x8, w4, hlast, hl', he, hbu', hFl, f1, f2, m1, m2, r1, r2]
            exact cont (by simp [atS, r2]) _ (by simp) (by simp) (by simp) (by simp) (by simp) (by simp) (by simp) (by simp [hcv]) (by simp [zVen]) (by simp) (by simp [seatC])
        · simp -implicitDefEqProofs [g1, g2, g4, g7, g8, g9, x1, x2, x4, x8, w4, hlast, hl', he, hbu', hFl, f1, f2, m1, m2, r1]
          exact cont (by simp [atS, r1]) _ (by simp) (by simp) (by simp) (by simp) (by simp) (by simp) (by simp) (by simp [hcv]) (by simp [zVen]) (by simp) (by simp [seatC])
      · have hl' : ¬ (e1 : Int) < (n : Int) := by omega
        have hfa : findA (atS u) xs = e := by
          obtain ⟨j, hj⟩ := List.mem_iff_getElem?.1 huin
          have hjn := (List.getElem?_eq_some_iff.mp hj).1
          rcases Nat.lt_or_ge j e with z | z
          · have := hnot j u z hj
            simp [atS] at this
          · have : j = e := by omega
            subst this
            exact find_hit hj (by simp [atS]) hnot
        simp -implicitDefEqProofs [g1, g2, g4, g7, g8, g9, x1, x2, x4, x8, w4, hlast, hl']
        refine (put_ok _ ks e (by omega) h H3 (by have := hE.n; have := hE2.n; omega) o2 hO2).mono ?_
        rintro r H4 ⟨E4, zs, o4, hPut, hO4⟩
        obtain ⟨rfl, _⟩ := id hO4
        simp -implicitDefEqProofs [callQ]
        intro _
        simp -implicitDefEqProofs [g1, g2, g4, g7, x1, x2, x4, w5]
        exact nxt hfa E4 zs o4 hPut _ (by simp) (by simpa using hO4) (by simp) (by simp) (by simp) (by simp) (by simp [hcv]) (by simp [zVen]) (by simp)
    · have hik : i2 = kn := by omega
      have hki : killsIn v = true := by
        unfold killsIn
        rw [List.all_eq_true]
        intro t ht
        obtain ⟨j, hj⟩ := List.mem_iff_getElem?.1 ht
        have := (List.getElem?_eq_some_iff.mp hj).1
        have := hinr j t (by omega) hj
        simp only [Bool.and_eq_true, decide_eq_true_eq]
        omega
      have hmem' : ∀ x, x ∈ ks ↔ x ∈ (killedL v).map (fun s => findA (atS s) xs) := by
        intro x
        rw [hmem, List.take_of_length_le (by simp [killedL]; omega)]
      have hs1 := (hO.own.sl).ext hE2
      rw [hxl] at hs1
      have hcu : VenC H' ⟨xs, v.gap, v.radius, ks, v.poles⟩ [.slice (o.map fun b => ⟨b, 0, none⟩) n n, .int .i64 v.gap, .int .i64 v.radius, .slice (o2.map fun b => ⟨b, 0, none⟩) ks.length ks.length, .slice ad3 pn c3] :=
        ⟨_, _, _, rfl, hs1, hO2.own.sl, (h3.ext hE).ext hE2⟩
      have hsm : venSmall ⟨xs, v.gap, v.radius, ks, v.poles⟩ := ⟨by simp only; omega, by simp only; omega, by simp only; omega⟩
      simp -implicitDefEqProofs [g1, g2, g4, g7, x1, x2, x4]
      refine (rmay_ok _ _ hsm H' hcu).mono ?_
      rintro r H3 ⟨e3, rfl⟩
      replace e3 := e3.symm
      subst e3
      simp -implicitDefEqProofs [callQ]
      intro _
      cases hmay : mayV ⟨xs, v.gap, v.radius, ks, v.poles⟩ with
      | true =>
        simp -implicitDefEqProofs [g1, g2, g4, g7, x1, x2, x4]
        exact ⟨hE.trans hE2, .inr ⟨hki, xs, ks, hye, hso.sorted, hri, hmem', .inl ⟨hmay, _, hcu, rfl⟩⟩⟩
      | false =>
        simp -implicitDefEqProofs [g1, g2, g4, g7, x1, x2, x4]
        exact ⟨hE.trans hE2, .inr ⟨hki, xs, ks, hye, hso.sorted, hri, hmem', .inr ⟨hmay, by simp [zVen]⟩⟩⟩
end Go.Proofs.Yth
