import Derived.Test.YthglohpeijfcfaaAmV7
set_option linter.unusedVariables false
set_option linter.unusedSimpArgs false
set_option linter.unusedSectionVars false
namespace Go.Proofs.Yth
open Go Go.Am
set_option maxRecDepth 20000
set_option maxHeartbeats 2000000
def zVen : List Value := [.slice none 0 0, .int .i64 0, .int .i64 0, .slice none 0 0, .slice none 0 0]
def J11a (cs : List Value) (v : VenR) (ks : Value) (h : Heap) (n : Nat) (σ : St) : Prop := ∃ (i : Nat) (kv : Value), n = v.kills.length - i ∧ i ≤ v.kills.length ∧ Ext h σ.m.h ∧ OwA 34 seatC h σ.m.h kv ((killedL v).take i) ∧
  (∀ j k, j < i → v.kills[j]? = some k → 0 ≤ k ∧ k < v.seats.length) ∧
  σ.t.get 1 = some (.pointer (some ⟨1, 0, some 0⟩)) ∧ σ.t.get 2 = some (.pointer (some ⟨2, 0, some 0⟩)) ∧ σ.t.get 4 = some kv ∧ σ.t.get 11 = some ks ∧ σ.t.get 12 = some (.int .i64 (v.kills.length : Nat)) ∧ σ.t.get 13 = some (.int .i64 (i : Nat)) ∧
  σ.m.x.look 1 = some (26, cs) ∧ σ.m.x.look 2 = some (26, zVen)
theorem OwA.setNe {α : Type} {e : TypeId} {enc : α → List Value} {h0 h : Heap} {v : Value} {xs : List α} (H : OwA e enc h0 h v xs) {b : Nat} (cs : Blk) (hb : b < h0.n) : OwA e enc h0 (h.set b cs) v xs := by
  obtain ⟨ad, rfl, z⟩ := H
  refine ⟨ad, rfl, ?_⟩
  rcases z with z | ⟨b', z1, z2, z3, z4⟩
  · exact .inl z
  · exact .inr ⟨b', z1, by rw [f_set, if_neg (by omega), z2], z3, z4⟩
theorem sortF_any (v : Value) (xs : List SeatR) (h0 h : Heap) (hl : xs.length ≤ 1073741824) (H : OwA 34 seatC h0 h v xs) :
    ACalls PP 23 [v, .func (.func 24) #[] #[]] h (fun r h' => r = .tuple #[] ∧ ∃ ys, ys.Perm xs ∧ SortedS ys ∧ OwA 34 seatC h0 h' v ys ∧ (h' = h ∨ ∃ b n c cs, v = .slice (some ⟨b, 0, none⟩) n c ∧ h0.n ≤ b ∧ b < h.n ∧ h' = h.set b cs)) := by
  by_cases hx : xs = []
  · subst hx
    obtain ⟨ad, rfl, z⟩ := H
    refine (sortF_0 ad 0 h).mono ?_
    rintro r h' ⟨rfl, rfl⟩
    exact ⟨rfl, [], List.Perm.refl _, fun i j a b _ hi => by simp at hi, ⟨ad, rfl, z⟩, .inl rfl⟩
  · obtain ⟨ad, rfl, z⟩ := H
    rcases z with ⟨_, z⟩ | ⟨b, rfl, z2, z3, z4⟩
    · exact absurd z hx
    · refine (sortF_ok b _ xs hx hl h z2).mono ?_
      rintro r h' ⟨rfl, ys, hp, hs, rfl⟩
      have hll := hp.length_eq
      exact ⟨rfl, ys, hp, hs, ⟨_, by rw [hll], .inr ⟨b, rfl, by rw [f_set, if_pos rfl], z3, z4⟩⟩, .inr ⟨b, _, _, _, rfl, z3, z4, rfl⟩⟩
theorem sortI_any (v : Value) (xs : List Int) (h0 h : Heap) (hl : xs.length ≤ 1073741824) (H : OwA 3 intC h0 h v xs) :
    ACalls PP 27 [v] h (fun r h' => r = .tuple #[] ∧ OwA 3 intC h0 h' v (sortI xs) ∧ (h' = h ∨ ∃ b n c cs, v = .slice (some ⟨b, 0, none⟩) n c ∧ h0.n ≤ b ∧ b < h.n ∧ h' = h.set b cs)) := by
  by_cases hx : xs = []
  · subst hx
    obtain ⟨ad, rfl, z⟩ := H
    refine (sortI_0 ad 0 h).mono ?_
    rintro r h' ⟨rfl, rfl⟩
    have : sortI [] = [] := by simp [sortI]
    exact ⟨rfl, by rw [this]; exact ⟨ad, rfl, z⟩, .inl rfl⟩
  · obtain ⟨ad, rfl, z⟩ := H
    rcases z with ⟨_, z⟩ | ⟨b, rfl, z2, z3, z4⟩
    · exact absurd z hx
    · refine (sortI_ok b _ xs hx hl h z2).mono ?_
      rintro r h' ⟨rfl, rfl⟩
      have hll : (sortI xs).length = xs.length := List.length_mergeSort _
      exact ⟨rfl, ⟨_, by rw [hll], .inr ⟨b, rfl, by rw [f_set, if_pos rfl], z3, z4⟩⟩, .inr ⟨b, _, _, _, rfl, z3, z4, rfl⟩⟩
def J11b (b7 : Value → List Value) (kv : Value) (K : List Int) (h0 : Heap) (n : Nat) (σ : St) : Prop := ∃ (j : Nat) (kq : Value), n = K.length - j ∧ j ≤ K.length ∧ Ext h0 σ.m.h ∧ OwA 3 intC h0 σ.m.h kq (K.take j) ∧
  σ.t.get 2 = some (.pointer (some ⟨2, 0, some 0⟩)) ∧ σ.t.get 7 = some (.pointer (some ⟨7, 0, some 0⟩)) ∧ σ.t.get 50 = some kv ∧ σ.t.get 51 = some (.int .i64 (K.length : Nat)) ∧ σ.t.get 52 = some (.int .i64 (j : Nat)) ∧
  σ.m.x.look 2 = some (26, zVen) ∧ σ.m.x.look 7 = some (26, b7 kq)
def NormP (v : VenR) (h : Heap) (r : Value) (h' : Heap) : Prop := Ext h h' ∧
  ((killsIn v = false ∧ r = .tuple #[.agg ⟨zVen⟩, .bool false]) ∨
   (killsIn v = true ∧ ∃ ys, ys.Perm v.seats ∧ SortedS ys ∧
     ((mayV (outV v ys) = true ∧ ∃ co, VenC h' (outV v ys) co ∧ r = .tuple #[.agg ⟨co⟩, .bool true]) ∨
      (mayV (outV v ys) = false ∧ r = .tuple #[.agg ⟨zVen⟩, .bool false]))))
theorem norm_ok (v : VenR) (cs : List Value) (hv : venSmall v) (hk : v.kills.length ≤ 1000000) (h : Heap) (H : VenC h v cs)
    (hno : ∀ ys, ys.Perm v.seats → SortedS ys → NoAdj (sortI ((killedL v).map (fun s => findA (atS s) ys)))) :
    ACalls PP 11 [.agg ⟨cs⟩] h (NormP v h) := by
  refine acalls_of_vc mix fn11 bodyEq11 rfl (by show 1 ≤ 78; decide) ok11 ?_
  simp only [body11, Try.f11]
  obtain ⟨s, k, p, rfl, h1, h2, h3⟩ := H
  obtain ⟨ad1, c1, e1⟩ := h1.shape
  obtain ⟨ad2, c2, e2⟩ := h2.shape
  obtain ⟨ad3, c3, e3⟩ := h3.shape
  subst e1; subst e2; subst e3
  obtain ⟨m, hm⟩ : ∃ m, m = v.kills.length := ⟨_, rfl⟩
  have hm' := hm
  rw [← hm] at h2 hk ⊢
  simp -implicitDefEqProofs
  refine vc_loop (J11a _ v (.slice ad2 m c2) h) _ ⟨0, .slice none 0 0, rfl, by omega, Ext.rfl' h, by simpa using OwA.nil, fun j k hj => by omega, by simp, by simp, by simp, by simp, by simp [hm], by simp, by simp; rfl, by simp [zVen]⟩ ?_
  rintro n ⟨T, ⟨x, H⟩⟩ ⟨i, kv, rfl, hi, hE, hO, hin, g1, g2, g4, g11, g12, g13, x1, x2⟩
  simp at hE hO g1 g2 g4 g11 g12 g13 x1 x2
  rw [← hm] at g12 hi
  simp -implicitDefEqProofs [g1, g2, g4, g11, g12, g13, x1, x2]
  refine condQ_of (fun hc => ?_) (fun hc => ?_) <;> simp only [decide_eq_true_eq, decide_eq_false_iff_not] at hc
  · have him : i < m := by omega
    have hti : v.kills[i]? = some v.kills[i] := List.getElem?_eq_getElem (by omega)
    obtain ⟨_, b1, o1, wb1, cs1, r1, rfl, hb1, hd1, hl1, _⟩ := (h2.ext hE).at 1 intC_len hti
    obtain ⟨t, ht⟩ : ∃ t, t = v.kills[i] := ⟨_, rfl⟩
    rw [← ht] at hd1 hti
    rw [Nat.mul_one] at hd1 hl1
    have bad : (t < 0 ∨ (v.seats.length : Int) ≤ t) → killsIn v = false := by
      intro hb
      unfold killsIn
      rw [Bool.eq_false_iff]
      intro q
      rw [List.all_eq_true] at q
      have := q t (List.mem_of_getElem? hti)
      simp at this
      omega
    by_cases q1 : t < 0
    · simp -implicitDefEqProofs [g1, g2, g4, g11, g12, g13, x1, x2, him, hb1, hd1, hl1, intC, q1]
      exact ⟨hE, .inl ⟨bad (.inl q1), by simp [zVen]⟩⟩
    · by_cases q2 : (v.seats.length : Int) ≤ t
      · simp -implicitDefEqProofs [g1, g2, g4, g11, g12, g13, x1, x2, him, hb1, hd1, hl1, intC, q1, q2]
        exact ⟨hE, .inl ⟨bad (.inr q2), by simp [zVen]⟩⟩
      · obtain ⟨a, ha⟩ : ∃ a : Nat, t = a := ⟨t.toNat, by omega⟩
        subst ha
        have hal : a < v.seats.length := by omega
        have hsa : v.seats[a]? = some v.seats[a] := List.getElem?_eq_getElem hal
        obtain ⟨_, b2, o2, wb2, cs2, r2, rfl, hb2, hd2, hl2, hbn2⟩ := (h1.ext hE).at 4 seatC_len hsa
        obtain ⟨u, hu⟩ : ∃ u, u = v.seats[a] := ⟨_, rfl⟩
        rw [← hu] at hd2 hsa
        have w1 : IntKind.wrap .i64 ((i : Int) + 1) = ((i + 1 : Nat) : Int) := by rw [i64wrap (by omega)]; omega
        have hkt : (killedL v).take (i + 1) = (killedL v).take i ++ [u] := by
          rw [List.take_add_one]
          congr 1
          simp [killedL, hti, hsa]
        have hkl : ((killedL v).take i).length = i := by rw [List.length_take]; simp [killedL]; omega
        have hin' : ∀ j k, j < i + 1 → v.kills[j]? = some k → 0 ≤ k ∧ k < v.seats.length := by
          intro j k hj hjk
          rcases Nat.lt_or_ge j i with z | z
          · exact hin j k z hjk
          · have : j = i := by omega
            subst this
            rw [hti] at hjk
            obtain rfl := Option.some.inj hjk
            omega
        have hr4 : List.range 4 = [0, 1, 2, 3] := rfl
        obtain ⟨ad, ekv, hz⟩ := hO
        rw [hkl] at ekv
        subst ekv
        rcases hz with ⟨rfl, hz⟩ | ⟨b, rfl, hbb, hb3, hb4⟩
        · have hi0 : i = 0 := by have := congrArg List.length hz; rw [hkl] at this; simpa using this
          have hsl : Value.slice none i i = Value.slice none 0 0 := by rw [hi0]
          simp only [hsl] at g4 ⊢
          simp -implicitDefEqProofs [g1, g2, g4, g11, g12, g13, x1, x2, him, hb1, hd1, hl1, intC, q1, q2, hal, hb2, hd2, hl2, seatC, opAppend, srcCells, opBuildSlice, maxA, hr4, w1]
          refine ⟨m - (i + 1), by omega, i + 1, _, by rw [← hm], by omega, (hE.newOf _).newOf _, ⟨some ⟨H.n + 1, 0, none⟩, ?_, .inr ⟨H.n + 1, rfl, ?_, ?_, by simp⟩⟩, hin', by simp, by simp, by simp; rfl, by simp [g11], by simp [hm], by simp, by simp, by simp⟩
          · rw [hkt, List.length_append, hkl, hi0]; rfl
          · simp [hkt, hz, seatC]
          · have := hE.n; omega
        · have hbn : ¬ b = H.n := by omega
          have hmx : (i + 1) * 32 ≤ 140737488355328 := by omega
          obtain ⟨F, hF⟩ : ∃ F, F = ((killedL v).take i).flatMap seatC := ⟨_, rfl⟩
          have hFl : F.length = i * 4 := by rw [hF, flatA_len 4 seatC_len, hkl]
          rw [← hF] at hbb
          simp -implicitDefEqProofs [g1, g2, g4, g11, g12, g13, x1, x2, him, hb1, hd1, hl1, intC, q1, q2, hal, hb2, hd2, hl2, seatC, opAppend, srcCells, opBuildSlice, maxA, hr4, w1, hbn, hbb, hFl, hmx]
          refine ⟨m - (i + 1), by omega, i + 1, _, by rw [← hm], by omega, ((hE.newOf _).setOf hb3 _).newOf _, ⟨some ⟨H.n + 1, 0, none⟩, ?_, .inr ⟨H.n + 1, rfl, ?_, ?_, by simp⟩⟩, hin', by simp, by simp, by simp; rfl, by simp [g11], by simp [hm], by simp, by simp, by simp⟩
          · rw [hkt, List.length_append, hkl]; rfl
          · have e8 : List.take (i * 4) (((killedL v).take i).flatMap seatC) = ((killedL v).take i).flatMap seatC := by rw [← hF]; exact List.take_of_length_le (by omega)
            simp [hkt, seatC, hF, e8]
          · have := hE.n; omega
  · have hie : i = m := by omega
    subst hie
    have hki : killsIn v = true := by
      unfold killsIn
      rw [List.all_eq_true]
      intro k hk'
      obtain ⟨j, hj, rfl⟩ := List.mem_iff_getElem.1 hk'
      have := hin j _ (by omega) (List.getElem?_eq_getElem hj)
      simp; omega
    have hkl : (killedL v).take i = killedL v := List.take_of_length_le (by simp [killedL]; omega)
    rw [hkl] at hO
    have hkll : (killedL v).length = i := by simp [killedL]; omega
    have hkv : ∃ ad, kv = .slice ad i i := by obtain ⟨ad, e, _⟩ := hO; exact ⟨ad, by rw [e, hkll]⟩
    obtain ⟨adK, eK⟩ := hkv
    subst eK
    simp -implicitDefEqProofs [g1, g2, g4, g11, g12, g13, x1, x2]
    refine (clone_ok _ v.seats hv.1 H (h1.ext hE)).mono ?_
    rintro w1 hA ⟨EA, OA⟩
    simp -implicitDefEqProofs [callP]
    intro _
    have hwA : ∃ ad, w1 = .slice ad v.seats.length v.seats.length := by obtain ⟨ad, e, _⟩ := OA; exact ⟨ad, e⟩
    refine (cloneP_ok _ v.poles hv.2.2 hA ((h3.ext hE).ext EA)).mono ?_
    rintro w2 hB ⟨EB, OB⟩
    have OA2 := OA.ext EB
    obtain ⟨adA, eA⟩ := hwA
    subst eA
    have hwB : ∃ ad, w2 = .slice ad v.poles.length v.poles.length := by obtain ⟨ad, e, _⟩ := OB; exact ⟨ad, e⟩
    obtain ⟨adB, eB⟩ := hwB
    subst eB
    simp -implicitDefEqProofs [callP]
    intro _
    refine (sortF_any _ v.seats H hB hv.1 OA2).mono ?_
    rintro r hC ⟨rfl, ys, hperm, hsort, OS, hch⟩
    have hys : ys.length = v.seats.length := hperm.length_eq
    have hbA : ∀ b n c, Value.slice adA v.seats.length v.seats.length = .slice (some ⟨b, 0, none⟩) n c → b < hA.n := by
      intro b n c e
      obtain ⟨ad, e2, z⟩ := OA
      rw [e2] at e
      simp only [Value.slice.injEq] at e
      rcases z with ⟨z, _⟩ | ⟨b', z, _, _, z4⟩
      · rw [z] at e; simp at e
      · rw [z] at e; simp at e; rw [← e.1]; exact z4
    have EHC : Ext H hC := by
      rcases hch with rfl | ⟨b, n, c, cs, e, hb1, hb2, rfl⟩
      · exact EA.trans EB
      · exact (EA.trans EB).setOf hb1 _
    have OB2 : OwA 39 poleC hA hC (.slice adB v.poles.length v.poles.length) v.poles := by
      rcases hch with rfl | ⟨b, n, c, cs, e, hb1, hb2, rfl⟩
      · exact OB
      · exact OwA.setNe OB cs (hbA b n c e)
    have OK := hO.ext EHC
    obtain ⟨K, hK⟩ : ∃ K, K = (killedL v).map (fun s => findA (atS s) ys) := ⟨_, rfl⟩
    have hKl : K.length = i := by rw [hK, List.length_map, hkll]
    have hnoA := hno ys hperm hsort
    rw [← hK] at hnoA
    simp -implicitDefEqProofs [callQ]
    intro _
    refine vc_loop (J11b (fun kq => [.slice adA v.seats.length v.seats.length, .int .i64 v.gap, .int .i64 v.radius, kq, .slice adB v.poles.length v.poles.length]) (.slice adK i i) K hC) _ ⟨0, .slice none 0 0, rfl, by omega, Ext.rfl' hC, by simpa using OwA.nil, by simp, by simp, by simp, by simp [hKl], by simp, by simp, by simp⟩ ?_
    clear g1 g2 g4 g11 g12 g13 x1 x2 hc
    rintro n ⟨T, ⟨x, D⟩⟩ ⟨j, kq, rfl, hj, ED, OQ, g2, g7, g50, g51, g52, x2, x7⟩
    simp at ED OQ g2 g7 g50 g51 g52 x2 x7
    rw [hKl] at g51 hj
    simp -implicitDefEqProofs [g2, g7, g50, g51, g52, x2, x7]
    refine condQ_of (fun hc => ?_) (fun hc => ?_) <;> simp only [decide_eq_true_eq, decide_eq_false_iff_not] at hc
    · have hji : j < i := by omega
      have hua : (killedL v)[j]? = some (killedL v)[j] := List.getElem?_eq_getElem (by omega)
      have OKD := OK.sl.ext ED
      obtain ⟨_, b1, o1, wb1, cs1, r1, e1, hb1, hd1, hl1, hbn1⟩ := (hkll ▸ OKD : SlA 34 seatC D (.slice adK i i) (killedL v)).at 4 seatC_len hua
      subst e1
      obtain ⟨u, hu⟩ : ∃ u, u = (killedL v)[j] := ⟨_, rfl⟩
      rw [← hu] at hd1 hua
      have hbD : ¬ b1 = D.n := by omega
      have w1 : IntKind.wrap .i64 ((j : Int) + 1) = ((j + 1 : Nat) : Int) := by rw [i64wrap (by omega)]; omega
      have hKj : K[j]? = some (findA (atS u) ys) := by rw [hK, List.getElem?_map, hua]; rfl
      have hKt : K.take (j + 1) = K.take j ++ [findA (atS u) ys] := by rw [List.take_add_one, hKj]; rfl
      have hKjl : (K.take j).length = j := by rw [List.length_take]; omega
      simp -implicitDefEqProofs [g2, g7, g50, g51, g52, x2, x7, hji, hb1, hd1, hl1, seatC]
      have ED2 : Ext D ((D.new (Blk.row true 34 [.int .i64 0, .int .i64 0, .int .i64 0, .int .i64 0])).set D.n (Blk.row true 34 [.int .i64 u.row, .int .i64 u.x, .int .i64 u.y, .int .i64 u.kind])) := (Ext.new D _).setOf (Nat.le_refl _) _
      have hsD : SeatS ((D.new (Blk.row true 34 [.int .i64 0, .int .i64 0, .int .i64 0, .int .i64 0])).set D.n (Blk.row true 34 [.int .i64 u.row, .int .i64 u.x, .int .i64 u.y, .int .i64 u.kind])) (.slice adA v.seats.length v.seats.length) ys := (OS.sl.ext ED).ext ED2
      refine (indexF_ok _ ys u D.n true (by have := hv.1; omega) _ hsD (by simp [seatC])).mono ?_
      rintro r h' ⟨rfl, rfl⟩
      obtain ⟨q, hq⟩ : ∃ q, q = findA (atS u) ys := ⟨_, rfl⟩
      rw [← hq] at hKt ⊢
      have hr1 : List.range 1 = [0] := rfl
      obtain ⟨ad, ekq, hz⟩ := OQ
      rw [hKjl] at ekq
      subst ekq
      have hGn : ((D.new (Blk.row true 34 [.int .i64 0, .int .i64 0, .int .i64 0, .int .i64 0])).set D.n (Blk.row true 34 [.int .i64 u.row, .int .i64 u.x, .int .i64 u.y, .int .i64 u.kind])).n = D.n + 1 := rfl
      obtain ⟨G, hG⟩ : ∃ G, G = ((D.new (Blk.row true 34 [.int .i64 0, .int .i64 0, .int .i64 0, .int .i64 0])).set D.n (Blk.row true 34 [.int .i64 u.row, .int .i64 u.x, .int .i64 u.y, .int .i64 u.kind])) := ⟨_, rfl⟩
      rw [← hG] at ED2 hGn ⊢
      have EDG : Ext hC G := ED.trans ED2
      rcases hz with ⟨rfl, hz⟩ | ⟨b, rfl, hbb, hb3, hb4⟩
      · have hj0 : j = 0 := by have := congrArg List.length hz; rw [hKjl] at this; simpa using this
        have hsl : Value.slice none j j = Value.slice none 0 0 := by rw [hj0]
        simp only [hsl] at x7 ⊢
        simp -implicitDefEqProofs [callP]
        intro _
        simp -implicitDefEqProofs [opAppend, srcCells, opBuildSlice, maxA, hr1, g2, g7, g50, g51, g52, w1]
        refine ⟨i - (j + 1), by omega, j + 1, _, by rw [hKl], by omega, (EDG.newOf _).newOf _, ⟨some ⟨G.n + 1, 0, none⟩, ?_, .inr ⟨G.n + 1, rfl, ?_, ?_, by simp⟩⟩, by simp, by simp, by simp, by simp [hKl], by simp, by simp, by simp; rfl⟩
        · rw [hKt, List.length_append, hKjl, hj0]; rfl
        · simp [hKt, hz, intC]
        · have := EDG.n; omega
      · have hbn : ¬ b = G.n := by omega
        have hbG : G.f b = .row true 3 ((K.take j).flatMap intC) := by rw [ED2.f b hb4, hbb]
        have hmx : (j + 1) * 8 ≤ 140737488355328 := by omega
        obtain ⟨F, hF⟩ : ∃ F, F = (K.take j).flatMap intC := ⟨_, rfl⟩
        have hFl : F.length = j := by have := flatA_len 1 intC_len (K.take j); rw [← hF, hKjl] at this; omega
        rw [← hF] at hbG
        have e8 : F.take j = F := List.take_of_length_le (by omega)
        simp -implicitDefEqProofs [callP]
        intro _
        simp -implicitDefEqProofs [opAppend, srcCells, opBuildSlice, maxA, hr1, g2, g7, g50, g51, g52, w1, hbn, hbG, hFl, hmx, e8]
        refine ⟨i - (j + 1), by omega, j + 1, _, by rw [hKl], by omega, ((EDG.newOf _).setOf hb3 _).newOf _, ⟨some ⟨G.n + 1, 0, none⟩, ?_, .inr ⟨G.n + 1, rfl, ?_, ?_, by simp⟩⟩, by simp, by simp, by simp, by simp [hKl], by simp, by simp, by simp; rfl⟩
        · rw [hKt, List.length_append, hKjl]; rfl
        · simp [hKt, intC, hF]
        · have := EDG.n; omega
    · have hji : j = i := by omega
      subst hji
      have hKt : K.take j = K := List.take_of_length_le (by omega)
      rw [hKt] at OQ
      have hkq : ∃ ad, kq = .slice ad j j := by obtain ⟨ad, e, _⟩ := OQ; exact ⟨ad, by rw [e, hKl]⟩
      obtain ⟨adQ, eQ⟩ := hkq
      subst eQ
      simp -implicitDefEqProofs [g2, g7, g50, g51, g52, x2, x7]
      refine (sortI_any _ K hC D (by omega) OQ).mono ?_
      rintro r hD ⟨rfl, OD, hch2⟩
      have ECD : Ext hC hD := by
        rcases hch2 with rfl | ⟨b, n, c, cs, e, hb1, hb2, rfl⟩
        · exact ED
        · exact ED.setOf hb1 _
      simp -implicitDefEqProofs [callQ]
      intro _
      refine (compactN_ok _ (sortI K) (by have : (sortI K).length = K.length := List.length_mergeSort _; omega) hnoA hD OD.sl).mono ?_
      rintro r hE' ⟨rfl, rfl⟩
      simp -implicitDefEqProofs [callQ]
      intro _
      have hVC : VenC hE' (outV v ys) [.slice adA v.seats.length v.seats.length, .int .i64 v.gap, .int .i64 v.radius, .slice adQ j j, .slice adB v.poles.length v.poles.length] :=
        ⟨_, _, _, rfl, OS.sl.ext ECD, by unfold outV; rw [← hK]; exact OD.sl, OB2.sl.ext ECD⟩
      have hsm : venSmall (outV v ys) := ⟨by show ys.length ≤ _; have := hv.1; omega, by
        show (sortI _).length ≤ _
        have : (sortI ((killedL v).map (fun s => findA (atS s) ys))).length = _ := List.length_mergeSort _
        rw [this, ← hK]; omega, hv.2.2⟩
      refine (may_ok (outV v ys) _ hsm hE' hVC).mono ?_
      rintro r hF ⟨rfl, rfl⟩
      have EF : Ext h hF := (hE.trans EHC).trans ECD
      simp -implicitDefEqProofs [callQ]
      intro _
      by_cases hmay : mayV (outV v ys) = true
      · simp -implicitDefEqProofs [hmay, g2, g7, x2, x7]
        exact ⟨EF, .inr ⟨hki, ys, hperm, hsort, .inl ⟨hmay, _, hVC, rfl⟩⟩⟩
      · have hmay' : mayV (outV v ys) = false := by simpa using hmay
        simp -implicitDefEqProofs [hmay', g2, g7, x2, x7]
        exact ⟨EF, .inr ⟨hki, ys, hperm, hsort, .inr ⟨hmay', by simp [zVen]⟩⟩⟩
end Go.Proofs.Yth
