import Derived.Test.YthglohpeijfcfaaAmVe
set_option linter.unusedVariables false
set_option linter.unusedSimpArgs false
set_option linter.unusedSectionVars false
namespace Go.Proofs.Yth
open Go Go.Am
set_option maxRecDepth 20000
set_option maxHeartbeats 2000000
theorem turnK_succ {k n j : Nat} {K : List Int} {a : Int} (h : K[j]? = some a) : turnK k n (j + 1) K = trn k n a :: turnK k n j K := by
  unfold turnK; rw [List.take_add_one, h]; simp
theorem turnK_len {k n j : Nat} {K : List Int} (h : j ≤ K.length) : (turnK k n j K).length = j := by
  unfold turnK; simp; omega
def J6 (c5 : List Value) (c8 : Value → List Value) (n k : Nat) (K : List Int) (G : Heap) (m : Nat) (σ : St) : Prop := ∃ (j : Nat) (kq : Value), m = K.length - j ∧ j ≤ K.length ∧ Ext G σ.m.h ∧ OwA 3 intC G σ.m.h kq (turnK k n j K) ∧
  σ.t.get 5 = some (.pointer (some ⟨5, 0, some 0⟩)) ∧ σ.t.get 6 = some (.int .i64 (n : Nat)) ∧ σ.t.get 7 = some (.int .i64 (k : Nat)) ∧ σ.t.get 8 = some (.pointer (some ⟨8, 0, some 0⟩)) ∧ σ.t.get 9 = some (.int .i64 (j : Nat)) ∧
  σ.m.x.look 5 = some (26, c5) ∧ σ.m.x.look 8 = some (26, c8 kq)
theorem normLaw_ok (lv : Value) (l : List Int) (at' : Int) (hl : l.length ≤ 4611686018427387904) (h : Heap) (hs : IntS h lv l) : ACalls PP 6 [lv, .int .i64 at'] h (fun v _ => v = .bool true) := by
  refine acalls_of_vc mix fn6 bodyEq6 rfl (by show 2 ≤ 98; decide) ok6 ?_
  simp only [body6, Try.f6]
  obtain ⟨ad, cap, rfl⟩ := hs.shape
  simp -implicitDefEqProofs
  refine (make_ok _ l 30 (by omega) hl h hs).mono ?_
  rintro r h1 ⟨E1, i, v, row, x, a, b, c, cs, him, hM, ha, hO, rfl⟩
  obtain ⟨bs, rfl⟩ : ∃ bs, a = some bs := by cases a with | none => exact absurd rfl ha | some b => exact ⟨b, rfl⟩
  have hO' := hO
  obtain ⟨sv, kv, pv, rfl, ⟨rfl, o1, o12, o13⟩, ⟨rfl, o2⟩, ⟨rfl, o3⟩, a1, a2, a3⟩ := hO
  have hlen := hM.len
  obtain ⟨n, hn⟩ : ∃ n, n = v.seats.length := ⟨_, rfl⟩
  have hn' : n = i + 1 := by omega
  obtain ⟨q, hq⟩ : ∃ q : Int, q = at' % 18446744073709551616 := ⟨_, rfl⟩
  have e1 : IntKind.wrap .u64 at' = q := by rw [u64wrap_mod, hq]
  have e2 : IntKind.wrap .u64 (n : Int) = (n : Int) := u64wrap (by omega)
  obtain ⟨k, hk⟩ : ∃ k : Nat, k = (q % n).toNat := ⟨_, rfl⟩
  have hq0 : 0 ≤ q := by omega
  have hmod := Int.emod_nonneg q (b := (n : Int)) (by omega)
  have hmod2 := Int.emod_lt_of_pos q (b := (n : Int)) (by omega)
  have e3 : q.tmod (n : Int) = (k : Int) := by rw [Int.tmod_eq_emod_of_nonneg hq0]; omega
  have hkn : k < n := by omega
  have e4 : IntKind.wrap .u64 (k : Int) = (k : Int) := u64wrap (by omega)
  have e5 : IntKind.wrap .i64 (k : Int) = (k : Int) := i64wrap (by omega)
  have hn0 : ¬ n = 0 := by omega
  rw [← hn]
  obtain ⟨F, hF⟩ : ∃ F, F = v.seats.flatMap seatC := ⟨_, rfl⟩
  have hFl : F.length = n * 4 := by rw [hF, flatA_len 4 seatC_len, hn]
  rw [← hF] at o1
  have hone := seat_one v.seats
  rw [← hF] at hone
  obtain ⟨FD, hFD⟩ : ∃ z, z = F.drop (k * 4) := ⟨_, rfl⟩
  have hFDl : FD.length = (n - k) * 4 := by rw [hFD, List.length_drop, hFl]; omega
  obtain ⟨FT, hFT⟩ : ∃ z, z = F.take (k * 4) := ⟨_, rfl⟩
  have hFTl : FT.length = k * 4 := by rw [hFT, List.length_take, hFl]; omega
  have t1 : FD.take ((n - k) * 4) = FD := List.take_of_length_le (by omega)
  have t2 : FD.all Go.Am.one = true := by rw [List.all_eq_true] at hone ⊢; intro z hz; exact hone z (List.mem_of_mem_drop (hFD ▸ hz))
  have t3 : FT.all Go.Am.one = true := by rw [List.all_eq_true] at hone ⊢; intro z hz; exact hone z (List.mem_of_mem_take (hFT ▸ hz))
  have m1 : (n - k) * 32 ≤ 140737488355328 := by omega
  have m2 : n * 32 ≤ 140737488355328 := by omega
  have q1 : k ≤ n := by omega
  have q2 : ¬ n - k = 0 := by omega
  have q3 : k * 4 + (n - k) * 4 ≤ n * 4 := by omega
  have q4 : k * 4 ≤ n * 4 := by omega
  have q5 : ¬ bs = h1.n := by omega
  have q6 : ¬ bs = h1.n + 1 := by omega
  have q7 : FD.length = (n - k) * 4 := hFDl
  have hif : (if k = 0 then some (([] : List Value), 0) else some (FT, k)) = some (FT, k) := by
    by_cases z : k = 0
    · rw [if_pos z, hFT, z]; rfl
    · rw [if_neg z]
  simp -implicitDefEqProofs [callQ, hif, e1, e2, e3, e4, e5, hn0, opBuildSlice, opAppend, srcCells, maxA, o1, hFl, q1, q2, q3, q4, q5, q6, ← hFD, ← hFT, t1, t2, t3, m1, m2, hFDl, hFTl]
  intro _
  obtain ⟨G, hG⟩ : ∃ G, G = ((((h1.new (Blk.row true 34 [])).set h1.n Blk.dead).new (Blk.row true 34 FD)).set (h1.n + 1) Blk.dead).new (Blk.row true 34 (FD ++ FT)) := ⟨_, rfl⟩
  rw [← hG]
  have EG : Ext h1 G := by rw [hG]; exact ((((Ext.new h1 _).setOf (Nat.le_refl _) _).newOf _).setOf (Nat.le_succ _) _).newOf _
  have hK : IntS G (.slice (b.map fun b => ⟨b, 0, none⟩) v.kills.length v.kills.length) v.kills := (OwO.own (h0 := h) ⟨rfl, o2⟩).sl.ext EG
  refine vc_loop (J6 [.slice (some ⟨bs, 0, none⟩) n n, .int .i64 v.gap, .int .i64 v.radius, .slice (b.map fun b => ⟨b, 0, none⟩) v.kills.length v.kills.length, .slice (c.map fun b => ⟨b, 0, none⟩) v.poles.length v.poles.length]
    (fun kq => [.slice (some ⟨h1.n + 1 + 1, 0, none⟩) n n, .int .i64 v.gap, .int .i64 v.radius, kq, .slice (c.map fun b => ⟨b, 0, none⟩) v.poles.length v.poles.length]) n k v.kills G) _ ⟨0, _, rfl, by omega, Ext.rfl' G, OwA.nil, by simp, by simp, by simp, by simp, by simp, by simp, by simp⟩ ?_
  rintro m ⟨T, ⟨x, H⟩⟩ ⟨j, kq, rfl, hj, hE, hQ, g5, g6, g7, g8, g9, x5, x8⟩
  simp at hE hQ g5 g6 g7 g8 g9 x5 x8
  simp -implicitDefEqProofs [g5, g6, g7, g8, g9, x5, x8]
  refine condQ_of (fun hc => ?_) (fun hc => ?_) <;> simp only [decide_eq_true_eq, decide_eq_false_iff_not] at hc
  · have hjK : j < v.kills.length := by omega
    have hta : v.kills[j]? = some v.kills[j] := List.getElem?_eq_getElem hjK
    obtain ⟨_, b1, p1, wb1, cs1, r1, eb, hb1, hd1, hl1, _⟩ := (hK.ext hE).at 1 intC_len hta
    have hkl := hM.klen
    have hab := hM.kill _ (List.getElem_mem hjK)
    obtain ⟨t, ht⟩ : ∃ t, t = v.kills[j] := ⟨_, rfl⟩
    rw [← ht] at hd1 hta hab
    rw [Nat.mul_one] at hd1 hl1
    obtain ⟨bk, rfl⟩ : ∃ bk, b = some bk := by cases b with | none => simp at eb | some b => exact ⟨b, rfl⟩
    simp only [Option.map_some, Option.some.injEq, Addr.mk.injEq, and_true] at eb
    obtain ⟨rfl, rfl⟩ := eb
    obtain ⟨z, hz⟩ : ∃ z, z = trn k n t := ⟨_, rfl⟩
    have w1 : IntKind.wrap .i64 (t - k) = t - k := i64wrap (by omega)
    have w2 : IntKind.wrap .i64 (t - k + n) = t - k + n := i64wrap (by omega)
    have w3 : (t - (k : Int) + (n : Int)).tmod (n : Int) = z := by rw [hz, Int.tmod_eq_emod_of_nonneg (by omega)]; rfl
    have hz0 : 0 ≤ z ∧ z < n := by rw [hz]; exact ⟨Int.emod_nonneg _ (by omega), Int.emod_lt_of_pos _ (by omega)⟩
    have w4 : IntKind.wrap .i64 z = z := i64wrap (by omega)
    have w5 : IntKind.wrap .i64 ((j : Int) + 1) = ((j + 1 : Nat) : Int) := by rw [i64wrap (by omega)]; omega
    have hts := turnK_succ (k := k) (n := n) hta
    rw [← hz] at hts
    have htl := turnK_len (k := k) (n := n) (K := v.kills) (j := j) (by omega)
    have hr1 : List.range 1 = [0] := rfl
    have hbH : ¬ bk = H.n := by have := (hK.ext hE).at 1 intC_len hta; omega
    rw [Nat.zero_add] at hd1 hl1
    obtain ⟨ad', ekq, hq⟩ := hQ
    rw [htl] at ekq
    subst ekq
    rcases hq with ⟨rfl, hq⟩ | ⟨b8, rfl, hb8, hb8n, hb8l⟩
    · have hj0 : j = 0 := by have := congrArg List.length hq; rw [htl] at this; simpa using this
      subst hj0
      simp -implicitDefEqProofs [g5, g6, g7, g8, g9, x5, x8, hjK, hb1, hd1, hl1, intC, w1, w2, w3, w4, hn0, opBuildSlice, opAppend, srcCells, maxA, hr1]
      have hts' : turnK k n (0 + 1) v.kills = [z] := by rw [hts, hq]
      refine ⟨v.kills.length - 1, by omega, 1, _, rfl, by omega, ((hE.newOf _).setOf hE.n _).newOf _, ⟨some ⟨H.n + 1, 0, none⟩, by rw [hts'], .inr ⟨H.n + 1, rfl, by rw [hts']; simp [intC], ?_, by simp⟩⟩, by simp, by simp, by simp, by simp, by simp [i64wrap], by simp, by simp⟩
      have := hE.n; omega
    · have hb8H : ¬ b8 = H.n := by omega
      obtain ⟨FK, hFK⟩ : ∃ F, F = (turnK k n j v.kills).flatMap intC := ⟨_, rfl⟩
      have hFKl : FK.length = j := by have := flatA_len 1 intC_len (turnK k n j v.kills); rw [← hFK, htl] at this; omega
      have hFK1 : FK.all Go.Am.one = true := by
        rw [List.all_eq_true]; intro y hy
        rw [hFK] at hy
        obtain ⟨s, _, hs⟩ := List.mem_flatMap.1 hy
        simp [intC] at hs
        subst hs; rfl
      rw [← hFK] at hb8
      have hj0 : ¬ j = 0 ∨ j = 0 := by omega
      have hmx : (1 + j) * 8 ≤ 140737488355328 := by omega
      have hmx2 : (j + 1) * 8 ≤ 140737488355328 := by omega
      have e8 : FK.take j = FK := List.take_of_length_le (by omega)
      have hif : (if j = 0 then some (([] : List Value), 0) else some (FK, j)) = some (FK, j) := by
        by_cases z : j = 0
        · have : FK = [] := List.length_eq_zero_iff.1 (by omega)
          rw [if_pos z, this, z]
        · rw [if_neg z]
      simp -implicitDefEqProofs [g5, g6, g7, g8, g9, x5, x8, hjK, hb1, hd1, hl1, intC, w1, w2, w3, w4, w5, hn0, opBuildSlice, opAppend, srcCells, maxA, hr1, hbH, hb8H, hb8, hFKl, hFK1, hif, hmx, hmx2, e8]
      refine ⟨v.kills.length - (j + 1), by omega, j + 1, .slice (some ⟨H.n + 1, 0, none⟩) (1 + j) (1 + j), rfl, by omega, ((hE.newOf _).setOf hE.n _).newOf _, ⟨some ⟨H.n + 1, 0, none⟩, ?_, .inr ⟨H.n + 1, rfl, ?_, ?_, by simp⟩⟩, by simp, by simp, by simp, by simp, by simp, by simp, by simp⟩
      · rw [turnK_len (by omega)]; simp; omega
      · rw [hts]; simp [intC, hFK]
      · have := hE.n; omega
  · have hje : j = v.kills.length := by omega
    obtain ⟨hvs, hvs2⟩ : ((turnV v k).seats.length = n) ∧ (turnV v k).seats.flatMap seatC = FD ++ FT := by
      refine ⟨by rw [(turn_perm v k).length_eq, hn], ?_⟩
      show (v.seats.drop k ++ v.seats.take k).flatMap seatC = _
      rw [List.flatMap_append, hFD, hFT, hF, flatA_drop 4 seatC_len]
      congr 1
      have := flatA_len 4 seatC_len (v.seats.take k)
      have e : v.seats.flatMap seatC = (v.seats.take k).flatMap seatC ++ (v.seats.drop k).flatMap seatC := by rw [← List.flatMap_append, List.take_append_drop]
      rw [e, List.take_append_of_le_length (by rw [this, List.length_take]; omega)]
      exact (List.take_of_length_le (by rw [this, List.length_take]; omega)).symm
    have hsu : SlA 34 seatC G (.slice (some ⟨h1.n + 1 + 1, 0, none⟩) n n) (turnV v k).seats :=
      ⟨_, _, by rw [hvs], fun q => by simp at q, .inr ⟨h1.n + 1 + 1, 0, true, _, [], rfl, by rw [hG]; simp; rfl, by simp [hvs2], by simp, by rw [hG]; simp⟩⟩
    have hpu : SlA 39 poleC H (.slice (c.map fun b => ⟨b, 0, none⟩) v.poles.length v.poles.length) v.poles := ((OwO.own (h0 := h) ⟨rfl, o3⟩).sl.ext EG).ext hE
    have hku : SlA 3 intC H kq (turnV v k).kills := by
      have := hQ.sl
      rw [hje, hn] at this
      exact this
    have hcu : VenC H (turnV v k) [.slice (some ⟨h1.n + 1 + 1, 0, none⟩) n n, .int .i64 v.gap, .int .i64 v.radius, kq, .slice (c.map fun b => ⟨b, 0, none⟩) v.poles.length v.poles.length] := ⟨_, _, _, rfl, hsu.ext hE, hku, hpu⟩
    have hcv : VenC H v [.slice (some ⟨bs, 0, none⟩) n n, .int .i64 v.gap, .int .i64 v.radius, .slice (b.map fun b => ⟨b, 0, none⟩) v.kills.length v.kills.length, .slice (c.map fun b => ⟨b, 0, none⟩) v.poles.length v.poles.length] := by
      have := (hO'.ven.ext EG).ext hE
      rw [← hn] at this
      exact this
    have hkl := hM.klen
    have hpl := hM.plen
    have hkt : (turnV v k).kills.length = v.kills.length := turnK_len (Nat.le_refl _)
    have hsmU : venSmall (turnV v k) := ⟨by omega, by omega, by show v.poles.length ≤ _; omega⟩
    have hsmV : venSmall v := ⟨by omega, by omega, by omega⟩
    have hys : ∀ ys, ys.Perm (turnV v k).seats → SortedS ys → ys = v.seats := fun ys hp hs => perm_sorted (made_pw hM) (hp.trans (turn_perm v k)) hs
    have hys2 : ∀ ys, ys.Perm v.seats → SortedS ys → ys = v.seats := fun ys hp hs => perm_sorted (made_pw hM) hp hs
    have hso : sortI ((killedL (turnV v k)).map (fun s => findA (atS s) v.seats)) = v.kills := by rw [turn_killed hM (by omega)]; exact sortI_up hM.kup (List.reverse_perm _)
    have hso2 : sortI ((killedL v).map (fun s => findA (atS s) v.seats)) = v.kills := by rw [self_killed hM]; exact sortI_up hM.kup (List.Perm.refl _)
    have hmay := made_may hM (by omega)
    have hout : outV (turnV v k) v.seats = v := by unfold outV; rw [hso]; rfl
    have hout2 : outV v v.seats = v := by unfold outV; rw [hso2]
    obtain ⟨adk, ck, ek⟩ := hku.shape
    subst ek
    simp -implicitDefEqProofs [g5, g6, g7, g8, g9, x5, x8]
    refine (norm_ok (turnV v k) _ hsmU (by omega) H hcu (fun ys hp hs => by rw [hys ys hp hs, hso]; exact made_noAdj hM)).mono ?_
    rintro r H2 ⟨E2, hr | ⟨_, ys, hp, hs', hr⟩⟩
    · exact absurd hr.1 (by rw [turn_in hM (by omega)]; decide)
    obtain rfl := hys ys hp hs'
    rw [hout, hmay] at hr
    rcases hr with ⟨_, co, hco, rfl⟩ | ⟨hr, _⟩
    rotate_left
    · cases hr
    have hco' := hco
    obtain ⟨su, ku, pu, rfl, hu1, hu2, hu3⟩ := hco
    obtain ⟨adU, cU, rfl⟩ := hu1.shape
    obtain ⟨adV, cV, rfl⟩ := hu2.shape
    obtain ⟨adW, cW, rfl⟩ := hu3.shape
    simp -implicitDefEqProofs [callQ, g5, g6, g7, g8, g9, x5, x8]
    intro _
    refine (norm_ok v _ hsmV (by omega) H2 (hcv.ext E2) (fun ys hp hs => by rw [hys2 ys hp hs, hso2]; exact made_noAdj hM)).mono ?_
    rintro r H3 ⟨E3, hr | ⟨_, ys, hp, hs', hr⟩⟩
    · exact absurd hr.1 (by rw [self_in hM]; decide)
    obtain rfl := hys2 ys hp hs'
    rw [hout2, hmay] at hr
    rcases hr with ⟨_, co, hco2, rfl⟩ | ⟨hr, _⟩
    rotate_left
    · cases hr
    have hco2' := hco2
    obtain ⟨su, ku, pu, rfl, hw1, hw2, hw3⟩ := hco2
    obtain ⟨adU2, cU2, rfl⟩ := hw1.shape
    obtain ⟨adV2, cV2, rfl⟩ := hw2.shape
    obtain ⟨adW2, cW2, rfl⟩ := hw3.shape
    simp -implicitDefEqProofs [callQ, g5, g6, g7, g8, g9, x5, x8]
    intro _
    refine (told_ok H3).mono ?_
    rintro r H4 ⟨E4, rfl⟩
    simp -implicitDefEqProofs [callQ, g5, g6, g7, g8, g9, x5, x8]
    intro _
    refine (may_ok v _ hsmV H4 (((hcv.ext E2).ext E3).ext E4)).mono ?_
    rintro r H5 ⟨rfl, rfl⟩
    rw [hmay]
    simp -implicitDefEqProofs [callQ, g5, g6, g7, g8, g9, x5, x8]
    intro _
    have hsame : sameV v v = true := by simp [sameV]
    refine (rsame_ok v v _ _ hsmV H5 ((hco'.ext E3).ext E4) (((hcv.ext E2).ext E3).ext E4)).mono ?_
    rintro r H6 ⟨rfl, rfl⟩
    rw [hsame]
    simp -implicitDefEqProofs [callQ, g5, g6, g7, g8, g9, x5, x8]
    intro _
    refine (rsame_ok v v _ _ hsmV H6 (hco2'.ext E4) (((hcv.ext E2).ext E3).ext E4)).mono ?_
    rintro r H7 ⟨rfl, rfl⟩
    rw [hsame]
    simp -implicitDefEqProofs [callQ, g5, g6, g7, g8, g9, x5, x8]
end Go.Proofs.Yth
