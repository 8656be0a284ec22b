import Derived.Test.YtmmbndbpjanfhaaDoorAmF5
set_option linter.unusedVariables false
set_option linter.unusedSimpArgs false
set_option linter.unusedSectionVars false
namespace Go.Proofs.Flt
open Go Go.Am
set_option maxRecDepth 20000
set_option maxHeartbeats 4000000
def codeL : List FR → Int
  | [] => 0
  | f :: _ => f.code
theorem code_ok (E : Value) (l : List FR) (h : Heap) (G : GlobOK h) (H : ChA h h.n E l) : ACalls PP 9 [E] h (fun v h' => Ext h h' ∧ v = .int .i64 (codeL l)) := by
  refine acalls_of_vc mix fn9 bodyEq9 rfl (by show 1 ≤ 15; decide) ok9 ?_
  simp only [body9, Tryd.f9]
  rcases H.shape with ⟨rfl, rfl⟩ | ⟨b, f, E', r, rfl, rfl, h1, h2, h3⟩
  · simp -implicitDefEqProofs
    exact ⟨Ext.new h _, rfl⟩
  · simp -implicitDefEqProofs
    have hE1 : Ext h (h.new (.row true 41 [.pointer none])) := Ext.new h _
    refine (as_hit_ok b h.n (.pointer none) _ (G.ext hE1) (by simp)).mono ?_
    rintro v h' ⟨rfl, rfl⟩
    have hbn : ¬ b = h.n := by omega
    simp -implicitDefEqProofs [callQ, hbn, h1]
    intro _
    exact ⟨hE1.setOf (Nat.le_refl _) _, rfl⟩
theorem depth_ok (E : Value) (l : List FR) (hl : l.length ≤ 1000) (h : Heap) (G : GlobOK h) (H : ChA h h.n E l) : ACalls PP 10 [E] h (fun v h' => Ext h h' ∧ v = .int .i64 (l.length : Nat)) := by
  refine acalls_of_vc mix fn10 bodyEq10 rfl (by show 1 ≤ 6; decide) ok10 ?_
  simp only [body10, Tryd.f10]
  have hEi : noLoc E = true := by rcases H.shape with ⟨rfl, _⟩ | ⟨b, f, E', r, rfl, _⟩ <;> rfl
  have hE2 := hEi
  simp only [noLoc, locOf, Option.isNone_iff_eq_none] at hE2
  simp -implicitDefEqProofs [hE2]
  refine (all_ok _ _ hl h G H).mono ?_
  rintro v h' ⟨X, bs, o, hB, hO⟩
  obtain ⟨rfl, _⟩ := id hO
  simp -implicitDefEqProofs [callQ]
  intro _
  exact ⟨X, by rw [hB.1]⟩
theorem isF_ok (E : Value) (l : List FR) (c : Int) (h : Heap) (G : GlobOK h) (H : ChA h h.n E l) : ACalls PP 11 [E, .int .i64 c] h (fun v h' => Ext h h' ∧ v = .bool (decide (0 < c) && decide (c ∈ l.map (·.code)))) := by
  refine acalls_of_vc mix fn11 bodyEq11 rfl (by show 2 ≤ 15; decide) ok11 ?_
  simp only [body11, Tryd.f11]
  by_cases hc : 0 < c
  · have hE1 : ∀ x, Ext h (h.new x) := fun x => Ext.new h x
    rcases H.shape with ⟨rfl, rfl⟩ | ⟨b, f, E', r, rfl, rfl, h1, h2, h3⟩
    · simp -implicitDefEqProofs [hc]
      refine (is_ok _ _ c _ (G.ext (hE1 _)) h.n _ _ _ (by simp; exact ⟨rfl, rfl, rfl⟩) (H.up (Nat.le_refl _) (hE1 _).f)).mono ?_
      rintro v h' ⟨rfl, rfl⟩
      simp -implicitDefEqProofs [callQ]
      intro _
      exact hE1 _
    · simp -implicitDefEqProofs [hc]
      refine (is_ok _ _ c _ (G.ext (hE1 _)) h.n (.int .i64 0) (.int .i64 0) .nilIface (by simp) (H.up (Nat.le_refl _) (hE1 _).f)).mono ?_
      rintro v h' ⟨rfl, rfl⟩
      simp -implicitDefEqProofs [callQ]
      intro _
      exact hE1 _
  · simp -implicitDefEqProofs [hc]
    exact Ext.rfl' h
def hasS (f : FR) : Bool := !decide (f.line = 0) || !decide (f.col = 0)
def spotL : List FR → Int × Int
  | [] => (0, 0)
  | f :: r => if hasS f then (f.line, f.col) else spotL r
def J14 (h H : Heap) (sv : Value) (l : List FR) (m : Nat) (σ : St) : Prop := ∃ i : Nat, m = l.length - i ∧ i ≤ l.length ∧ σ.m.h = H ∧ spotL l = spotL (l.drop i) ∧ σ.t.get 2 = some (.pointer (some ⟨2, 0, some 0⟩)) ∧ σ.t.get 6 = some sv ∧ σ.t.get 7 = some (.int .i64 (l.length : Nat)) ∧ σ.t.get 8 = some (.int .i64 (i : Nat)) ∧ σ.m.x.look 2 = some (31, [.int .i64 0, .int .i64 0])
theorem spot_ok (E : Value) (l : List FR) (hl : l.length ≤ 1000) (h : Heap) (G : GlobOK h) (H : ChA h h.n E l) : ACalls PP 14 [E] h (fun v h' => Ext h h' ∧ v = .agg ⟨[.int .i64 (spotL l).1, .int .i64 (spotL l).2]⟩) := by
  refine acalls_of_vc mix fn14 bodyEq14 rfl (by show 1 ≤ 24; decide) ok14 ?_
  simp only [body14, Tryd.f14]
  have hEi : noLoc E = true := by rcases H.shape with ⟨rfl, _⟩ | ⟨b, f, E', r, rfl, _⟩ <;> rfl
  have hcall := all_ok E l hl h G H
  have hE2 := hEi
  simp only [noLoc, locOf, Option.isNone_iff_eq_none] at hE2
  simp -implicitDefEqProofs [hE2]
  refine hcall.mono ?_
  rintro v h' ⟨X, bs, o, hB, hO⟩
  obtain ⟨rfl, ho⟩ := id hO
  have hbl := hB.1
  obtain ⟨n, hn⟩ : ∃ n, n = l.length := ⟨_, rfl⟩
  rw [← hn] at hbl hl
  rw [hbl]
  simp -implicitDefEqProofs [callQ]
  intro _
  refine vc_loop (J14 h h' (.slice (o.map fun b => ⟨b, 0, none⟩) n n) l) n ⟨0, by omega, by omega, rfl, rfl, by simp, by simp, by simp [hn], by simp, by simp⟩ ?_
  rintro m ⟨T, ⟨x, H1⟩⟩ ⟨i, rfl, hi, rfl, hsp, g2, g6, g7, g8, x2⟩
  simp at g2 g6 g7 g8 x2
  rw [← hn] at g7 hi
  simp -implicitDefEqProofs [g2, g6, g7, g8, x2]
  refine condQ_of (fun hc => ?_) (fun hc => ?_) <;> simp only [decide_eq_true_eq, decide_eq_false_iff_not] at hc
  · have hin : i < n := by omega
    obtain ⟨bo, rfl⟩ : ∃ bo, o = some bo := by
      cases o with
      | none => simp only at ho; rw [ho] at hbl; simp at hbl; omega
      | some b => exact ⟨b, rfl⟩
    simp only at ho
    obtain ⟨ho1, ho2, ho3⟩ := ho
    have hbi : bs[i]? = some bs[i] := List.getElem?_eq_getElem (by omega)
    have hli : l[i]? = some l[i] := List.getElem?_eq_getElem (by omega)
    obtain ⟨hbn, E', hrow⟩ := hB.2 i _ _ hbi hli
    obtain ⟨b, hb⟩ : ∃ b, b = bs[i] := ⟨_, rfl⟩
    obtain ⟨f, hf⟩ : ∃ f, f = l[i] := ⟨_, rfl⟩
    rw [← hb] at hbn hrow hbi
    rw [← hf] at hrow hli
    have hrow' : H1.f b = .row true 43 [.int .i64 f.code, .int .i64 f.line, .int .i64 f.col, E'] := by rw [X.f b hbn]; exact hrow
    obtain ⟨F, hF⟩ : ∃ F, F = bs.flatMap ptrC := ⟨_, rfl⟩
    have hFl : F.length = n := by have := flatA_len 1 (enc := ptrC) (fun _ => rfl) bs; rw [← hF] at this; omega
    have hFd : (F.drop i).take 1 = [.pointer (some ⟨b, 0, none⟩)] := by
      have h1 := flatA_drop 1 (enc := ptrC) (fun _ => rfl) bs i
      rw [Nat.mul_one] at h1
      rw [hF, h1, List.drop_eq_getElem_cons (by omega), ← hb]; rfl
    rw [← hF] at ho1
    have hi1 : i + 1 ≤ n := by omega
    have w1 : IntKind.wrap .i64 ((i : Int) + 1) = ((i + 1 : Nat) : Int) := by rw [i64wrap (by omega)]; omega
    have hdl : l.drop i = f :: l.drop (i + 1) := by rw [List.drop_eq_getElem_cons (by omega), ← hf]
    simp -implicitDefEqProofs [g2, g6, g7, g8, x2, hin, ho1, hFl, hFd, hi1, hrow']
    cases hs : hasS f with
    | true =>
      have hsv : spotL l = (f.line, f.col) := by rw [hsp, hdl]; simp [spotL, hs]
      have hs' : (!decide (f.line = 0) || !decide (f.col = 0)) = true := hs
      rw [hs']
      simp -implicitDefEqProofs [g2, g6, g7, g8, x2, hrow', hsv]
      exact X
    | false =>
      have hs' : (!decide (f.line = 0) || !decide (f.col = 0)) = false := hs
      rw [hs']
      simp -implicitDefEqProofs [g2, g6, g7, g8, x2, w1]
      exact ⟨l.length - (i + 1), by omega, i + 1, rfl, by omega, rfl, by rw [hsp, hdl]; simp [spotL, hs], by simp, by simp, by simp [hn], by simp, by simp⟩
  · have hie : i = n := by omega
    have hs0 : spotL l = (0, 0) := by rw [hsp, hie, hn, List.drop_length]; rfl
    simp -implicitDefEqProofs [g2, g6, g7, g8, x2, hs0]
    exact X
theorem bounded_ok (n : Int) (h : Heap) : ACalls PP 12 [.int .i64 n] h (fun v h' => h' = h ∧ v = .int .i64 (mx0 n)) := by
  refine acalls_of_vc mix fn12 bodyEq12 rfl (by show 1 ≤ 5; decide) ok12 ?_
  simp only [body12, Tryd.f12]
  simp -implicitDefEqProofs [mx0]
/-! ### decimals -/
def digT : List UInt8 := [48, 49, 50, 51, 52, 53, 54, 55, 56, 57]
theorem digT_at (r : Nat) (hr : r < 10) : (digT.take (r + 1)).drop r = [UInt8.ofNat (48 + r)] := by
  have : r = 0 ∨ r = 1 ∨ r = 2 ∨ r = 3 ∨ r = 4 ∨ r = 5 ∨ r = 6 ∨ r = 7 ∨ r = 8 ∨ r = 9 := by omega
  rcases this with rfl | rfl | rfl | rfl | rfl | rfl | rfl | rfl | rfl | rfl <;> rfl
theorem dec_small {u : Nat} (h : u < 10) : Lib.decDigits u = [UInt8.ofNat (48 + u)] := by rw [Lib.decDigits, dif_pos h]
theorem dec_big {u : Nat} (h : ¬ u < 10) : Lib.decDigits u = Lib.decDigits (u / 10) ++ [UInt8.ofNat (48 + u % 10)] := by rw [Lib.decDigits, dif_neg h]
theorem dec_len : ∀ (k u : Nat), 1 ≤ k → u < 10 ^ k → (Lib.decDigits u).length ≤ k := by
  intro k
  induction k with
  | zero => intro u h; omega
  | succ k ih =>
    intro u _ hu
    by_cases h : u < 10
    · rw [dec_small h]; simp
    · rw [dec_big h, List.length_append]
      have hk : 1 ≤ k := by
        rcases Nat.eq_zero_or_pos k with z | z
        · subst z; simp at hu; omega
        · exact z
      have := ih (u / 10) hk (by rw [Nat.pow_succ] at hu; omega)
      simp; omega
theorem dec_len20 {u : Nat} (h : u ≤ 18446744073709551615) : (Lib.decDigits u).length ≤ 20 := dec_len 20 u (by omega) (by omega)
def J20 (n0 : Nat) (h : Heap) (n : Nat) (σ : St) : Prop := ∃ s : List UInt8, n ≤ 18446744073709551615 ∧ σ.m.h = h ∧ Lib.decDigits n0 = Lib.decDigits n ++ s ∧ σ.t.get 0 = some (.int .u64 (n : Nat)) ∧ σ.t.get 3 = some (.string (B s))
theorem digits_ok (n : Nat) (hn : n ≤ 18446744073709551615) (h : Heap) : ACalls PP 20 [.int .u64 (n : Nat)] h (fun v h' => h' = h ∧ v = .string (B (Lib.decDigits n))) := by
  refine acalls_of_vc mix fn20 bodyEq20 rfl (by show 1 ≤ 22; decide) ok20 ?_
  simp only [body20, Tryd.f20]
  simp -implicitDefEqProofs
  refine vc_loop (J20 n h) n ⟨[], hn, rfl, by simp, by simp, by simp⟩ ?_
  rintro m ⟨T, ⟨x, H⟩⟩ ⟨s, hm, rfl, hd, g0, g3⟩
  simp at g0 g3
  simp -implicitDefEqProofs [g0, g3]
  refine condQ_of (fun hc => ?_) (fun hc => ?_) <;> simp only [decide_eq_true_eq, decide_eq_false_iff_not] at hc
  · have hm9 : ¬ m < 10 := by omega
    obtain ⟨r, hr⟩ : ∃ r, r = m % 10 := ⟨_, rfl⟩
    obtain ⟨r1, hr1⟩ : ∃ r1, r1 = r + 1 := ⟨_, rfl⟩
    obtain ⟨q, hq⟩ : ∃ q, q = m / 10 := ⟨_, rfl⟩
    have hr10 : r < 10 := by omega
    have e1 : (m : Int).tmod 10 = (r : Int) := by rw [Int.tmod_eq_emod_of_nonneg (by omega)]; omega
    have e2 : (m : Int).tdiv 10 = (q : Int) := by rw [Int.tdiv_eq_ediv_of_nonneg (by omega)]; omega
    have w0 : IntKind.wrap .u64 (r : Int) = (r : Int) := u64wrap (by omega)
    have w1 : IntKind.wrap .u64 ((r : Int) + 1) = (r1 : Int) := by rw [u64wrap (by omega)]; omega
    have w2 : IntKind.wrap .u64 (q : Int) = (q : Int) := u64wrap (by omega)
    obtain ⟨ch, hch⟩ : ∃ ch, ch = UInt8.ofNat (48 + r) := ⟨_, rfl⟩
    have d1 : (([48, 49, 50, 51, 52, 53, 54, 55, 56, 57] : List UInt8).take r1).drop r = [ch] := by rw [hr1, hch]; exact digT_at r hr10
    have hsl : 1 + s.length ≤ 9223372036854775807 := by have := congrArg List.length hd; have h2 := dec_len20 hn; rw [List.length_append] at this; omega
    have b1 : r1 ≤ 10 := by omega
    have b2 : r ≤ r1 := by omega
    simp -implicitDefEqProofs [g0, g3, e1, e2, w0, w1, w2, d1, b1, b2, hsl]
    refine ⟨q, by omega, ch :: s, by omega, rfl, ?_, by simp, by simp⟩
    rw [hd, dec_big hm9, ← hq, ← hr, ← hch, List.append_assoc]; rfl
  · have hm10 : m < 10 := by omega
    obtain ⟨r1, hr1⟩ : ∃ r1, r1 = m + 1 := ⟨_, rfl⟩
    have w1 : IntKind.wrap .u64 ((m : Int) + 1) = (r1 : Int) := by rw [u64wrap (by omega)]; omega
    obtain ⟨ch, hch⟩ : ∃ ch, ch = UInt8.ofNat (48 + m) := ⟨_, rfl⟩
    have d1 : (([48, 49, 50, 51, 52, 53, 54, 55, 56, 57] : List UInt8).take r1).drop m = [ch] := by rw [hr1, hch]; exact digT_at m hm10
    have hsl : 1 + s.length ≤ 9223372036854775807 := by have := congrArg List.length hd; have h2 := dec_len20 hn; rw [List.length_append] at this; omega
    have b1 : r1 ≤ 10 := by omega
    have b2 : m ≤ r1 := by omega
    have hres : Lib.decDigits n = ch :: s := by rw [hd, dec_small hm10, hch]; rfl
    simp -implicitDefEqProofs [g0, g3, w1, d1, b1, b2, hres, hsl]
theorem decimal_ok (n : Int) (hn : -9223372036854775808 ≤ n ∧ n ≤ 9223372036854775807) (h : Heap) : ACalls PP 13 [.int .i64 n] h (fun v h' => h' = h ∧ v = .string (B (Lib.itoa n))) := by
  refine acalls_of_vc mix fn13 bodyEq13 rfl (by show 1 ≤ 15; decide) ok13 ?_
  simp only [body13, Tryd.f13]
  by_cases h1 : n < 0
  · obtain ⟨u, hu⟩ : ∃ u : Nat, u = n.natAbs := ⟨_, rfl⟩
    have w1 : IntKind.wrap .i64 (n + 1) = n + 1 := i64wrap (by omega)
    have w2 : IntKind.wrap .i64 (-(n + 1)) = -(n + 1) := i64wrap (by omega)
    have w2' : IntKind.wrap .i64 (-1 + -n) = -1 + -n := i64wrap (by omega)
    have w3 : IntKind.wrap .u64 (-(n + 1)) = -(n + 1) := u64wrap (by omega)
    have w3' : IntKind.wrap .u64 (-1 + -n) = -1 + -n := u64wrap (by omega)
    have w4 : IntKind.wrap .u64 (-(n + 1) + 1) = (u : Int) := by rw [u64wrap (by omega)]; omega
    have w4' : IntKind.wrap .u64 (-1 + -n + 1) = (u : Int) := by rw [u64wrap (by omega)]; omega
    have hres : Lib.itoa n = 45 :: Lib.decDigits u := by unfold Lib.itoa; rw [if_pos h1, hu]
    simp -implicitDefEqProofs [h1, w1, w2, w2', w3, w3', w4, w4']
    have hlen : 1 + (Lib.decDigits u).length ≤ 9223372036854775807 := by have := dec_len20 (u := u) (by omega); omega
    refine (digits_ok u (by omega) h).mono ?_
    rintro v h' ⟨rfl, rfl⟩
    simp -implicitDefEqProofs [callQ, hres, hlen]
  · obtain ⟨u, hu⟩ : ∃ u : Nat, n = u := ⟨n.toNat, by omega⟩
    have w3 : IntKind.wrap .u64 n = (u : Int) := by rw [hu, u64wrap (by omega)]
    have hres : Lib.itoa n = Lib.decDigits u := by unfold Lib.itoa; rw [if_neg h1]; congr 1; omega
    simp -implicitDefEqProofs [h1, w3]
    refine (digits_ok u (by omega) h).mono ?_
    rintro v h' ⟨rfl, rfl⟩
    simp -implicitDefEqProofs [callQ, hres]
/-! ### what all of them say -/
def InR (n : Int) : Prop := -9223372036854775808 ≤ n ∧ n ≤ 9223372036854775807
def InF (f : FR) : Prop := InR f.code ∧ InR f.line ∧ InR f.col
theorem itoa_len {n : Int} (h : InR n) : (Lib.itoa n).length ≤ 21 := by
  have h1 := h.1
  have h2 := h.2
  unfold Lib.itoa
  split
  · have := dec_len20 (u := n.natAbs) (by omega); simp; omega
  · have := dec_len20 (u := n.toNat) (by omega); omega
def txtF (f : FR) : List UInt8 := [99, 111, 100, 101, 32] ++ Lib.itoa f.code ++ (if hasS f then [32, 97, 116, 32] ++ Lib.itoa f.line ++ [58] ++ Lib.itoa f.col else [])
theorem txtF_len {f : FR} (h : InF f) : (txtF f).length ≤ 80 := by
  have h1 := itoa_len h.1
  have h2 := itoa_len h.2.1
  have h3 := itoa_len h.2.2
  unfold txtF
  split <;> simp <;> omega
def textL (l : List FR) : List UInt8 := Lib.join (l.map txtF) [58, 32]
theorem join_len (xs : List (List UInt8)) (hx : ∀ x ∈ xs, x.length ≤ 80) : (Lib.join xs [58, 32]).length ≤ xs.length * 82 := by
  cases xs with
  | nil => simp [Lib.join_nil]
  | cons x r =>
    rw [Lib.join_cons, List.length_append, Lib.joinTail]
    have : ∀ r : List (List UInt8), (∀ x ∈ r, x.length ≤ 80) → ((r.map ([58, 32] ++ ·)).flatten).length ≤ r.length * 82 := by
      intro r
      induction r with
      | nil => intro _; simp
      | cons y r ih =>
        intro h
        have := ih fun x hx => h x (List.mem_cons_of_mem _ hx)
        have := h y (by simp)
        simp at *; omega
    have h1 := this r fun y hy => hx y (List.mem_cons_of_mem _ hy)
    have h2 := hx x (by simp)
    rw [List.length_cons]; omega
def J15 (h hx : Heap) (bo : Option Nat) (l : List FR) (m : Nat) (σ : St) : Prop := ∃ (i : Nat) (o : Option Nat) (v : Value), m = l.length - i ∧ i ≤ l.length ∧ Ext hx σ.m.h ∧ OwO 9 strC hx σ.m.h o ((l.take i).map txtF) v ∧
  σ.t.get 3 = some v ∧ σ.t.get 8 = some (.slice (bo.map fun b => ⟨b, 0, none⟩) l.length l.length) ∧ σ.t.get 9 = some (.int .i64 (l.length : Nat)) ∧ σ.t.get 10 = some (.int .i64 (i : Nat))
def M15 (H1 : Heap) (v3 v8 : Value) (n i : Nat) (f : FR) (σ : St) : Prop := σ.m.h = H1 ∧ σ.t.get 3 = some v3 ∧ σ.t.get 6 = some (.string (B (txtF f))) ∧ σ.t.get 8 = some v8 ∧ σ.t.get 9 = some (.int .i64 (n : Nat)) ∧ σ.t.get 10 = some (.int .i64 (i : Nat))
theorem text_ok (E : Value) (l : List FR) (hl : l.length ≤ 1000) (hf : ∀ f ∈ l, InF f) (h : Heap) (G : GlobOK h) (H : ChA h h.n E l) : ACalls PP 15 [E] h (fun v h' => Ext h h' ∧ v = .string (B (textL l))) := by
  refine acalls_of_vc mix fn15 bodyEq15 rfl (by show 1 ≤ 50; decide) ok15 ?_
  simp only [body15, Tryd.f15]
  have hEi : noLoc E = true := by rcases H.shape with ⟨rfl, _⟩ | ⟨b, f, E', r, rfl, _⟩ <;> rfl
  have hE2 := hEi
  simp only [noLoc, locOf, Option.isNone_iff_eq_none] at hE2
  simp -implicitDefEqProofs [hE2]
  refine (all_ok E l hl h G H).mono ?_
  rintro v h' ⟨X, bs, bo, hB, hO⟩
  obtain ⟨rfl, ho⟩ := id hO
  have hbl := hB.1
  obtain ⟨n, hn⟩ : ∃ n, n = l.length := ⟨_, rfl⟩
  rw [← hn] at hbl hl
  rw [hbl]
  simp -implicitDefEqProofs [callQ]
  intro _
  refine vc_loop (J15 h' h' bo l) n ⟨0, none, .slice none 0 0, by omega, by omega, Ext.rfl' h', OwO.nil, by simp, by simp [hn], by simp [hn], by simp⟩ ?_
  rintro m ⟨T, ⟨x, H1⟩⟩ ⟨i, o, v, rfl, hi, X1, hO1, g3, g8, g9, g10⟩
  rw [← hn] at g8 g9 hi
  obtain ⟨rfl, ho1⟩ := id hO1
  have hol : ((l.take i).map txtF).length = i := by rw [List.length_map, List.length_take]; omega
  rw [hol] at g3
  simp at X1 g3 g8 g9 g10
  simp only at hO1 ho1
  have hGl := (G.ext X).ext X1
  simp -implicitDefEqProofs [g3, g8, g9, g10]
  refine condQ_of (fun hc => ?_) (fun hc => ?_) <;> simp only [decide_eq_true_eq, decide_eq_false_iff_not] at hc
  · have hin : i < n := by omega
    obtain ⟨bq, rfl⟩ : ∃ bq, bo = some bq := by
      cases bo with
      | none => simp only at ho; rw [ho] at hbl; simp at hbl; omega
      | some b => exact ⟨b, rfl⟩
    simp only at ho
    obtain ⟨hp1, hp2, hp3⟩ := ho
    have hbi : bs[i]? = some bs[i] := List.getElem?_eq_getElem (by omega)
    have hli : l[i]? = some l[i] := List.getElem?_eq_getElem (by omega)
    obtain ⟨hbn, E', hrow⟩ := hB.2 i _ _ hbi hli
    obtain ⟨b, hb⟩ : ∃ b, b = bs[i] := ⟨_, rfl⟩
    obtain ⟨f, hff⟩ : ∃ f, f = l[i] := ⟨_, rfl⟩
    rw [← hb] at hbn hrow hbi
    rw [← hff] at hrow hli
    have hfin := hf f (List.mem_of_getElem? hli)
    have hrow' : H1.f b = .row true 43 [.int .i64 f.code, .int .i64 f.line, .int .i64 f.col, E'] := by rw [X1.f b (Nat.lt_of_lt_of_le hbn X.n), X.f b hbn]; exact hrow
    obtain ⟨F, hF⟩ : ∃ F, F = bs.flatMap ptrC := ⟨_, rfl⟩
    have hFl : F.length = n := by have := flatA_len 1 (enc := ptrC) (fun _ => rfl) bs; rw [← hF] at this; omega
    have hFd : (F.drop i).take 1 = [.pointer (some ⟨b, 0, none⟩)] := by
      have h1 := flatA_drop 1 (enc := ptrC) (fun _ => rfl) bs i
      rw [Nat.mul_one] at h1
      rw [hF, h1, List.drop_eq_getElem_cons (by omega), ← hb]; rfl
    rw [← hF] at hp1
    have hp1' : H1.f bq = .row true 41 F := by rw [X1.f bq hp3]; exact hp1
    have hi1 : i + 1 ≤ n := by omega
    have w1 : IntKind.wrap .i64 ((i : Int) + 1) = ((i + 1 : Nat) : Int) := by rw [i64wrap (by omega)]; omega
    have l1 := itoa_len hfin.1
    have l2 := itoa_len hfin.2.1
    have l3 := itoa_len hfin.2.2
    obtain ⟨tc, htc⟩ : ∃ t, t = Lib.itoa f.code := ⟨_, rfl⟩
    have c1 := itoa_ok f.code hfin.1 H1 hGl
    rw [← htc] at c1 l1
    have m1 : 5 + tc.length ≤ 9223372036854775807 := by omega
    simp -implicitDefEqProofs [g3, g8, g9, g10, hin, hp1', hFl, hFd, hi1, hrow']
    refine c1.mono ?_
    rintro r H2 ⟨e3, rfl⟩
    replace e3 := e3.symm
    subst e3
    simp -implicitDefEqProofs [callQ, m1, hrow']
    intro _
    refine condQ_cut (M15 H1 (.slice (o.map fun b => ⟨b, 0, none⟩) i i) (.slice (some ⟨bq, 0, none⟩) n n) n i f) ?_ ?_
    · cases hs : hasS f with
      | true =>
        have hs' : (!decide (f.line = 0) || !decide (f.col = 0)) = true := hs
        rw [hs']
        obtain ⟨tl, htl⟩ : ∃ t, t = Lib.itoa f.line := ⟨_, rfl⟩
        have c2 := itoa_ok f.line hfin.2.1 H1 hGl
        obtain ⟨tk, htk⟩ : ∃ t, t = Lib.itoa f.col := ⟨_, rfl⟩
        have c3 := itoa_ok f.col hfin.2.2 H1 hGl
        rw [← htl] at c2 l2
        rw [← htk] at c3 l3
        have m2 : 4 + tl.length ≤ 9223372036854775807 := by omega
        simp -implicitDefEqProofs [hrow']
        refine c2.mono ?_
        rintro r H2 ⟨e3, rfl⟩
        replace e3 := e3.symm
        subst e3
        have m3 : 4 + tl.length + 1 ≤ 9223372036854775807 := by omega
        have m4 : tl.length ≤ 9223372036854775802 := by omega
        simp -implicitDefEqProofs [callP, hrow', m2, m3, m4]
        intro _
        refine c3.mono ?_
        rintro r H2 ⟨e3, rfl⟩
        replace e3 := e3.symm
        subst e3
        have m5 : tl.length + 1 + 1 + 1 + 1 + 1 + tk.length ≤ 9223372036854775807 := by omega
        have m6 : tc.length + 1 + 1 + 1 + 1 + 1 + (tl.length + (tk.length + 1) + 1 + 1 + 1 + 1) ≤ 9223372036854775807 := by omega
        simp -implicitDefEqProofs [callP, hrow', m2, m3, m4, m5, m6]
        intro _
        exact ⟨rfl, by simp, by simp [txtF, hs, htc, htl, htk], by simp, by simp, by simp⟩
      | false =>
        have hs' : (!decide (f.line = 0) || !decide (f.col = 0)) = false := hs
        rw [hs']
        simp -implicitDefEqProofs
        exact ⟨rfl, by simp, by simp [txtF, hs, htc], by simp, by simp, by simp⟩
    clear g3 g8 g9 g10
    rintro ⟨T, ⟨x, H2⟩⟩ ⟨rfl, g3, g6, g8, g9, g10⟩
    simp at g3 g6 g8 g9 g10
    have hr1 : List.range 1 = [0] := rfl
    obtain ⟨tx, htx⟩ : ∃ t, t = txtF f := ⟨_, rfl⟩
    rw [← htx] at g6
    have htk : (l.take (i + 1)).map txtF = (l.take i).map txtF ++ [tx] := by rw [List.take_add_one, hli, List.map_append, htx]; rfl
    have hnH := X1.n
    simp only at hO1 ho1 X1 hrow' hp1' hGl hnH
    have nxt : ∀ σ2 : St, Ext h' σ2.m.h → ∀ o', OwO 9 strC h' σ2.m.h (some o') ((l.take (i + 1)).map txtF) (.slice (some ⟨o', 0, none⟩) (i + 1) (i + 1)) →
        σ2.t.get 3 = some (.slice (some ⟨o', 0, none⟩) (i + 1) (i + 1)) → σ2.t.get 8 = some (.slice (some ⟨bq, 0, none⟩) n n) → σ2.t.get 9 = some (.int .i64 (n : Nat)) → σ2.t.get 10 = some (.int .i64 ((i + 1 : Nat) : Int)) → ∃ j, j < l.length - i ∧ J15 h' h' (some bq) l j σ2 := by
      intro σ2 x1 o' x2 x3 x8 x9 x10
      exact ⟨l.length - (i + 1), by omega, i + 1, some o', _, rfl, by omega, x1, x2, x3, by rw [x8, hn]; rfl, by rw [x9, hn], x10⟩
    cases o with
    | none =>
      simp only at ho1
      have hi0 : i = 0 := by have := congrArg List.length ho1; rw [hol] at this; exact this
      subst hi0
      have hw : IntKind.wrap .i64 1 = 1 := rfl
      simp -implicitDefEqProofs [g3, g6, g8, g9, g10, opBuildSlice, hr1, opAppend, srcCells, maxA, w1, hw]
      refine nxt _ ?_ (H2.n + 1) ⟨by rw [htk]; simp, ?_, ?_, ?_⟩ (by simp) (by simp) (by simp) (by simp)
      · exact (Ext.newOf X1 _).newOf _
      · rw [htk]; simp [strC]
      · have := X.n; omega
      · simp
    | some bp =>
      simp only at ho1
      obtain ⟨hq1, hq2, hq3⟩ := ho1
      obtain ⟨K, hK⟩ : ∃ K, K = ((l.take i).map txtF).flatMap strC := ⟨_, rfl⟩
      have hKl : K.length = i := by have := flatA_len 1 (enc := strC) (fun _ => rfl) ((l.take i).map txtF); rw [← hK, hol] at this; omega
      rw [← hK] at hq1
      have e8 : K.take i = K := List.take_of_length_le (by omega)
      have hmx : (i + 1) * 16 ≤ 140737488355328 := by omega
      have o1 : ¬ bp = H2.n := by omega
      simp -implicitDefEqProofs [g3, g6, g8, g9, g10, opBuildSlice, hr1, opAppend, srcCells, maxA, w1, hq1, hKl, e8, hmx, o1]
      refine nxt _ ?_ (H2.n + 1) ⟨by rw [htk]; simp; omega, ?_, ?_, ?_⟩ (by simp) (by simp) (by simp) (by simp)
      · exact ((Ext.newOf X1 _).setOf hq2 _).newOf _
      · rw [htk, List.flatMap_append, ← hK]; simp [strC]
      · have := X.n; omega
      · simp
  · have hie : i = n := by omega
    rw [hol] at hO1
    rw [show l.take i = l by rw [hie, hn, List.take_length]] at hO1
    have hlt : (l.map txtF).length ≤ 1000 := by rw [List.length_map]; omega
    have hjl := join_len (l.map txtF) (fun x hx => by obtain ⟨f, q1, rfl⟩ := List.mem_map.1 hx; exact txtF_len (hf f q1))
    simp -implicitDefEqProofs [g3, g8, g9, g10]
    refine (join_ok _ (l.map txtF) [58, 32] (by omega) (by omega) h' H1 hGl o hO1).mono ?_
    rintro r H2 ⟨rfl, rfl⟩
    simp -implicitDefEqProofs [callQ]
    intro _
    exact ⟨X.trans X1, rfl⟩
end Go.Proofs.Flt
