import Derived.Test.YthglohpeijfcfaaGreatDoorMe
import Derived.Lib.ItoaNum
set_option linter.unusedVariables false
set_option linter.unusedSimpArgs false
set_option linter.unusedSectionVars false
set_option linter.constructorNameAsVariable false
namespace Go.Proofs.Yph.F
open Go Go.Am
set_option maxRecDepth 20000
set_option maxHeartbeats 4000000
def codeL : List FR → Int
  | [] => 0
  | f :: _ => f.code
theorem code_ok (E : Value) (l : List FR) (h : Heap) (G : GlobOK h) (H : ChA h h.n E l) : ACalls PP 15 [E] h (fun v h' => Ext h h' ∧ v = .int .i64 (codeL l)) := by
  refine acalls_of_vc mix fn15 bodyEq15 rfl (by show 1 ≤ 15; decide) ok15 ?_
  simp only [body15, Tryz.f15]
  rcases H.shape with ⟨rfl, rfl⟩ | ⟨b, f, E', r, rfl, rfl, h1, h2, h3⟩
  · simp -implicitDefEqProofs
    exact ⟨Ext.new h _, rfl⟩
  · simp -implicitDefEqProofs
    have hE1 : Ext h (h.new (.row true 58 [.pointer none])) := Ext.new h _
    refine (as_hit_ok b h.n (.pointer none) _ (G.ext hE1) (by simp)).mono ?_
    rintro v h' ⟨rfl, rfl⟩
    have hbn : ¬ b = h.n := by omega
    simp -implicitDefEqProofs [callQ, hbn, h1]
    intro _
    exact ⟨hE1.setOf (Nat.le_refl _) _, rfl⟩
def hasS (f : FR) : Bool := !decide (f.line = 0) || !decide (f.col = 0)
def spotL : List FR → Int × Int
  | [] => (0, 0)
  | f :: r => if hasS f then (f.line, f.col) else spotL r
def J14 (h H : Heap) (sv : Value) (l : List FR) (m : Nat) (σ : St) : Prop := ∃ i : Nat, m = l.length - i ∧ i ≤ l.length ∧ σ.m.h = H ∧ spotL l = spotL (l.drop i) ∧ σ.t.get 2 = some (.pointer (some ⟨2, 0, some 0⟩)) ∧ σ.t.get 6 = some sv ∧ σ.t.get 7 = some (.int .i64 (l.length : Nat)) ∧ σ.t.get 8 = some (.int .i64 (i : Nat)) ∧ σ.m.x.look 2 = some (27, [.int .i64 0, .int .i64 0])
theorem spot_ok (E : Value) (l : List FR) (hl : l.length ≤ 1000) (h : Heap) (G : GlobOK h) (H : ChA h h.n E l) : ACalls PP 16 [E] h (fun v h' => Ext h h' ∧ v = .agg ⟨[.int .i64 (spotL l).1, .int .i64 (spotL l).2]⟩) := by
  refine acalls_of_vc mix fn16 bodyEq16 rfl (by show 1 ≤ 24; decide) ok16 ?_
  simp only [body16, Tryz.f16]
  have hEi : noLoc E = true := by rcases H.shape with ⟨rfl, _⟩ | ⟨b, f, E', r, rfl, _⟩ <;> rfl
  have hcall := all_ok E l hl h G H
  have hE2 := hEi
  simp only [noLoc, locOf, Option.isNone_iff_eq_none] at hE2
  simp -implicitDefEqProofs [hE2]
  refine hcall.mono ?_
  rintro v h' ⟨X, bs, o, hB, hO⟩
  obtain ⟨rfl, ho⟩ := id hO
  have hbl := hB.1
  obtain ⟨n, hn⟩ : ∃ n, n = l.length := ⟨_, rfl⟩
  rw [← hn] at hbl hl
  rw [hbl]
  simp -implicitDefEqProofs [callQ]
  intro _
  refine vc_loop (J14 h h' (.slice (o.map fun b => ⟨b, 0, none⟩) n n) l) n ⟨0, by omega, by omega, rfl, rfl, by simp, by simp, by simp [hn], by simp, by simp⟩ ?_
  rintro m ⟨T, ⟨x, H1⟩⟩ ⟨i, rfl, hi, rfl, hsp, g2, g6, g7, g8, x2⟩
  simp at g2 g6 g7 g8 x2
  rw [← hn] at g7 hi
  simp -implicitDefEqProofs [g2, g6, g7, g8, x2]
  refine condQ_of (fun hc => ?_) (fun hc => ?_) <;> simp only [decide_eq_true_eq, decide_eq_false_iff_not] at hc
  · have hin : i < n := by omega
    obtain ⟨bo, rfl⟩ : ∃ bo, o = some bo := by
      cases o with
      | none => simp only at ho; rw [ho] at hbl; simp at hbl; omega
      | some b => exact ⟨b, rfl⟩
    simp only at ho
    obtain ⟨ho1, ho2, ho3⟩ := ho
    have hbi : bs[i]? = some bs[i] := List.getElem?_eq_getElem (by omega)
    have hli : l[i]? = some l[i] := List.getElem?_eq_getElem (by omega)
    obtain ⟨hbn, E', hrow⟩ := hB.2 i _ _ hbi hli
    obtain ⟨b, hb⟩ : ∃ b, b = bs[i] := ⟨_, rfl⟩
    obtain ⟨f, hf⟩ : ∃ f, f = l[i] := ⟨_, rfl⟩
    rw [← hb] at hbn hrow hbi
    rw [← hf] at hrow hli
    have hrow' : H1.f b = .row true 89 [.int .i64 f.code, .int .i64 f.line, .int .i64 f.col, E'] := by rw [X.f b hbn]; exact hrow
    obtain ⟨F, hF⟩ : ∃ F, F = bs.flatMap ptrC := ⟨_, rfl⟩
    have hFl : F.length = n := by have := flatA_len 1 (enc := ptrC) (fun _ => rfl) bs; rw [← hF] at this; omega
    have hFd : (F.drop i).take 1 = [.pointer (some ⟨b, 0, none⟩)] := by
      have h1 := flatA_drop 1 (enc := ptrC) (fun _ => rfl) bs i
      rw [Nat.mul_one] at h1
      rw [hF, h1, List.drop_eq_getElem_cons (by omega), ← hb]; rfl
    rw [← hF] at ho1
    have hi1 : i + 1 ≤ n := by omega
    have w1 : IntKind.wrap .i64 ((i : Int) + 1) = ((i + 1 : Nat) : Int) := by rw [i64wrap (by omega)]; omega
    have hdl : l.drop i = f :: l.drop (i + 1) := by rw [List.drop_eq_getElem_cons (by omega), ← hf]
    simp -implicitDefEqProofs [g2, g6, g7, g8, x2, hin, ho1, hFl, hFd, hi1, hrow']
    cases hs : hasS f with
    | true =>
      have hsv : spotL l = (f.line, f.col) := by rw [hsp, hdl]; simp [spotL, hs]
      have hs' : (!decide (f.line = 0) || !decide (f.col = 0)) = true := hs
      rw [hs']
      simp -implicitDefEqProofs [g2, g6, g7, g8, x2, hrow', hsv]
      exact X
    | false =>
      have hs' : (!decide (f.line = 0) || !decide (f.col = 0)) = false := hs
      rw [hs']
      simp -implicitDefEqProofs [g2, g6, g7, g8, x2, w1]
      exact ⟨l.length - (i + 1), by omega, i + 1, rfl, by omega, rfl, by rw [hsp, hdl]; simp [spotL, hs], by simp, by simp, by simp [hn], by simp, by simp⟩
  · have hie : i = n := by omega
    have hs0 : spotL l = (0, 0) := by rw [hsp, hie, hn, List.drop_length]; rfl
    simp -implicitDefEqProofs [g2, g6, g7, g8, x2, hs0]
    exact X
def digT : List UInt8 := [48, 49, 50, 51, 52, 53, 54, 55, 56, 57]
theorem digT_at (r : Nat) (hr : r < 10) : (digT.take (r + 1)).drop r = [UInt8.ofNat (48 + r)] := by
  have : r = 0 ∨ r = 1 ∨ r = 2 ∨ r = 3 ∨ r = 4 ∨ r = 5 ∨ r = 6 ∨ r = 7 ∨ r = 8 ∨ r = 9 := by omega
  rcases this with rfl | rfl | rfl | rfl | rfl | rfl | rfl | rfl | rfl | rfl <;> rfl
theorem dec_small {u : Nat} (h : u < 10) : Lib.decDigits u = [UInt8.ofNat (48 + u)] := by rw [Lib.decDigits, dif_pos h]
theorem dec_big {u : Nat} (h : ¬ u < 10) : Lib.decDigits u = Lib.decDigits (u / 10) ++ [UInt8.ofNat (48 + u % 10)] := by rw [Lib.decDigits, dif_neg h]
theorem dec_len : ∀ (k u : Nat), 1 ≤ k → u < 10 ^ k → (Lib.decDigits u).length ≤ k := by
  intro k
  induction k with
  | zero => intro u h; omega
  | succ k ih =>
    intro u _ hu
    by_cases h : u < 10
    · rw [dec_small h]; simp
    · rw [dec_big h, List.length_append]
      have hk : 1 ≤ k := by
        rcases Nat.eq_zero_or_pos k with z | z
        · subst z; simp at hu; omega
        · exact z
      have := ih (u / 10) hk (by rw [Nat.pow_succ] at hu; omega)
      simp; omega
theorem dec_len20 {u : Nat} (h : u ≤ 18446744073709551615) : (Lib.decDigits u).length ≤ 20 := dec_len 20 u (by omega) (by omega)
def J20 (n0 : Nat) (h : Heap) (n : Nat) (σ : St) : Prop := ∃ s : List UInt8, n ≤ 18446744073709551615 ∧ σ.m.h = h ∧ Lib.decDigits n0 = Lib.decDigits n ++ s ∧ σ.t.get 0 = some (.int .u64 (n : Nat)) ∧ σ.t.get 3 = some (.string (B s))
theorem digits_ok (n : Nat) (hn : n ≤ 18446744073709551615) (h : Heap) : ACalls PP 70 [.int .u64 (n : Nat)] h (fun v h' => h' = h ∧ v = .string (B (Lib.decDigits n))) := by
  refine acalls_of_vc mix fn70 bodyEq70 rfl (by show 1 ≤ 22; decide) ok70 ?_
  simp only [body70, Tryz.f70]
  simp -implicitDefEqProofs
  refine vc_loop (J20 n h) n ⟨[], hn, rfl, by simp, by simp, by simp⟩ ?_
  rintro m ⟨T, ⟨x, H⟩⟩ ⟨s, hm, rfl, hd, g0, g3⟩
  simp at g0 g3
  simp -implicitDefEqProofs [g0, g3]
  refine condQ_of (fun hc => ?_) (fun hc => ?_) <;> simp only [decide_eq_true_eq, decide_eq_false_iff_not] at hc
  · have hm9 : ¬ m < 10 := by omega
    obtain ⟨r, hr⟩ : ∃ r, r = m % 10 := ⟨_, rfl⟩
    obtain ⟨r1, hr1⟩ : ∃ r1, r1 = r + 1 := ⟨_, rfl⟩
    obtain ⟨q, hq⟩ : ∃ q, q = m / 10 := ⟨_, rfl⟩
    have hr10 : r < 10 := by omega
    have e1 : (m : Int).tmod 10 = (r : Int) := by rw [Int.tmod_eq_emod_of_nonneg (by omega)]; omega
    have e2 : (m : Int).tdiv 10 = (q : Int) := by rw [Int.tdiv_eq_ediv_of_nonneg (by omega)]; omega
    have w0 : IntKind.wrap .u64 (r : Int) = (r : Int) := u64wrap (by omega)
    have w1 : IntKind.wrap .u64 ((r : Int) + 1) = (r1 : Int) := by rw [u64wrap (by omega)]; omega
    have w2 : IntKind.wrap .u64 (q : Int) = (q : Int) := u64wrap (by omega)
    obtain ⟨ch, hch⟩ : ∃ ch, ch = UInt8.ofNat (48 + r) := ⟨_, rfl⟩
    have d1 : (([48, 49, 50, 51, 52, 53, 54, 55, 56, 57] : List UInt8).take r1).drop r = [ch] := by rw [hr1, hch]; exact digT_at r hr10
    have hsl : 1 + s.length ≤ 9223372036854775807 := by have := congrArg List.length hd; have h2 := dec_len20 hn; rw [List.length_append] at this; omega
    have b1 : r1 ≤ 10 := by omega
    have b2 : r ≤ r1 := by omega
    simp -implicitDefEqProofs [g0, g3, e1, e2, w0, w1, w2, d1, b1, b2, hsl]
    refine ⟨q, by omega, ch :: s, by omega, rfl, ?_, by simp, by simp⟩
    rw [hd, dec_big hm9, ← hq, ← hr, ← hch, List.append_assoc]; rfl
  · have hm10 : m < 10 := by omega
    obtain ⟨r1, hr1⟩ : ∃ r1, r1 = m + 1 := ⟨_, rfl⟩
    have w1 : IntKind.wrap .u64 ((m : Int) + 1) = (r1 : Int) := by rw [u64wrap (by omega)]; omega
    obtain ⟨ch, hch⟩ : ∃ ch, ch = UInt8.ofNat (48 + m) := ⟨_, rfl⟩
    have d1 : (([48, 49, 50, 51, 52, 53, 54, 55, 56, 57] : List UInt8).take r1).drop m = [ch] := by rw [hr1, hch]; exact digT_at m hm10
    have hsl : 1 + s.length ≤ 9223372036854775807 := by have := congrArg List.length hd; have h2 := dec_len20 hn; rw [List.length_append] at this; omega
    have b1 : r1 ≤ 10 := by omega
    have b2 : m ≤ r1 := by omega
    have hres : Lib.decDigits n = ch :: s := by rw [hd, dec_small hm10, hch]; rfl
    simp -implicitDefEqProofs [g0, g3, w1, d1, b1, b2, hres, hsl]
theorem decimal_ok (n : Int) (hn : -9223372036854775808 ≤ n ∧ n ≤ 9223372036854775807) (h : Heap) : ACalls PP 37 [.int .i64 n] h (fun v h' => h' = h ∧ v = .string (B (Lib.itoa n))) := by
  refine acalls_of_vc mix fn37 bodyEq37 rfl (by show 1 ≤ 15; decide) ok37 ?_
  simp only [body37, Tryz.f37]
  by_cases h1 : n < 0
  · obtain ⟨u, hu⟩ : ∃ u : Nat, u = n.natAbs := ⟨_, rfl⟩
    have w1 : IntKind.wrap .i64 (n + 1) = n + 1 := i64wrap (by omega)
    have w2 : IntKind.wrap .i64 (-(n + 1)) = -(n + 1) := i64wrap (by omega)
    have w2' : IntKind.wrap .i64 (-1 + -n) = -1 + -n := i64wrap (by omega)
    have w3 : IntKind.wrap .u64 (-(n + 1)) = -(n + 1) := u64wrap (by omega)
    have w3' : IntKind.wrap .u64 (-1 + -n) = -1 + -n := u64wrap (by omega)
    have w4 : IntKind.wrap .u64 (-(n + 1) + 1) = (u : Int) := by rw [u64wrap (by omega)]; omega
    have w4' : IntKind.wrap .u64 (-1 + -n + 1) = (u : Int) := by rw [u64wrap (by omega)]; omega
    have hres : Lib.itoa n = 45 :: Lib.decDigits u := by unfold Lib.itoa; rw [if_pos h1, hu]
    simp -implicitDefEqProofs [h1, w1, w2, w2', w3, w3', w4, w4']
    have hlen : 1 + (Lib.decDigits u).length ≤ 9223372036854775807 := by have := dec_len20 (u := u) (by omega); omega
    refine (digits_ok u (by omega) h).mono ?_
    rintro v h' ⟨rfl, rfl⟩
    simp -implicitDefEqProofs [callQ, hres, hlen]
  · obtain ⟨u, hu⟩ : ∃ u : Nat, n = u := ⟨n.toNat, by omega⟩
    have w3 : IntKind.wrap .u64 n = (u : Int) := by rw [hu, u64wrap (by omega)]
    have hres : Lib.itoa n = Lib.decDigits u := by unfold Lib.itoa; rw [if_neg h1]; congr 1; omega
    simp -implicitDefEqProofs [h1, w3]
    refine (digits_ok u (by omega) h).mono ?_
    rintro v h' ⟨rfl, rfl⟩
    simp -implicitDefEqProofs [callQ, hres]
end Go.Proofs.Yph.F
namespace Go.Proofs.Yph.V
open Go Go.Am
set_option maxRecDepth 20000
set_option maxHeartbeats 2000000
structure SeatR where
  row : Int
  x : Int
  y : Int
  kind : Int
deriving DecidableEq
structure PoleR where
  x : Int
  y : Int
  r : Int
deriving DecidableEq
def seatC (s : SeatR) : List Value := [.int .i64 s.row, .int .i64 s.x, .int .i64 s.y, .int .i64 s.kind]
def poleC (p : PoleR) : List Value := [.int .i64 p.x, .int .i64 p.y, .int .i64 p.r]
def intC (n : Int) : List Value := [.int .i64 n]
def seatV (s : SeatR) : Value := .agg ⟨seatC s⟩
theorem seatC_len (s : SeatR) : (seatC s).length = 4 := rfl
theorem poleC_len (s : PoleR) : (poleC s).length = 3 := rfl
theorem intC_len (s : Int) : (intC s).length = 1 := rfl
abbrev SeatS := SlA 57 seatC
abbrev PoleS := SlA 93 poleC
abbrev IntS := SlA 3 intC
def lessS (a b : SeatR) : Bool := decide (a.row < b.row) || (decide (a.row = b.row) && decide (a.x < b.x))
theorem less_ok (a b : SeatR) (h : Heap) : ACalls PP 54 [seatV a, seatV b] h (fun v h' => h' = h ∧ v = .bool (lessS a b)) := by
  refine acalls_of_vc mix fn54 bodyEq54 rfl (by show 2 ≤ 24; decide) ok54 ?_
  simp only [body54, Tryz.f54]
  unfold lessS
  by_cases h1 : a.row < b.row
  · simp [seatV, seatC, h1]
  · by_cases h2 : a.row = b.row
    · simp [seatV, seatC, h1, h2]
    · simp [seatV, seatC, h1, h2]
def inB (n lo hi : Int) : Bool := decide (lo ≤ n) && decide (n ≤ hi)
theorem in_ok (n lo hi : Int) (h : Heap) : ACalls PP 117 [.int .i64 n, .int .i64 lo, .int .i64 hi] h (fun v h' => h' = h ∧ v = .bool (inB n lo hi)) := by
  refine acalls_of_vc mix fn117 bodyEq117 rfl (by show 3 ≤ 15; decide) ok117 ?_
  simp only [body117, Tryz.f117]
  unfold inB
  by_cases h1 : lo ≤ n
  · simp [h1]
  · simp [h1]
theorem row_ok (n : Int) (h : Heap) : ACalls PP 95 [.int .i64 n] h (fun v h' => h' = h ∧ v = .bool (inB n 0 999)) := by
  refine acalls_of_vc mix fn95 bodyEq95 rfl (by show 1 ≤ 5; decide) ok95 ?_
  simp only [body95, Tryz.f95]
  simp
  refine (in_ok n 0 999 h).mono ?_
  rintro v h' ⟨rfl, rfl⟩
  simp [callQ]
theorem coord_ok (n : Int) (h : Heap) : ACalls PP 96 [.int .i64 n] h (fun v h' => h' = h ∧ v = .bool (inB n (-1048576) 1048576)) := by
  refine acalls_of_vc mix fn96 bodyEq96 rfl (by show 1 ≤ 5; decide) ok96 ?_
  simp only [body96, Tryz.f96]
  simp
  refine (in_ok n (-1048576) 1048576 h).mono ?_
  rintro v h' ⟨rfl, rfl⟩
  simp [callQ]
theorem reach_ok (n : Int) (h : Heap) : ACalls PP 94 [.int .i64 n] h (fun v h' => h' = h ∧ v = .bool (inB n 1 1048576)) := by
  refine acalls_of_vc mix fn94 bodyEq94 rfl (by show 1 ≤ 5; decide) ok94 ?_
  simp only [body94, Tryz.f94]
  simp
  refine (in_ok n 1 1048576 h).mono ?_
  rintro v h' ⟨rfl, rfl⟩
  simp [callQ]
def seatOK (s : SeatR) : Bool := inB s.kind 0 2 && (inB s.row 0 999 && (inB s.x (-1048576) 1048576 && inB s.y (-1048576) 1048576))
theorem seat_ok (s : SeatR) (h : Heap) : ACalls PP 130 [seatV s] h (fun v h' => h' = h ∧ v = .bool (seatOK s)) := by
  refine acalls_of_vc mix fn130 bodyEq130 rfl (by show 1 ≤ 24; decide) ok130 ?_
  simp only [body130, Tryz.f130]
  by_cases hk : s.kind = 0 ∨ s.kind = 1 ∨ s.kind = 2
  · have hkk : inB s.kind 0 2 = true := by simp [inB]; omega
    unfold seatOK
    rw [hkk]
    rcases hk with hk | hk | hk
    all_goals
      simp [seatV, seatC, hk]
      refine (row_ok s.row h).mono ?_
      rintro v h' ⟨rfl, rfl⟩
      simp [callQ]
      intro _
      by_cases h1 : inB s.row 0 999 = true
      · simp [h1]
        refine (coord_ok s.x h').mono ?_
        rintro v h2 ⟨rfl, rfl⟩
        simp [callQ]
        intro _
        by_cases h3 : inB s.x (-1048576) 1048576 = true
        · simp [h3]
          refine (coord_ok s.y h2).mono ?_
          rintro v h4 ⟨rfl, rfl⟩
          simp [callQ]
        · simp [h3]
      · simp [h1]
  · have hkk : inB s.kind 0 2 = false := by simp [inB]; omega
    have h0 : ¬ s.kind = 0 := by omega
    have h1 : ¬ s.kind = 1 := by omega
    have h2 : ¬ s.kind = 2 := by omega
    simp [seatV, seatC, h0, h1, h2, seatOK, hkk]
end Go.Proofs.Yph.V
namespace Go.Proofs.Yph.V
open Go Go.Am
set_option maxRecDepth 20000
set_option maxHeartbeats 2000000
theorem all_false {f : Nat → Bool} {n i : Nat} (hi : i < n) (h : f i = false) : (List.range n).all f = false := by
  rw [Bool.eq_false_iff]
  intro q
  rw [List.all_eq_true] at q
  have := q i (List.mem_range.2 hi)
  rw [h] at this; cases this
theorem all_succ {f : Nat → Bool} {i : Nat} (h : (List.range i).all f = true) (hf : f i = true) : (List.range (i + 1)).all f = true := by
  rw [List.range_succ, List.all_append, h]; simp [hf]
def pairOK (l : List SeatR) (i : Nat) : Bool := match l[i]? with
  | some s => seatOK s && (decide (i = 0) || (match l[i - 1]? with | some p => lessS p s | none => true))
  | none => true
def seatsOK (l : List SeatR) : Bool := (List.range l.length).all (pairOK l) && (decide (0 < l.length) && decide (l.length ≤ 4096))
def J32 (s : Value) (l : List SeatR) (m : Nat) (h : Heap) (n : Nat) (σ : St) : Prop := ∃ i : Nat, n = m - i ∧ i ≤ m ∧ σ.m.h = h ∧ σ.t.get 0 = some s ∧ σ.t.get 5 = some s ∧ σ.t.get 6 = some (.int .i64 (m : Nat)) ∧ σ.t.get 7 = some (.int .i64 (i : Nat)) ∧ (List.range i).all (pairOK l) = true
theorem seats_ok (s : Value) (l : List SeatR) (hl : l.length ≤ 1073741824) (h : Heap) (hs : SeatS h s l) : ACalls PP 116 [s] h (fun v h' => h' = h ∧ v = .bool (seatsOK l)) := by
  refine acalls_of_vc mix fn116 bodyEq116 rfl (by show 1 ≤ 38; decide) ok116 ?_
  simp only [body116, Tryz.f116]
  obtain ⟨ad, c, rfl⟩ := hs.shape
  obtain ⟨m, hm⟩ : ∃ m, m = l.length := ⟨_, rfl⟩
  rw [← hm] at hs ⊢
  simp -implicitDefEqProofs
  refine vc_loop (J32 (.slice ad m c) l m h) _ ⟨0, rfl, by omega, rfl, by simp, by simp, by simp, by simp, rfl⟩ ?_
  rintro n ⟨T, ⟨x, H⟩⟩ ⟨i, rfl, hi, hH, g0, g5, g6, g7, hall⟩
  simp at hH g0 g5 g6 g7
  subst hH
  simp -implicitDefEqProofs [g0, g5, g6, g7]
  refine condQ_of (fun hc => ?_) (fun hc => ?_) <;> simp only [decide_eq_true_eq, decide_eq_false_iff_not] at hc
  · have hil : i < m := by omega
    have hti : l[i]? = some l[i] := List.getElem?_eq_getElem (by omega)
    obtain ⟨_, b, o, wb, cs, r, rfl, hb, hd, hlc, _⟩ := hs.at 4 seatC_len hti
    obtain ⟨t, ht⟩ : ∃ t, t = l[i] := ⟨_, rfl⟩
    rw [← ht] at hd hti
    have w1 : IntKind.wrap .i64 ((i : Int) + 1) = ((i + 1 : Nat) : Int) := by rw [i64wrap (by omega)]; omega
    have hlc' : o + i * 4 + 4 ≤ cs.length := hlc
    have fin : pairOK l i = false → seatsOK l = false := fun hp => by unfold seatsOK; rw [all_false (by omega) hp]; rfl
    simp -implicitDefEqProofs [g0, g5, g6, g7, hil, hb, hd, hlc', seatC]
    refine (seat_ok t H).mono ?_
    rintro v h' ⟨rfl, rfl⟩
    simp -implicitDefEqProofs [callP]
    intro _
    by_cases h1 : seatOK t = true
    · by_cases h2 : i = 0
      · subst h2
        have hp : pairOK l 0 = true := by simp [pairOK, hti, h1]
        simp -implicitDefEqProofs [h1]
        exact ⟨m - 1, by omega, 1, rfl, by omega, rfl, by simp [g0], by simp [g5], by simp [g6], by simp [i64wrap], all_succ hall hp⟩
      · have hi1 : i - 1 < m := by omega
        have htp : l[i - 1]? = some l[i - 1] := List.getElem?_eq_getElem (by omega)
        obtain ⟨p, hp⟩ : ∃ p, p = l[i - 1] := ⟨_, rfl⟩
        rw [← hp] at htp
        obtain ⟨_, b', o', wb', cs', r', e1, hb', hd', hlc2, _⟩ := hs.at 4 seatC_len htp
        simp only [Option.some.injEq, Addr.mk.injEq, and_true] at e1
        obtain ⟨rfl, rfl⟩ := e1
        rw [hb] at hb'
        simp only [Blk.row.injEq, true_and] at hb'
        obtain ⟨rfl, rfl⟩ := hb'
        obtain ⟨j, hj⟩ : ∃ j, j = i - 1 := ⟨_, rfl⟩
        rw [← hj] at hd' hlc2 hi1
        have w2 : IntKind.wrap .i64 ((i : Int) - 1) = (j : Int) := by rw [i64wrap (by omega)]; omega
        have h0 : (0 : Int) < (i : Int) := by omega
        have hlc3 : o + j * 4 + 4 ≤ cs.length := hlc2
        simp -implicitDefEqProofs [h1, h0, h2, w2, hi1, hb, hd', hlc3, seatC, show 0 < i by omega]
        refine (less_ok p t h').mono ?_
        rintro v h'' ⟨rfl, rfl⟩
        simp -implicitDefEqProofs [callP]
        intro _
        by_cases h3 : lessS p t = true
        · have hp : pairOK l i = true := by simp [pairOK, hti, h1, htp, h3]
          simp -implicitDefEqProofs [h3, g0, g5, g6, g7, w1]
          exact ⟨m - (i + 1), by omega, i + 1, rfl, by omega, rfl, by simp [g0], by simp [g5], by simp [g6], by simp, all_succ hall hp⟩
        · have hp : pairOK l i = false := by simp [pairOK, hti, h1, htp, h3, h2]
          simp -implicitDefEqProofs [h3, fin hp]
    · have hp : pairOK l i = false := by simp [pairOK, hti, h1]
      simp -implicitDefEqProofs [h1, fin hp]
  · have : i = m := by omega
    subst this
    rw [hm] at hall
    have he : seatsOK l = (decide (0 < l.length) && decide (l.length ≤ 4096)) := by unfold seatsOK; rw [hall]; rfl
    rw [he, ← hm]
    by_cases h1 : 0 < i
    · by_cases h2 : (i : Int) ≤ 4096
      · have h2' : i ≤ 4096 := by omega
        simp -implicitDefEqProofs [g0, h1, h2, h2']
      · have h2' : ¬ i ≤ 4096 := by omega
        simp -implicitDefEqProofs [g0, h1, h2, h2']
    · have : i = 0 := by omega
      subst this
      simp -implicitDefEqProofs [g0]
end Go.Proofs.Yph.V
namespace Go.Proofs.Yph.V
open Go Go.Am
set_option maxRecDepth 20000
set_option maxHeartbeats 2000000
def killOK (l : List Int) (n : Int) (i : Nat) : Bool := match l[i]? with
  | some x => decide (0 ≤ x) && (decide (x < n) && (decide (i = 0) || (match l[i - 1]? with | some p => decide (p < x) | none => true)))
  | none => true
def killsOK (l : List Int) (n : Int) : Bool := (List.range l.length).all (killOK l n) && decide (l.length ≤ 200)
def J35 (s : Value) (l : List Int) (k : Int) (m : Nat) (h : Heap) (n : Nat) (σ : St) : Prop := ∃ i : Nat, n = m - i ∧ i ≤ m ∧ σ.m.h = h ∧ σ.t.get 0 = some s ∧ σ.t.get 1 = some (.int .i64 k) ∧ σ.t.get 7 = some s ∧ σ.t.get 8 = some (.int .i64 (m : Nat)) ∧ σ.t.get 9 = some (.int .i64 (i : Nat)) ∧ (List.range i).all (killOK l k) = true
theorem kills_ok (s : Value) (l : List Int) (k : Int) (hl : l.length ≤ 1073741824) (h : Heap) (hs : IntS h s l) : ACalls PP 118 [s, .int .i64 k] h (fun v h' => h' = h ∧ v = .bool (killsOK l k)) := by
  refine acalls_of_vc mix fn118 bodyEq118 rfl (by show 2 ≤ 38; decide) ok118 ?_
  simp only [body118, Tryz.f118]
  obtain ⟨ad, c, rfl⟩ := hs.shape
  obtain ⟨m, hm⟩ : ∃ m, m = l.length := ⟨_, rfl⟩
  rw [← hm] at hs ⊢
  simp -implicitDefEqProofs
  refine vc_loop (J35 (.slice ad m c) l k m h) _ ⟨0, rfl, by omega, rfl, by simp, by simp, by simp, by simp, by simp, rfl⟩ ?_
  rintro n ⟨T, ⟨x, H⟩⟩ ⟨i, rfl, hi, hH, g0, g1, g7, g8, g9, hall⟩
  simp at hH g0 g1 g7 g8 g9
  subst hH
  simp -implicitDefEqProofs [g0, g1, g7, g8, g9]
  refine condQ_of (fun hc => ?_) (fun hc => ?_) <;> simp only [decide_eq_true_eq, decide_eq_false_iff_not] at hc
  · have hil : i < m := by omega
    have hti : l[i]? = some l[i] := List.getElem?_eq_getElem (by omega)
    obtain ⟨_, b, o, wb, cs, r, rfl, hb, hd, hlc, _⟩ := hs.at 1 intC_len hti
    obtain ⟨t, ht⟩ : ∃ t, t = l[i] := ⟨_, rfl⟩
    rw [← ht] at hd hti
    have w1 : IntKind.wrap .i64 ((i : Int) + 1) = ((i + 1 : Nat) : Int) := by rw [i64wrap (by omega)]; omega
    have hlc' : o + i + 1 ≤ cs.length := by omega
    rw [Nat.mul_one] at hd
    have fin : killOK l k i = false → killsOK l k = false := fun hp => by unfold killsOK; rw [all_false (by omega) hp]; rfl
    by_cases h1 : t < 0
    · have hp : killOK l k i = false := by simp [killOK, hti]; omega
      simp -implicitDefEqProofs [g0, g1, g7, g8, g9, hil, hb, hd, hlc', intC, h1, fin hp]
    · by_cases h2 : k ≤ t
      · have hp : killOK l k i = false := by simp [killOK, hti]; omega
        simp -implicitDefEqProofs [g0, g1, g7, g8, g9, hil, hb, hd, hlc', intC, h1, h2, fin hp]
      · by_cases h3 : i = 0
        · subst h3
          have hp : killOK l k 0 = true := by simp [killOK, hti]; omega
          simp only [Nat.add_zero] at hd hlc'
          simp -implicitDefEqProofs [g0, g1, g7, g8, g9, hil, hb, hd, hlc', intC, h1, h2]
          exact ⟨m - 1, by omega, 1, rfl, by omega, rfl, by simp [g0], by simp [g1], by simp [g7], by simp [g8], by simp [i64wrap], all_succ hall hp⟩
        · have hi1 : i - 1 < m := by omega
          have htp : l[i - 1]? = some l[i - 1] := List.getElem?_eq_getElem (by omega)
          obtain ⟨p, hp⟩ : ∃ p, p = l[i - 1] := ⟨_, rfl⟩
          rw [← hp] at htp
          obtain ⟨_, b', o', wb', cs', r', e1, hb', hd', hlc2, _⟩ := hs.at 1 intC_len htp
          simp only [Option.some.injEq, Addr.mk.injEq, and_true] at e1
          obtain ⟨rfl, rfl⟩ := e1
          rw [hb] at hb'
          simp only [Blk.row.injEq, true_and] at hb'
          obtain ⟨rfl, rfl⟩ := hb'
          obtain ⟨j, hj⟩ : ∃ j, j = i - 1 := ⟨_, rfl⟩
          rw [← hj, Nat.mul_one] at hd' hlc2
          have hjm : j < m := by omega
          have w2 : IntKind.wrap .i64 ((i : Int) - 1) = (j : Int) := by rw [i64wrap (by omega)]; omega
          have h0 : (0 : Int) < (i : Int) := by omega
          have h0' : 0 < i := by omega
          by_cases h4 : t ≤ p
          · have hp : killOK l k i = false := by simp [killOK, hti, htp, h3]; omega
            simp -implicitDefEqProofs [g0, g1, g7, g8, g9, hil, hb, hd, hlc', intC, h1, h2, h0, h0', h3, w2, hjm, hd', hlc2, h4, fin hp]
          · have hp : killOK l k i = true := by simp [killOK, hti, htp, h3]; omega
            simp -implicitDefEqProofs [g0, g1, g7, g8, g9, hil, hb, hd, hlc', intC, h1, h2, h0, h0', h3, w2, hjm, hd', hlc2, h4, w1]
            exact ⟨m - (i + 1), by omega, i + 1, rfl, by omega, rfl, by simp [g0], by simp [g1], by simp [g7], by simp [g8], by simp, all_succ hall hp⟩
  · have : i = m := by omega
    subst this
    rw [hm] at hall
    have he : killsOK l k = decide (l.length ≤ 200) := by unfold killsOK; rw [hall]; rfl
    rw [he, ← hm]
    by_cases h2 : (i : Int) ≤ 200
    · have h2' : i ≤ 200 := by omega
      simp -implicitDefEqProofs [g0, g1, h2, h2']
    · have h2' : ¬ i ≤ 200 := by omega
      simp -implicitDefEqProofs [g0, g1, h2, h2']
def poleOK (p : PoleR) : Bool := inB p.x (-1048576) 1048576 && (inB p.y (-1048576) 1048576 && inB p.r 1 1048576)
def poleI (l : List PoleR) (i : Nat) : Bool := match l[i]? with
  | some p => poleOK p
  | none => true
def polesOK (l : List PoleR) : Bool := (List.range l.length).all (poleI l) && decide (l.length ≤ 200)
def J36 (s : Value) (l : List PoleR) (m : Nat) (h : Heap) (n : Nat) (σ : St) : Prop := ∃ i : Nat, n = m - i ∧ i ≤ m ∧ σ.m.h = h ∧ σ.t.get 0 = some s ∧ σ.t.get 5 = some s ∧ σ.t.get 6 = some (.int .i64 (m : Nat)) ∧ σ.t.get 7 = some (.int .i64 (i : Nat)) ∧ (List.range i).all (poleI l) = true
theorem poles_ok (s : Value) (l : List PoleR) (hl : l.length ≤ 1073741824) (h : Heap) (hs : PoleS h s l) : ACalls PP 119 [s] h (fun v h' => h' = h ∧ v = .bool (polesOK l)) := by
  refine acalls_of_vc mix fn119 bodyEq119 rfl (by show 1 ≤ 31; decide) ok119 ?_
  simp only [body119, Tryz.f119]
  obtain ⟨ad, c, rfl⟩ := hs.shape
  obtain ⟨m, hm⟩ : ∃ m, m = l.length := ⟨_, rfl⟩
  rw [← hm] at hs ⊢
  simp -implicitDefEqProofs
  refine vc_loop (J36 (.slice ad m c) l m h) _ ⟨0, rfl, by omega, rfl, by simp, by simp, by simp, by simp, rfl⟩ ?_
  rintro n ⟨T, ⟨x, H⟩⟩ ⟨i, rfl, hi, hH, g0, g5, g6, g7, hall⟩
  simp at hH g0 g5 g6 g7
  subst hH
  simp -implicitDefEqProofs [g0, g5, g6, g7]
  refine condQ_of (fun hc => ?_) (fun hc => ?_) <;> simp only [decide_eq_true_eq, decide_eq_false_iff_not] at hc
  · have hil : i < m := by omega
    have hti : l[i]? = some l[i] := List.getElem?_eq_getElem (by omega)
    obtain ⟨_, b, o, wb, cs, r, rfl, hb, hd, hlc, _⟩ := hs.at 3 poleC_len hti
    obtain ⟨t, ht⟩ : ∃ t, t = l[i] := ⟨_, rfl⟩
    rw [← ht] at hd hti
    have w1 : IntKind.wrap .i64 ((i : Int) + 1) = ((i + 1 : Nat) : Int) := by rw [i64wrap (by omega)]; omega
    have hlc' : o + i * 3 + 3 ≤ cs.length := hlc
    have fin : poleI l i = false → polesOK l = false := fun hp => by unfold polesOK; rw [all_false (by omega) hp]; rfl
    simp -implicitDefEqProofs [g0, g5, g6, g7, hil, hb, hd, hlc', poleC]
    refine (coord_ok t.x H).mono ?_
    rintro v h' ⟨rfl, rfl⟩
    simp -implicitDefEqProofs [callQ]
    intro _
    by_cases h1 : inB t.x (-1048576) 1048576 = true
    · simp -implicitDefEqProofs [h1]
      refine (coord_ok t.y h').mono ?_
      rintro v h2 ⟨rfl, rfl⟩
      simp -implicitDefEqProofs [callQ]
      intro _
      by_cases h3 : inB t.y (-1048576) 1048576 = true
      · simp -implicitDefEqProofs [h3]
        refine (reach_ok t.r h2).mono ?_
        rintro v h4 ⟨rfl, rfl⟩
        simp -implicitDefEqProofs [callQ]
        intro _
        by_cases h5 : inB t.r 1 1048576 = true
        · have hp : poleI l i = true := by simp [poleI, hti, poleOK, h1, h3, h5]
          simp -implicitDefEqProofs [h5, g0, g5, g6, g7, w1]
          exact ⟨m - (i + 1), by omega, i + 1, rfl, by omega, rfl, by simp [g0], by simp [g5], by simp [g6], by simp, all_succ hall hp⟩
        · have hp : poleI l i = false := by simp [poleI, hti, poleOK, h1, h3, h5]
          simp -implicitDefEqProofs [h5, fin hp]
      · have hp : poleI l i = false := by simp [poleI, hti, poleOK, h1, h3]
        simp -implicitDefEqProofs [h3, fin hp]
    · have hp : poleI l i = false := by simp [poleI, hti, poleOK, h1]
      simp -implicitDefEqProofs [h1, fin hp]
  · have : i = m := by omega
    subst this
    rw [hm] at hall
    have he : polesOK l = decide (l.length ≤ 200) := by unfold polesOK; rw [hall]; rfl
    rw [he, ← hm]
    by_cases h2 : (i : Int) ≤ 200
    · have h2' : i ≤ 200 := by omega
      simp -implicitDefEqProofs [g0, h2, h2']
    · have h2' : ¬ i ≤ 200 := by omega
      simp -implicitDefEqProofs [g0, h2, h2']
/-! a venue -/
structure VenR where
  seats : List SeatR
  gap : Int
  radius : Int
  kills : List Int
  poles : List PoleR
/-- a venue's cells -/
def VenC (h : Heap) (v : VenR) (cs : List Value) : Prop := ∃ s k p, cs = [s, .int .i64 v.gap, .int .i64 v.radius, k, p] ∧ SeatS h s v.seats ∧ IntS h k v.kills ∧ PoleS h p v.poles
theorem VenC.ext {h h' : Heap} {v : VenR} {cs : List Value} (H : VenC h v cs) (E : Ext h h') : VenC h' v cs := by
  obtain ⟨s, k, p, rfl, h1, h2, h3⟩ := H
  exact ⟨s, k, p, rfl, h1.ext E, h2.ext E, h3.ext E⟩
def venSmall (v : VenR) : Prop := v.seats.length ≤ 1073741824 ∧ v.kills.length ≤ 1073741824 ∧ v.poles.length ≤ 1073741824
def wrongV (v : VenR) : List UInt8 :=
  if seatsOK v.seats = false then [115, 101, 97, 116, 115]
  else if inB v.gap 1 1048576 = false then [103, 97, 112]
  else if inB v.radius 0 1048576 = false then [114, 97, 100, 105, 117, 115]
  else if killsOK v.kills v.seats.length = false then [107, 105, 108, 108, 115]
  else if polesOK v.poles = false then [112, 111, 108, 101, 115]
  else []
theorem wrong_ok (v : VenR) (cs : List Value) (hv : venSmall v) (h : Heap) (H : VenC h v cs) : ACalls PP 86 [.agg ⟨cs⟩] h (fun r h' => h' = h ∧ r = .string (B (wrongV v))) := by
  refine acalls_of_vc mix fn86 bodyEq86 rfl (by show 1 ≤ 31; decide) ok86 ?_
  simp only [body86, Tryz.f86]
  obtain ⟨s, k, p, rfl, h1, h2, h3⟩ := H
  obtain ⟨ad1, c1, e1⟩ := h1.shape
  obtain ⟨ad2, c2, e2⟩ := h2.shape
  obtain ⟨ad3, c3, e3⟩ := h3.shape
  subst e1; subst e2; subst e3
  unfold wrongV
  simp -implicitDefEqProofs
  refine (seats_ok _ v.seats hv.1 h h1).mono ?_
  rintro r h' ⟨rfl, rfl⟩
  simp -implicitDefEqProofs [callQ]
  intro _
  by_cases q1 : seatsOK v.seats = true
  · simp -implicitDefEqProofs [q1]
    refine (reach_ok v.gap h').mono ?_
    rintro r h' ⟨rfl, rfl⟩
    simp -implicitDefEqProofs [callQ]
    intro _
    by_cases q2 : inB v.gap 1 1048576 = true
    · simp -implicitDefEqProofs [q2]
      refine (in_ok v.radius 0 1048576 h').mono ?_
      rintro r h' ⟨rfl, rfl⟩
      simp -implicitDefEqProofs [callQ]
      intro _
      by_cases q3 : inB v.radius 0 1048576 = true
      · simp -implicitDefEqProofs [q3]
        refine (kills_ok _ v.kills v.seats.length hv.2.1 h' h2).mono ?_
        rintro r h' ⟨rfl, rfl⟩
        simp -implicitDefEqProofs [callQ]
        intro _
        by_cases q4 : killsOK v.kills v.seats.length = true
        · simp -implicitDefEqProofs [q4]
          refine (poles_ok _ v.poles hv.2.2 h' h3).mono ?_
          rintro r h' ⟨rfl, rfl⟩
          simp -implicitDefEqProofs [callQ]
          intro _
          by_cases q5 : polesOK v.poles = true
          · simp -implicitDefEqProofs [q5]
          · simp -implicitDefEqProofs [q5]
        · simp -implicitDefEqProofs [q4]
      · simp -implicitDefEqProofs [q3]
    · simp -implicitDefEqProofs [q2]
  · simp -implicitDefEqProofs [q1]
def mayV (v : VenR) : Bool := decide (wrongV v = [])
theorem may_ok (v : VenR) (cs : List Value) (hv : venSmall v) (h : Heap) (H : VenC h v cs) : ACalls PP 59 [.agg ⟨cs⟩] h (fun r h' => h' = h ∧ r = .bool (mayV v)) := by
  refine acalls_of_vc mix fn59 bodyEq59 rfl (by show 1 ≤ 6; decide) ok59 ?_
  simp only [body59, Tryz.f59]
  have hw := wrong_ok v cs hv h H
  obtain ⟨s, k, p, rfl, h1, h2, h3⟩ := H
  simp -implicitDefEqProofs
  refine hw.mono ?_
  rintro r h' ⟨rfl, rfl⟩
  simp -implicitDefEqProofs [callQ, mayV]
end Go.Proofs.Yph.V
namespace Go.Proofs.Yph.V
open Go Go.Am
set_option maxRecDepth 20000
set_option maxHeartbeats 2000000
theorem seat_one (xs : List SeatR) : (xs.flatMap seatC).all one = true := by
  rw [List.all_eq_true]; intro v hv
  obtain ⟨s, _, hs⟩ := List.mem_flatMap.1 hv
  simp [seatC] at hs
  rcases hs with rfl | rfl | rfl | rfl <;> rfl
theorem pole_one (xs : List PoleR) : (xs.flatMap poleC).all one = true := by
  rw [List.all_eq_true]; intro v hv
  obtain ⟨s, _, hs⟩ := List.mem_flatMap.1 hv
  simp [poleC] at hs
  rcases hs with rfl | rfl | rfl <;> rfl
theorem clone_ok (s : Value) (xs : List SeatR) (hl : xs.length ≤ 1073741824) (h : Heap) (hs : SeatS h s xs) : ACalls PP 50 [s] h (fun v h' => Ext h h' ∧ OwA 57 seatC h h' v xs) := by
  refine acalls_of_vc mix fn50 bodyEq50 rfl (by show 1 ≤ 8; decide) ok50 ?_
  simp only [body50, Tryz.f50]
  obtain ⟨ad, c, rfl, hn, hz⟩ := hs
  cases ad with
  | none =>
    have : xs = [] := by
      rcases hz with z | ⟨b, off, w, cells, rest, z, _⟩
      · exact z
      · simp at z
    subst this
    have := hn rfl
    subst this
    simp -implicitDefEqProofs
    exact ⟨Ext.rfl' h, OwA.nil⟩
  | some ad =>
    by_cases h0 : xs = []
    · subst h0
      simp -implicitDefEqProofs [opBuildSlice, opAppend, srcCells, maxA]
      exact ⟨(Ext.new h _).setOf (Nat.le_refl _) _ |>.newOf _, _, rfl, .inr ⟨_, rfl, by simp, by simp, by simp⟩⟩
    · obtain ⟨b, off, w, cells, rest, e, z2, z3, z4, z5⟩ : ∃ b off w cells rest, some ad = some (⟨b, off, none⟩ : Addr) ∧ h.f b = .row w 57 cells ∧ cells.drop off = xs.flatMap seatC ++ rest ∧ off ≤ cells.length ∧ b < h.n := by
        rcases hz with z | z
        · exact absurd z h0
        · exact z
      obtain rfl := Option.some.inj e
      obtain ⟨m, hm⟩ : ∃ m, m = xs.length := ⟨_, rfl⟩
      have hm0 : ¬ m = 0 := by rw [hm]; simpa using h0
      obtain ⟨F, hF⟩ : ∃ F, F = xs.flatMap seatC := ⟨_, rfl⟩
      have hFl : F.length = m * 4 := by rw [hF, flatA_len 4 seatC_len, hm]
      have hone := seat_one xs
      rw [← hF] at z3 hone
      have hlen : off + m * 4 ≤ cells.length := by
        have := congrArg List.length z3
        rw [List.length_drop, List.length_append, hFl] at this; omega
      have htk : (cells.drop off).take (m * 4) = F := by rw [z3, List.take_append_of_le_length (by omega), List.take_of_length_le (by omega)]
      have hbn : ¬ b = h.n := by omega
      have hmx : m * 32 ≤ 140737488355328 := by omega
      rw [← hm]
      simp -implicitDefEqProofs [opBuildSlice, opAppend, srcCells, maxA, hm0, hbn, z2, hlen, htk, hone, hmx]
      exact ⟨(Ext.new h _).setOf (Nat.le_refl _) _ |>.newOf _, _, by rw [hm], .inr ⟨_, rfl, by simp [hF], by simp, by simp⟩⟩
theorem cloneP_ok (s : Value) (xs : List PoleR) (hl : xs.length ≤ 1073741824) (h : Heap) (hs : PoleS h s xs) : ACalls PP 51 [s] h (fun v h' => Ext h h' ∧ OwA 93 poleC h h' v xs) := by
  refine acalls_of_vc mix fn51 bodyEq51 rfl (by show 1 ≤ 8; decide) ok51 ?_
  simp only [body51, Tryz.f51]
  obtain ⟨ad, c, rfl, hn, hz⟩ := hs
  cases ad with
  | none =>
    have : xs = [] := by
      rcases hz with z | ⟨b, off, w, cells, rest, z, _⟩
      · exact z
      · simp at z
    subst this
    have := hn rfl
    subst this
    simp -implicitDefEqProofs
    exact ⟨Ext.rfl' h, OwA.nil⟩
  | some ad =>
    by_cases h0 : xs = []
    · subst h0
      simp -implicitDefEqProofs [opBuildSlice, opAppend, srcCells, maxA]
      exact ⟨(Ext.new h _).setOf (Nat.le_refl _) _ |>.newOf _, _, rfl, .inr ⟨_, rfl, by simp, by simp, by simp⟩⟩
    · obtain ⟨b, off, w, cells, rest, e, z2, z3, z4, z5⟩ : ∃ b off w cells rest, some ad = some (⟨b, off, none⟩ : Addr) ∧ h.f b = .row w 93 cells ∧ cells.drop off = xs.flatMap poleC ++ rest ∧ off ≤ cells.length ∧ b < h.n := by
        rcases hz with z | z
        · exact absurd z h0
        · exact z
      obtain rfl := Option.some.inj e
      obtain ⟨m, hm⟩ : ∃ m, m = xs.length := ⟨_, rfl⟩
      have hm0 : ¬ m = 0 := by rw [hm]; simpa using h0
      obtain ⟨F, hF⟩ : ∃ F, F = xs.flatMap poleC := ⟨_, rfl⟩
      have hFl : F.length = m * 3 := by rw [hF, flatA_len 3 poleC_len, hm]
      have hone := pole_one xs
      rw [← hF] at z3 hone
      have hlen : off + m * 3 ≤ cells.length := by
        have := congrArg List.length z3
        rw [List.length_drop, List.length_append, hFl] at this; omega
      have htk : (cells.drop off).take (m * 3) = F := by rw [z3, List.take_append_of_le_length (by omega), List.take_of_length_le (by omega)]
      have hbn : ¬ b = h.n := by omega
      have hmx : m * 24 ≤ 140737488355328 := by omega
      rw [← hm]
      simp -implicitDefEqProofs [opBuildSlice, opAppend, srcCells, maxA, hm0, hbn, z2, hlen, htk, hone, hmx]
      exact ⟨(Ext.new h _).setOf (Nat.le_refl _) _ |>.newOf _, _, by rw [hm], .inr ⟨_, rfl, by simp [hF], by simp, by simp⟩⟩
/-! the closures of Norm -/
def cmpS (a b : SeatR) : Int := if lessS a b = true then -1 else if lessS b a = true then 1 else 0
theorem cmp_ok (a b : SeatR) (h : Heap) : ACalls PP 53 [seatV a, seatV b] h (fun v h' => h' = h ∧ v = .int .i64 (cmpS a b)) := by
  refine acalls_of_vc mix fn53 bodyEq53 rfl (by show 2 ≤ 13; decide) ok53 ?_
  simp only [body53, Tryz.f53]
  unfold cmpS
  have e1 : [Value.int .i64 a.row, .int .i64 a.x, .int .i64 a.y, .int .i64 a.kind] = seatC a := rfl
  simp -implicitDefEqProofs [seatV, seatC]
  refine (less_ok a b h).mono ?_
  rintro v h' ⟨rfl, rfl⟩
  simp -implicitDefEqProofs [callQ]
  intro _
  by_cases h1 : lessS a b = true
  · simp -implicitDefEqProofs [h1]
  · simp -implicitDefEqProofs [h1]
    refine (less_ok b a h').mono ?_
    rintro v h' ⟨rfl, rfl⟩
    simp -implicitDefEqProofs [callQ]
    intro _
    by_cases h2 : lessS b a = true
    · simp -implicitDefEqProofs [h2]
    · simp -implicitDefEqProofs [h2]
def atS (s x : SeatR) : Bool := decide (x.row = s.row) && decide (x.x = s.x)
theorem at_ok (s x : SeatR) (b : Nat) (w : Bool) (h : Heap) (hb : h.f b = .row w 57 (seatC s)) : ACalls PP 56 [seatV x, .pointer (some ⟨b, 0, none⟩)] h (fun v h' => h' = h ∧ v = .bool (atS s x)) := by
  refine acalls_of_vc mix fn56 bodyEq56 rfl (by show 2 ≤ 16; decide) ok56 ?_
  simp only [body56, Tryz.f56]
  unfold atS
  by_cases h1 : x.row = s.row
  · simp -implicitDefEqProofs [seatV, seatC, hb, h1]
  · simp -implicitDefEqProofs [seatV, seatC, hb, h1]
/-- the place of the first one that answers, or -1 -/
def findA {α : Type} (f : α → Bool) (l : List α) : Int := if l.any f = true then (l.findIdx f : Int) else -1
def J25 (s : Value) (fv : Value) (l : List SeatR) (p : SeatR → Bool) (m : Nat) (h : Heap) (n : Nat) (σ : St) : Prop := ∃ i : Nat, n = m - i ∧ i ≤ m ∧ σ.m.h = h ∧ σ.t.get 0 = some s ∧ σ.t.get 1 = some fv ∧ σ.t.get 7 = some (.int .i64 (m : Nat)) ∧ σ.t.get 8 = some (.int .i64 (i : Nat)) ∧ ∀ j t, j < i → l[j]? = some t → p t = false
theorem find_hit {α : Type} {p : α → Bool} {l : List α} {i : Nat} {t : α} (h : l[i]? = some t) (hp : p t = true) (hb : ∀ j t, j < i → l[j]? = some t → p t = false) : findA p l = i := by
  have hlt := (List.getElem?_eq_some_iff.mp h).1
  have hm : t ∈ l := List.mem_of_getElem? h
  have ha : l.any p = true := List.any_eq_true.2 ⟨t, hm, hp⟩
  unfold findA
  rw [if_pos ha]
  congr 1
  rw [List.findIdx_eq hlt]
  refine ⟨by rw [(List.getElem?_eq_some_iff.mp h).2]; exact hp, fun j hj => ?_⟩
  exact hb j _ hj (List.getElem?_eq_getElem (by omega))
theorem find_miss {α : Type} {p : α → Bool} {l : List α} (hb : ∀ j t, j < l.length → l[j]? = some t → p t = false) : findA p l = -1 := by
  unfold findA
  rw [if_neg]
  intro q
  obtain ⟨t, ht, hp⟩ := List.any_eq_true.1 q
  obtain ⟨j, hj, rfl⟩ := List.mem_iff_getElem.1 ht
  rw [hb j _ hj (List.getElem?_eq_getElem hj)] at hp
  cases hp
theorem indexF_ok (s : Value) (l : List SeatR) (t : SeatR) (b : Nat) (w : Bool) (hl : l.length ≤ 1073741824) (h : Heap) (hs : SeatS h s l) (hb : h.f b = .row w 57 (seatC t)) :
    ACalls PP 55 [s, .func (.func 56) #[] #[.pointer (some ⟨b, 0, none⟩)]] h (fun v h' => h' = h ∧ v = .int .i64 (findA (atS t) l)) := by
  refine acalls_of_vc mix fn55 bodyEq55 rfl (by show 2 ≤ 19; decide) ok55 ?_
  simp only [body55, Tryz.f55]
  obtain ⟨ad, c, rfl⟩ := hs.shape
  obtain ⟨m, hm⟩ : ∃ m, m = l.length := ⟨_, rfl⟩
  rw [← hm] at hs ⊢
  simp -implicitDefEqProofs
  refine vc_loop (J25 (.slice ad m c) (.func (.func 56) #[] #[.pointer (some ⟨b, 0, none⟩)]) l (atS t) m h) _ ⟨0, rfl, by omega, rfl, by simp, by simp, by simp, by simp, by omega⟩ ?_
  rintro n ⟨T, ⟨x, H⟩⟩ ⟨i, rfl, hi, hH, g0, g1, g7, g8, hall⟩
  simp at hH g0 g1 g7 g8
  subst hH
  simp -implicitDefEqProofs [g0, g1, g7, g8]
  refine condQ_of (fun hc => ?_) (fun hc => ?_) <;> simp only [decide_eq_true_eq, decide_eq_false_iff_not] at hc
  · have hil : i < m := by omega
    have hti : l[i]? = some l[i] := List.getElem?_eq_getElem (by omega)
    obtain ⟨_, b', o, wb, cs, r, rfl, hb', hd, hlc, _⟩ := hs.at 4 seatC_len hti
    obtain ⟨u, hu⟩ : ∃ u, u = l[i] := ⟨_, rfl⟩
    rw [← hu] at hd hti
    have w1 : IntKind.wrap .i64 ((i : Int) + 1) = ((i + 1 : Nat) : Int) := by rw [i64wrap (by omega)]; omega
    simp -implicitDefEqProofs [g0, g1, g7, g8, hil, hb', hd, hlc, seatC]
    refine (at_ok t u b w H hb).mono ?_
    rintro v h' ⟨rfl, rfl⟩
    simp -implicitDefEqProofs [callQ]
    intro _
    by_cases h1 : atS t u = true
    · simp -implicitDefEqProofs [h1, g0, g1, g7, g8]
      exact (find_hit hti h1 hall).symm
    · simp -implicitDefEqProofs [h1, g0, g1, g7, g8, w1]
      refine ⟨m - (i + 1), by omega, i + 1, rfl, by omega, rfl, by simp [g0], by simp [g1], by simp [g7], by simp, fun j z hj hz => ?_⟩
      rcases Nat.lt_or_ge j i with q | q
      · exact hall j z q hz
      · have : j = i := by omega
        subst this
        rw [hti] at hz
        obtain rfl := Option.some.inj hz
        simpa using h1
  · simp -implicitDefEqProofs [g0, g1, g7, g8]
    exact (find_miss (fun j z hj hz => hall j z (by omega) hz)).symm
end Go.Proofs.Yph.V
/- The manifest's reader: what it computes, in plain words; its small functions. -/
namespace Go.Proofs.Yph
open Go Go.Am
set_option maxRecDepth 20000
set_option maxHeartbeats 2000000
open T (Tok tokC tokV spotV)
open V (SeatR PoleR VenR seatC poleC intC inB)
open F (FR ChA GlobOK)
def wSeat : List UInt8 := [115, 101, 97, 116]
def wWheel : List UInt8 := [119, 104, 101, 101, 108]
def wComp : List UInt8 := [99, 111, 109, 112, 97, 110, 105, 111, 110]
def wGap : List UInt8 := [103, 97, 112]
def wRad : List UInt8 := [114, 97, 100, 105, 117, 115]
def wKill : List UInt8 := [107, 105, 108, 108]
def wPole : List UInt8 := [112, 111, 108, 101]
def bnds (w : List UInt8) : Option (List Nat) :=
  if w = wSeat ∨ w = wWheel ∨ w = wComp then some [95, 96, 96] else if w = wGap then some [94] else if w = wRad then some [93] else if w = wKill then some [95, 96] else if w = wPole then some [96, 96, 94] else none
def mayF (f : Nat) (n : Int) : Bool := if f = 95 then inB n 0 999 else if f = 96 then inB n (-1048576) 1048576 else if f = 94 then inB n 1 1048576 else decide (n = 0) || inB n 1 1048576
def funC (f : Nat) : List Value := [.func (.func f) #[] #[]]
def errL (ln col : Int) : List FR := [⟨2, 0, 0⟩, ⟨2, F.mx0 ln, F.mx0 col⟩]
def ErrP (h : Heap) (l : List FR) (v : Value) (h' : Heap) : Prop := Ext h h' ∧ ChA h' h'.n v l
theorem wrong_ok (ln col : Int) (h : Heap) : ACalls PP 24 [spotV ln col] h (ErrP h (errL ln col)) := by
  refine acalls_of_vc mix fn24 bodyEq24 rfl (by show 1 ≤ 9; decide) ok24 ?_
  simp only [body24, Tryz.f24]
  simp -implicitDefEqProofs [spotV]
  refine (F.new_ok 2 ln col h).mono ?_
  rintro v H1 ⟨E1, C1⟩
  rw [if_neg (by decide)] at C1
  rcases C1.shape with ⟨_, q⟩ | ⟨b, f, E', r, rfl, q, k1, k2, k3⟩
  · cases q
  simp -implicitDefEqProofs [callQ]
  intro _
  refine (F.wrap_ok _ _ 2 H1 C1).mono ?_
  rintro v H2 ⟨E2, C2⟩
  rw [if_neg (by decide)] at C2
  rcases C2.shape with ⟨_, q⟩ | ⟨b, f, E', r, rfl, q, k1, k2, k3⟩
  · cases q
  simp -implicitDefEqProofs [callQ]
  intro _
  exact ⟨E1.trans E2, C2⟩
theorem spot_ok (t : Tok) (h : Heap) : ACalls PP 46 [tokV t] h (fun v h' => h' = h ∧ v = spotV t.line t.col) := by
  refine acalls_of_vc mix fn46 bodyEq46 rfl (by show 1 ≤ 8; decide) ok46 ?_
  simp only [body46, Tryz.f46]
  simp -implicitDefEqProofs [tokV, tokC, spotV]
theorem fcode_ok (b : Nat) (f : FR) (E : Value) (h : Heap) (hb : h.f b = .row true 89 [.int .i64 f.code, .int .i64 f.line, .int .i64 f.col, E]) : ACalls PP 22 [.pointer (some ⟨b, 0, none⟩)] h (fun v h' => h' = h ∧ v = .int .i64 f.code) := by
  refine acalls_of_vc mix fn22 bodyEq22 rfl (by show 1 ≤ 7; decide) ok22 ?_
  simp only [body22, Tryz.f22]
  simp -implicitDefEqProofs [hb]
def kindW (w : List UInt8) : Int := if w = wWheel then 1 else if w = wComp then 2 else 0
theorem kind_ok (w : List UInt8) (h : Heap) : ACalls PP 81 [.string (B w)] h (fun v h' => h' = h ∧ v = .int .i64 (kindW w)) := by
  refine acalls_of_vc mix fn81 bodyEq81 rfl (by show 1 ≤ 8; decide) ok81 ?_
  simp only [body81, Tryz.f81]
  unfold kindW wWheel wComp
  by_cases h1 : w = [119, 104, 101, 101, 108]
  · simp -implicitDefEqProofs [h1]
  · by_cases h2 : w = [99, 111, 109, 112, 97, 110, 105, 111, 110]
    · simp -implicitDefEqProofs [h2]
    · simp -implicitDefEqProofs [h1, h2]
theorem radius_ok (n : Int) (h : Heap) : ACalls PP 93 [.int .i64 n] h (fun v h' => h' = h ∧ v = .bool (mayF 93 n)) := by
  refine acalls_of_vc mix fn93 bodyEq93 rfl (by show 1 ≤ 9; decide) ok93 ?_
  simp only [body93, Tryz.f93]
  by_cases h1 : n = 0
  · simp -implicitDefEqProofs [h1, mayF]
  · simp -implicitDefEqProofs [h1, mayF]
    refine (V.reach_ok n h).mono ?_
    rintro r h' ⟨rfl, rfl⟩
    simp -implicitDefEqProofs [callQ]
theorem may_ok (f : Nat) (hf : f = 93 ∨ f = 94 ∨ f = 95 ∨ f = 96) (n : Int) (h : Heap) : ACalls PP f [.int .i64 n] h (fun v h' => h' = h ∧ v = .bool (mayF f n)) := by
  rcases hf with rfl | rfl | rfl | rfl
  · exact radius_ok n h
  · exact V.reach_ok n h
  · exact V.row_ok n h
  · exact V.coord_ok n h
def BndP (h : Heap) (w : List UInt8) (v : Value) (h' : Heap) : Prop := Ext h h' ∧ match bnds w with
  | some bs => ∃ b, v = .tuple #[.slice (some ⟨b, 0, none⟩) bs.length bs.length, .bool true] ∧ h'.f b = .row true 52 (bs.flatMap funC) ∧ b < h'.n
  | none => v = .tuple #[.slice none 0 0, .bool false]
theorem bounds_ok (w : List UInt8) (h : Heap) : ACalls PP 80 [.string (B w)] h (BndP h w) := by
  refine acalls_of_vc mix fn80 bodyEq80 rfl (by show 1 ≤ 24; decide) ok80 ?_
  simp only [body80, Tryz.f80]
  have hr3 : List.range 3 = [0, 1, 2] := rfl
  have hr2 : List.range 2 = [0, 1] := rfl
  have hr1 : List.range 1 = [0] := rfl
  have out : ∀ (bs : List Nat), bnds w = some bs → BndP h w (.tuple #[.slice (some ⟨h.n, 0, none⟩) bs.length bs.length, .bool true]) (h.new (.row true 52 (bs.flatMap funC))) := fun bs e => by
    refine ⟨Ext.new h _, ?_⟩
    rw [e]
    exact ⟨h.n, rfl, by simp, by simp⟩
  by_cases h1 : w = [115, 101, 97, 116]
  · subst h1
    simp -implicitDefEqProofs [opBuildSlice, hr3]
    exact out [95, 96, 96] (by decide)
  by_cases h2 : w = [119, 104, 101, 101, 108]
  · subst h2
    simp -implicitDefEqProofs [opBuildSlice, hr3]
    exact out [95, 96, 96] (by decide)
  by_cases h3 : w = [99, 111, 109, 112, 97, 110, 105, 111, 110]
  · subst h3
    simp -implicitDefEqProofs [opBuildSlice, hr3]
    exact out [95, 96, 96] (by decide)
  by_cases h4 : w = [103, 97, 112]
  · subst h4
    simp -implicitDefEqProofs [opBuildSlice, hr1]
    exact out [94] (by decide)
  by_cases h5 : w = [114, 97, 100, 105, 117, 115]
  · subst h5
    simp -implicitDefEqProofs [opBuildSlice, hr1]
    exact out [93] (by decide)
  by_cases h6 : w = [107, 105, 108, 108]
  · subst h6
    simp -implicitDefEqProofs [opBuildSlice, hr2]
    exact out [95, 96] (by decide)
  by_cases h7 : w = [112, 111, 108, 101]
  · subst h7
    simp -implicitDefEqProofs [opBuildSlice, hr3]
    exact out [96, 96, 94] (by decide)
  · simp -implicitDefEqProofs [h1, h2, h3, h4, h5, h6, h7]
    refine ⟨Ext.rfl' h, ?_⟩
    have e : bnds w = none := by simp only [bnds, wSeat, wWheel, wComp, wGap, wRad, wKill, wPole, h1, h2, h3, h4, h5, h6, h7, or_self, if_false]
    rw [e]
end Go.Proofs.Yph
/- parse's numbers. -/
namespace Go.Proofs.Yph
open Go Go.Am
set_option maxRecDepth 20000
set_option maxHeartbeats 4000000
open T (Tok tokC tokV spotV TokS)
open V (SeatR PoleR VenR seatC poleC intC inB)
open F (FR ChA GlobOK)
def numChk (bl bc : Int) : List Nat → List Tok → Option (Int × Int)
  | [], _ => none
  | _ :: _, [] => some (bl, bc)
  | _ :: bs, t :: r => if t.kind = 2 then numChk bl bc bs r else some (t.line, t.col)
def numMay : List Nat → List Tok → Option (Int × Int)
  | b :: bs, t :: r => if mayF b t.n then numMay bs r else some (t.line, t.col)
  | _, _ => none
def numErr (bs : List Nat) (rest : List Tok) (bl bc : Int) : Option (Int × Int) := match numChk bl bc bs rest with
  | some e => some e
  | none => match rest.drop bs.length with
    | t :: _ => some (t.line, t.col)
    | [] => numMay bs rest
def wordB (t : Tok) : Option (List Nat) := if t.kind = 1 then bnds t.text else none
def lineErr (ts : List Tok) (bl bc : Int) : Option (Int × Int) := match ts with
  | [] => none
  | t0 :: rest => match wordB t0 with
    | none => some (t0.line, t0.col)
    | some bs => numErr bs rest bl bc
theorem tok_drop {cells rest : List Value} {p : Nat} {t : Tok} (h : cells.drop p = tokC t ++ rest) : cells.drop p = .int .i64 t.kind :: .int .i64 t.n :: .int .i64 t.line :: .int .i64 t.col :: .string (B t.text) :: rest ∧
    cells.drop (p + 1) = .int .i64 t.n :: .int .i64 t.line :: .int .i64 t.col :: .string (B t.text) :: rest ∧ cells.drop (p + 4) = .string (B t.text) :: rest := by
  refine ⟨h, ?_, ?_⟩
  · rw [← List.drop_drop, h]; rfl
  · rw [← List.drop_drop, h]; rfl
theorem bnds_le {w : List UInt8} {bs : List Nat} (h : bnds w = some bs) : bs.length ≤ 3 ∧ 1 ≤ bs.length ∧ ∀ b ∈ bs, b = 93 ∨ b = 94 ∨ b = 95 ∨ b = 96 := by
  unfold bnds at h
  repeat' split at h
  all_goals first
    | (simp only [Option.some.injEq] at h; subst h; decide)
    | cases h
theorem err_shape {h h' : Heap} {a b : Int} {E : Value} (H : ErrP h (errL a b) E h') : ∃ b, E = .iface 58 (.pointer (some ⟨b, 0, none⟩)) := by
  rcases H.2.shape with ⟨_, q⟩ | ⟨b, f, E', r, rfl, q, _⟩
  · cases q
  · exact ⟨b, rfl⟩
def NumP (h : Heap) (ts : List Tok) (bl bc : Int) (v : Value) (h' : Heap) : Prop := Ext h h' ∧ match lineErr ts bl bc with
  | some e => ∃ E, v = .tuple #[.slice none 0 0, E] ∧ ChA h' h'.n E (errL e.1 e.2)
  | none => ∃ s, v = .tuple #[s, .nilIface] ∧ OwA 3 intC h h' s (ts.tail.map (·.n))
def J47 (h : Heap) (sv : Value) (bb : Nat) (bs : List Nat) (rest : List Tok) (bl bc : Int) (m : Nat) (σ : St) : Prop := ∃ (k : Nat) (o : Option Nat) (v : Value), m = bs.length - k ∧ k ≤ bs.length ∧ k ≤ rest.length ∧ Ext h σ.m.h ∧ F.OwO 3 intC h σ.m.h o ((rest.take k).map (·.n)) v ∧
  numChk bl bc bs rest = numChk bl bc (bs.drop k) (rest.drop k) ∧ σ.t.get 0 = some sv ∧ σ.t.get 3 = some (.pointer (some ⟨3, 0, some 0⟩)) ∧ σ.t.get 6 = some (.slice (some ⟨bb, 0, none⟩) bs.length bs.length) ∧ σ.t.get 8 = some v ∧
  σ.t.get 35 = some (.int .i64 (bs.length : Nat)) ∧ σ.t.get 36 = some (.int .i64 (k : Nat)) ∧ σ.m.x.look 3 = some (27, [.int .i64 bl, .int .i64 bc])
def J47b (H : Heap) (sv ov bv : Value) (bs : List Nat) (rest : List Tok) (n m : Nat) (σ : St) : Prop := ∃ j : Nat, m = n - j ∧ j ≤ n ∧ σ.m.h = H ∧ numMay bs rest = numMay (bs.drop j) (rest.drop j) ∧
  σ.t.get 0 = some sv ∧ σ.t.get 8 = some ov ∧ σ.t.get 86 = some bv ∧ σ.t.get 87 = some (.int .i64 (n : Nat)) ∧ σ.t.get 88 = some (.int .i64 (j : Nat))
theorem numbers_ok (sv : Value) (t0 : Tok) (rest : List Tok) (bl bc : Int) (hl : rest.length ≤ 1073741824) (h : Heap) (hs : TokS h sv (t0 :: rest)) : ACalls PP 47 [sv, spotV bl bc] h (NumP h (t0 :: rest) bl bc) := by
  refine acalls_of_vc mix fn47 bodyEq47 rfl (by show 2 ≤ 109; decide) ok47 ?_
  simp only [body47, Tryz.f47]
  obtain ⟨ad, c, rfl, _⟩ := id hs
  obtain ⟨_, b, off, w, cells, r0, rfl, e2, e3, e4, e5⟩ := hs.at (i := 0) (t := t0) rfl
  simp only [Nat.zero_mul, Nat.add_zero] at e3 e4
  obtain ⟨d0, d1, d4⟩ := tok_drop e3
  have hl0 : off + 1 ≤ cells.length := by omega
  have hl4 : off + 4 + 1 ≤ cells.length := by omega
  have hl5 : off + 5 ≤ cells.length := by omega
  simp -implicitDefEqProofs [e2, d0, d4, hl0, hl4, spotV]
  refine (bounds_ok t0.text h).mono ?_
  rintro v H1 ⟨E1, hB⟩
  have e2' : H1.f b = .row w 84 cells := by rw [E1.f b e5, e2]
  have d5 : (cells.drop off).take 5 = tokC t0 := by rw [d0]; rfl
  have sp0 := spot_ok t0 H1
  simp only [tokV, tokC] at sp0
  have fin : wordB t0 = none → ∀ E H2, ErrP H1 (errL t0.line t0.col) E H2 → NumP h (t0 :: rest) bl bc (.tuple #[.slice none 0 0, E]) H2 := fun hw E H2 ⟨q1, q2⟩ => by
    refine ⟨E1.trans q1, ?_⟩
    have hle : lineErr (t0 :: rest) bl bc = some (t0.line, t0.col) := by simp only [lineErr, hw]
    rw [hle]
    exact ⟨E, rfl, q2⟩
  cases hbn : bnds t0.text with
  | none =>
    have hw : wordB t0 = none := by unfold wordB; rw [hbn]; split <;> rfl
    rw [hbn] at hB
    subst hB
    by_cases hk : t0.kind = 1
    all_goals
      try rw [hk] at sp0
      simp -implicitDefEqProofs [callQ, e2', d0, hl0, hl5, hk]
      intro _
      refine sp0.mono ?_
      rintro r H2 ⟨e, rfl⟩
      replace e := e.symm
      subst e
      simp -implicitDefEqProofs [callQ]
      intro _
      refine (wrong_ok t0.line t0.col H1).mono ?_
      intro E H2 hE
      obtain ⟨be, rfl⟩ := err_shape hE
      simp -implicitDefEqProofs [callQ]
      intro _
      exact fin hw _ H2 hE
  | some bs =>
    rw [hbn] at hB
    obtain ⟨bb, rfl, hbb, hbl⟩ := hB
    by_cases hk : t0.kind = 1
    rotate_left
    · have hw : wordB t0 = none := by unfold wordB; rw [if_neg hk]
      simp -implicitDefEqProofs [callQ, e2', d0, hl0, hl5, hk]
      intro _
      refine sp0.mono ?_
      rintro r H2 ⟨e, rfl⟩
      replace e := e.symm
      subst e
      simp -implicitDefEqProofs [callQ]
      intro _
      refine (wrong_ok t0.line t0.col H1).mono ?_
      intro E H2 hE
      obtain ⟨be, rfl⟩ := err_shape hE
      simp -implicitDefEqProofs [callQ]
      intro _
      exact fin hw _ H2 hE
    · have hw : wordB t0 = some bs := by unfold wordB; rw [if_pos hk]; exact hbn
      simp -implicitDefEqProofs [callQ, e2', d0, hl0, hl5, hk]
      intro _
      obtain ⟨hb3, hb1, hbf⟩ := bnds_le hbn
      obtain ⟨nb, hnb⟩ : ∃ nb, nb = bs.length := ⟨_, rfl⟩
      rw [← hnb] at hb3 hb1
      refine vc_loop (J47 H1 (.slice (some ⟨b, off, none⟩) (rest.length + 1) c) bb bs rest bl bc) nb ⟨0, none, .slice none 0 0, by omega, by omega, by omega, Ext.rfl' H1, F.OwO.nil, rfl, by simp, by simp, by simp [hnb], by simp, by simp [hnb], by simp, by simp⟩ ?_
      rintro m ⟨T, ⟨x, H⟩⟩ ⟨k, o, v, rfl, hk1, hk2, E2, hO, hch, g0, g3, g6, g8, g35, g36, x3⟩
      simp at E2 g0 g3 g6 g8 g35 g36 x3
      rw [← hnb] at hk1 g6 g35
      obtain ⟨rfl, ho⟩ := id hO
      have hol : ((rest.take k).map (·.n)).length = k := by rw [List.length_map, List.length_take]; omega
      rw [hol] at g8 hO
      have hb2 : H.f bb = .row true 52 (bs.flatMap funC) := by rw [E2.f bb hbl]; exact hbb
      have hsH := (hs.ext E1).ext E2
      simp -implicitDefEqProofs [g0, g3, g6, g8, g35, g36, x3]
      refine condQ_of (fun hc => ?_) (fun hc => ?_) <;> simp only [decide_eq_true_eq, decide_eq_false_iff_not] at hc
      · have w1 : IntKind.wrap .i64 ((k : Int) + 1) = ((k + 1 : Nat) : Int) := by rw [i64wrap (by omega)]; omega
        have hkb : k < bs.length := by omega
        obtain ⟨bx, br, hbd⟩ : ∃ x r, bs.drop k = x :: r := ⟨_, _, List.drop_eq_getElem_cons hkb⟩
        by_cases hend : rest.length ≤ k
        · have hke : k = rest.length := by omega
          have hle : lineErr (t0 :: rest) bl bc = some (bl, bc) := by
            simp only [lineErr, hw, numErr, hch]
            rw [hbd, hke, List.drop_length]
            rfl
          simp -implicitDefEqProofs [g0, g3, g6, g8, g35, g36, x3, w1, hend]
          refine (wrong_ok bl bc H).mono ?_
          intro E H2 hE
          obtain ⟨be, rfl⟩ := err_shape hE
          simp -implicitDefEqProofs [callQ]
          intro _
          refine ⟨(E1.trans E2).trans hE.1, ?_⟩
          rw [hle]
          exact ⟨_, rfl, hE.2⟩
        · have hkr : k < rest.length := by omega
          obtain ⟨t, ht⟩ : ∃ t, t = rest[k] := ⟨_, rfl⟩
          have hget : (t0 :: rest)[k + 1]? = some t := by rw [List.getElem?_cons_succ, ht]; exact List.getElem?_eq_getElem hkr
          have hrd : rest.drop k = t :: rest.drop (k + 1) := by rw [ht]; exact List.drop_eq_getElem_cons hkr
          obtain ⟨_, b', off', w', cells', r', q1, q2, q3, q4, q5⟩ := hsH.at hget
          simp only [Option.some.injEq, Addr.mk.injEq, and_true] at q1
          obtain ⟨rfl, rfl⟩ := q1
          obtain ⟨p0, p1, p4⟩ := tok_drop q3
          have p5 : (cells'.drop (off + (k + 1) * 5)).take 5 = tokC t := by rw [q3]; rfl
          have k0 : (0 : Int) ≤ (k : Int) + 1 := by omega
          have n0 : off + (k + 1) * 5 + 1 ≤ cells'.length := by omega
          have n1 : off + (k + 1) * 5 + 1 + 1 ≤ cells'.length := by omega
          have n5 : off + (k + 1) * 5 + 5 ≤ cells'.length := by omega
          by_cases ht2 : t.kind = 2
          · have hch2 : numChk bl bc bs rest = numChk bl bc (bs.drop (k + 1)) (rest.drop (k + 1)) := by
              have hb1' : bs.drop (k + 1) = br := by rw [← List.drop_drop, hbd]; rfl
              rw [hch, hbd, hrd, numChk, if_pos ht2, hb1']
            have htk : (rest.take (k + 1)).map (·.n) = (rest.take k).map (·.n) ++ [t.n] := by
              rw [List.take_add_one, List.getElem?_eq_getElem hkr, ← ht]; simp
            have hr1 : List.range 1 = [0] := rfl
            have nxt : ∀ σ2 : St, Ext H1 σ2.m.h → ∀ o', F.OwO 3 intC H1 σ2.m.h (some o') ((rest.take (k + 1)).map (·.n)) (.slice (some ⟨o', 0, none⟩) (k + 1) (k + 1)) → σ2.t.get 0 = some (.slice (some ⟨b, off, none⟩) (rest.length + 1) c) →
                σ2.t.get 3 = some (.pointer (some ⟨3, 0, some 0⟩)) → σ2.t.get 6 = some (.slice (some ⟨bb, 0, none⟩) nb nb) → σ2.t.get 8 = some (.slice (some ⟨o', 0, none⟩) (k + 1) (k + 1)) → σ2.t.get 35 = some (.int .i64 (nb : Nat)) → σ2.t.get 36 = some (.int .i64 ((k + 1 : Nat) : Int)) → σ2.m.x.look 3 = some (27, [.int .i64 bl, .int .i64 bc]) →
                ∃ j, j < bs.length - k ∧ J47 H1 (.slice (some ⟨b, off, none⟩) (rest.length + 1) c) bb bs rest bl bc j σ2 := by
              intro σ2 x1 o' x2 y0 y3 y6 y8 y35 y36 yx
              exact ⟨bs.length - (k + 1), by omega, k + 1, some o', _, rfl, by omega, by omega, x1, x2, hch2, y0, y3, by rw [y6, hnb], y8, by rw [y35, hnb], y36, yx⟩
            cases o with
            | none =>
              simp only at ho
              have hk0 : k = 0 := by have := congrArg List.length ho; rw [hol] at this; exact this
              subst hk0
              have hre : rest ≠ [] := by intro q; rw [q] at hkr; simp at hkr
              have hw1 : IntKind.wrap .i64 1 = 1 := rfl
              have hr1' : ¬ ((rest.length : Int) + 1 ≤ 1) := by omega
              have hr2' : 0 < rest.length := hkr
              have hr3' : (1 : Int) < (rest.length : Int) + 1 := by omega
              simp only [Nat.zero_add, Nat.one_mul, Nat.add_zero] at q3 p0 p1 n0 n1 n5
              simp -implicitDefEqProofs [hre, hw1, hr1', hr2', hr3', g0, g3, g6, g8, g35, g36, x3, w1, hend, hkr, k0, q2, p0, p1, n0, n1, ht2, opBuildSlice, hr1, opAppend, srcCells, maxA]
              refine nxt _ ?_ (H.n + 1) ⟨by rw [htk]; simp, ?_, ?_, ?_⟩ (by simp) (by simp) (by simp) (by simp) (by simp) (by simp) (by simp)
              · exact (Ext.newOf E2 _).newOf _
              · rw [htk]; simp [intC]
              · have := E2.n; omega
              · simp
            | some bp =>
              simp only at ho
              obtain ⟨hq1, hq2, hq3⟩ := ho
              obtain ⟨K, hK⟩ : ∃ K, K = ((rest.take k).map (·.n)).flatMap intC := ⟨_, rfl⟩
              have hKl : K.length = k := by have := flatA_len 1 (enc := intC) (fun _ => rfl) ((rest.take k).map (·.n)); rw [← hK, hol] at this; omega
              rw [← hK] at hq1
              have e8 : K.take k = K := List.take_of_length_le (by omega)
              have o1 : ¬ bp = H.n := by omega
              have hmx : (k + 1) * 8 ≤ 140737488355328 := by omega
              simp -implicitDefEqProofs [g0, g3, g6, g8, g35, g36, x3, w1, hend, hkr, k0, q2, p0, p1, n0, n1, ht2, opBuildSlice, hr1, opAppend, srcCells, maxA, hq1, hKl, e8, hmx, o1]
              refine nxt _ ?_ (H.n + 1) ⟨by simp; omega, ?_, ?_, ?_⟩ (by simp) (by simp) (by simp) (by simp) (by simp) (by simp) (by simp)
              · exact ((Ext.newOf E2 _).setOf hq2 _).newOf _
              · rw [htk, List.flatMap_append, ← hK]; simp [intC]
              · have := E2.n; omega
              · simp
          · have hle : lineErr (t0 :: rest) bl bc = some (t.line, t.col) := by
              simp only [lineErr, hw, numErr, hch]
              rw [hbd, hrd, numChk, if_neg ht2]
            have spt := spot_ok t H
            simp only [tokV, tokC] at spt
            simp -implicitDefEqProofs [g0, g3, g6, g8, g35, g36, x3, w1, hend, hkr, k0, q2, p0, p1, n0, n1, n5, ht2]
            refine spt.mono ?_
            rintro r H2 ⟨e, rfl⟩
            replace e := e.symm
            subst e
            simp -implicitDefEqProofs [callQ]
            intro _
            refine (wrong_ok t.line t.col H).mono ?_
            intro E H2 hE
            obtain ⟨be, rfl⟩ := err_shape hE
            simp -implicitDefEqProofs [callQ]
            intro _
            refine ⟨(E1.trans E2).trans hE.1, ?_⟩
            rw [hle]
            exact ⟨_, rfl, hE.2⟩
      · have hkn : k = nb := by omega
        subst hkn
        have hch0 : numChk bl bc bs rest = none := by rw [hch, List.drop_of_length_le (by omega)]; rfl
        by_cases hmore : k < rest.length
        · obtain ⟨t, ht⟩ : ∃ t, t = rest[k] := ⟨_, rfl⟩
          have hget : (t0 :: rest)[k + 1]? = some t := by rw [List.getElem?_cons_succ, ht]; exact List.getElem?_eq_getElem hmore
          have hrd : rest.drop k = t :: rest.drop (k + 1) := by rw [ht]; exact List.drop_eq_getElem_cons hmore
          obtain ⟨_, b', off', w', cells', r', q1, q2, q3, q4, q5⟩ := hsH.at hget
          simp only [Option.some.injEq, Addr.mk.injEq, and_true] at q1
          obtain ⟨rfl, rfl⟩ := q1
          obtain ⟨p0, p1, p4⟩ := tok_drop q3
          have w1 : IntKind.wrap .i64 ((k : Int) + 1) = ((k + 1 : Nat) : Int) := by rw [i64wrap (by omega)]; omega
          have k0 : (0 : Int) ≤ (k : Int) + 1 := by omega
          have n5 : off + (k + 1) * 5 + 5 ≤ cells'.length := by omega
          have hle : lineErr (t0 :: rest) bl bc = some (t.line, t.col) := by
            simp only [lineErr, hw, numErr, hch0]
            rw [← hnb, hrd]
          have spt := spot_ok t H
          simp only [tokV, tokC] at spt
          simp -implicitDefEqProofs [g0, g3, g6, g8, g35, g36, x3, w1, k0, hmore, q2, p0, n5]
          refine spt.mono ?_
          rintro r H2 ⟨e, rfl⟩
          replace e := e.symm
          subst e
          simp -implicitDefEqProofs [callQ]
          intro _
          refine (wrong_ok t.line t.col H).mono ?_
          intro E H2 hE
          obtain ⟨be, rfl⟩ := err_shape hE
          simp -implicitDefEqProofs [callQ]
          intro _
          refine ⟨(E1.trans E2).trans hE.1, ?_⟩
          rw [hle]
          exact ⟨_, rfl, hE.2⟩
        · have hkl : k = rest.length := by omega
          have w1 : IntKind.wrap .i64 ((rest.length : Int) + 1) = ((rest.length + 1 : Nat) : Int) := by rw [i64wrap (by omega)]; omega
          have hle0 : lineErr (t0 :: rest) bl bc = numMay bs rest := by
            simp only [lineErr, hw, numErr, hch0]
            rw [← hnb, hkl, List.drop_length]
          obtain ⟨bo, rfl⟩ : ∃ bo, o = some bo := by
            cases o with
            | none => simp only at ho; rw [ho] at hol; simp at hol; omega
            | some b => exact ⟨b, rfl⟩
          simp only at ho
          obtain ⟨hq1, hq2, hq3⟩ := ho
          rw [hkl, List.take_length] at hq1 hO
          rw [← hkl] at hO
          simp -implicitDefEqProofs [g0, g3, g6, g8, g35, g36, x3, w1, hkl]
          refine vc_loop (J47b H (.slice (some ⟨b, off, none⟩) (rest.length + 1) c) (.slice (some ⟨bo, 0, none⟩) rest.length rest.length) (.slice (some ⟨bb, 0, none⟩) rest.length rest.length) bs rest rest.length) rest.length ⟨0, by omega, by omega, rfl, rfl, by simp, by simp, by simp, by simp, by simp⟩ ?_
          clear g0 g3 g6 g8 g35 g36 x3
          rintro m ⟨T, ⟨x, H'⟩⟩ ⟨j, rfl, hj, rfl, hmay, g0, g8, g86, g87, g88⟩
          simp at g0 g8 g86 g87 g88
          simp -implicitDefEqProofs [g0, g8, g86, g87, g88]
          refine condQ_of (fun hc2 => ?_) (fun hc2 => ?_) <;> simp only [decide_eq_true_eq, decide_eq_false_iff_not] at hc2
          · have hjr : j < rest.length := by omega
            have hjb : j < bs.length := by omega
            obtain ⟨t, ht⟩ : ∃ t, t = rest[j] := ⟨_, rfl⟩
            obtain ⟨f, hf⟩ : ∃ f, f = bs[j] := ⟨_, rfl⟩
            have hbd : bs.drop j = f :: bs.drop (j + 1) := by rw [hf]; exact List.drop_eq_getElem_cons hjb
            have hrd : rest.drop j = t :: rest.drop (j + 1) := by rw [ht]; exact List.drop_eq_getElem_cons hjr
            have hff := hbf f (by rw [hf]; exact List.getElem_mem hjb)
            obtain ⟨F, hF⟩ : ∃ F, F = bs.flatMap funC := ⟨_, rfl⟩
            have hFl : F.length = bs.length := by have := flatA_len 1 (enc := funC) (fun _ => rfl) bs; rw [← hF] at this; omega
            have hFd : (F.drop j).take 1 = [.func (.func f) #[] #[]] := by
              have h1 := flatA_drop 1 (enc := funC) (fun _ => rfl) bs j
              rw [Nat.mul_one] at h1
              rw [hF, h1, hbd]; rfl
            rw [← hF] at hb2
            obtain ⟨K, hK⟩ : ∃ K, K = (rest.map (·.n)).flatMap intC := ⟨_, rfl⟩
            have hKl : K.length = rest.length := by have := flatA_len 1 (enc := intC) (fun _ => rfl) (rest.map (·.n)); rw [← hK, List.length_map] at this; omega
            have hKd : (K.drop j).take 1 = [.int .i64 t.n] := by
              have h1 := flatA_drop 1 (enc := intC) (fun _ => rfl) (rest.map (·.n)) j
              rw [Nat.mul_one] at h1
              rw [hK, h1, ← List.map_drop, hrd]; rfl
            rw [← hK] at hq1
            have hb2 : H'.f bb = .row true 52 F := hb2
            have hq1 : H'.f bo = .row true 3 K := hq1
            have hsH' : TokS H' (.slice (some ⟨b, off, none⟩) (rest.length + 1) c) (t0 :: rest) := hsH
            have j1 : j + 1 ≤ F.length := by omega
            have j2 : j + 1 ≤ K.length := by omega
            simp -implicitDefEqProofs [g0, g8, g86, g87, g88, hjr, hb2, hFd, j1, hq1, hKd, j2]
            refine (may_ok f hff t.n H').mono ?_
            rintro r H2 ⟨e, rfl⟩
            replace e := e.symm
            subst e
            cases hmf : mayF f t.n with
            | true =>
              have e4 : IntKind.wrap .i64 ((j : Int) + 1) = ((j + 1 : Nat) : Int) := by rw [i64wrap (by omega)]; omega
              simp -implicitDefEqProofs [callQ, g0, g8, g86, g87, g88, e4]
              intro _
              exact ⟨rest.length - (j + 1), by omega, j + 1, rfl, by omega, rfl, by rw [hmay, hbd, hrd, numMay, if_pos hmf], by simp [g0], by simp [g8], by simp [g86], by simp [g87], by simp⟩
            | false =>
              have hget : (t0 :: rest)[j + 1]? = some t := by rw [List.getElem?_cons_succ, ht]; exact List.getElem?_eq_getElem hjr
              obtain ⟨_, b', off', w', cells', r', q1, q2, q3, q4, q5⟩ := hsH'.at hget
              simp only [Option.some.injEq, Addr.mk.injEq, and_true] at q1
              obtain ⟨rfl, rfl⟩ := q1
              obtain ⟨p0, p1, p4⟩ := tok_drop q3
              have wj : IntKind.wrap .i64 ((j : Int) + 1) = ((j + 1 : Nat) : Int) := by rw [i64wrap (by omega)]; omega
              have k0 : (0 : Int) ≤ (j : Int) + 1 := by omega
              have n5 : off + (j + 1) * 5 + 5 ≤ cells'.length := by omega
              have hle : lineErr (t0 :: rest) bl bc = some (t.line, t.col) := by
                rw [hle0, hmay, hbd, hrd, numMay, hmf]; rfl
              have spt := spot_ok t H'
              simp only [tokV, tokC] at spt
              simp -implicitDefEqProofs [callQ, g0, g8, g86, g87, g88, wj, k0, hjr, q2, p0, n5]
              intro _
              refine spt.mono ?_
              rintro r H2 ⟨e, rfl⟩
              replace e := e.symm
              subst e
              simp -implicitDefEqProofs [callQ]
              intro _
              refine (wrong_ok t.line t.col H').mono ?_
              intro E H2 hE
              obtain ⟨be, rfl⟩ := err_shape hE
              simp -implicitDefEqProofs [callQ]
              intro _
              refine ⟨(E1.trans E2).trans hE.1, ?_⟩
              rw [hle]
              exact ⟨_, rfl, hE.2⟩
          · have hje : j = rest.length := by omega
            have hnone : numMay bs rest = none := by rw [hmay, hje, List.drop_length]; cases bs.drop rest.length <;> rfl
            simp -implicitDefEqProofs [g0, g8, g86, g87, g88]
            refine ⟨E1.trans E2, ?_⟩
            rw [hle0, hnone]
            exact ⟨_, rfl, _, by rw [List.tail_cons, List.length_map], .inr ⟨bo, rfl, hq1, Nat.le_trans E1.n hq2, hq3⟩⟩
end Go.Proofs.Yph
/- simp rules for maps. -/
namespace Go.Am
open Go
section
variable {P : Program} {loc : List Nat} {σ : St} {d : Option Nat} {ty : TypeId} {pos : String} {aft : Array Edge} {g : Option (Nat × Bool)}
theorem step_makeMap (t : TypeId) (r : Option Operand) : stepOp P loc σ ⟨d, .makeMap t r, ty, pos, aft, g⟩ = opMakeMap P σ t r := rfl
theorem step_lookup (t : TypeId) (x i : Operand) (ok : Bool) : stepOp P loc σ ⟨d, .lookup t x i ok, ty, pos, aft, g⟩ = opLookup P σ t x i ok := rfl
theorem step_mapUpdate (t : TypeId) (x i y : Operand) : stepOp P loc σ ⟨d, .mapUpdate t x i y, ty, pos, aft, g⟩ = opMapUpdate P σ t x i y := rfl
theorem step_insert (t : TypeId) (x i y : Operand) : stepOp P loc σ ⟨d, .insert t x i y, ty, pos, aft, g⟩ = opMapUpdate P σ t x i y := rfl
theorem call_makeMap (t : TypeId) (r : Option Operand) : callOf σ ⟨d, .makeMap t r, ty, pos, aft, g⟩ = none := rfl
theorem call_lookup (t : TypeId) (x i : Operand) (ok : Bool) : callOf σ ⟨d, .lookup t x i ok, ty, pos, aft, g⟩ = none := rfl
theorem call_mapUpdate (t : TypeId) (x i y : Operand) : callOf σ ⟨d, .mapUpdate t x i y, ty, pos, aft, g⟩ = none := rfl
theorem call_insert (t : TypeId) (x i y : Operand) : callOf σ ⟨d, .insert t x i y, ty, pos, aft, g⟩ = none := rfl
end
attribute [simp] step_makeMap step_lookup step_mapUpdate step_insert call_makeMap call_lookup call_mapUpdate call_insert opMakeMap opLookup opMapUpdate
end Go.Am
/- The reader's map of seats, in the heap. -/
namespace Go.Proofs.Yph
open Go Go.Am
set_option maxRecDepth 20000
set_option maxHeartbeats 2000000
open T (Tok tokC tokV spotV TokS)
open V (SeatR PoleR VenR seatC poleC intC inB)
open F (FR ChA GlobOK)
theorem PP_eq : PP = Tryz.prog := by unfold PP; rfl
def keyV (row x : Int) : Value := .agg ⟨[.int .i64 row, .int .i64 x]⟩
def entOf (s : SeatR) (i : Nat) : MapEntry := ⟨keyV s.row s.x, .int .i64 (i : Nat), i⟩
def entsF : List SeatR → Nat → List MapEntry
  | [], _ => []
  | s :: r, i => entOf s i :: entsF r (i + 1)
def ents (l : List SeatR) : List MapEntry := entsF l 0
def placeF (row x : Int) : List SeatR → Nat → Option Nat
  | [], _ => none
  | s :: r, i => if s.row = row ∧ s.x = x then some i else placeF row x r (i + 1)
def placeAt (l : List SeatR) (row x : Int) : Option Nat := placeF row x l 0
theorem check_ok (e : Bool) (a b : Int) : (Instr.checkKey e 10000 116 (keyV a b)).pureRun PP = some () := by
  rw [PP_eq]
  cases e <;> kernel_rfl
theorem eqKey (a b c d : Int) : (Op.equal 116 (keyV a b) (keyV c d)).pureRun PP = some (decide (a = c) && decide (b = d)) := by
  have h : eqAgg PP 116 [.int .i64 a, .int .i64 b] [.int .i64 c, .int .i64 d] = some (decide (a = c) && decide (b = d)) := by
    simp [eqAgg, eqL, flat1]
  exact (eqAgg_run h).2.1
theorem placeF_ge {a b : Int} {l : List SeatR} {i k : Nat} (h : placeF a b l i = some k) : i ≤ k := by
  induction l generalizing i with
  | nil => cases h
  | cons s r ih =>
    simp only [placeF] at h
    split at h
    · simp only [Option.some.injEq] at h; omega
    · have := ih h; omega
theorem asking_ok (a b : Int) (l : List SeatR) (i j : Nat) : (Instr.findAsking 116 (keyV a b) (entsF l i) j).pureRun PP = some ((placeF a b l i).map fun k => (k - i + j, .int .i64 (k : Nat))) := by
  induction l generalizing i j with
  | nil => rfl
  | cons s r ih =>
    simp only [entsF, Instr.findAsking, pureRun_bind, entOf, eqKey, Option.bind_some, placeF]
    by_cases h1 : s.row = a ∧ s.x = b
    · have h2 : (decide (a = s.row) && decide (b = s.x)) = true := by simp [h1.1, h1.2]
      simp [h2, h1, pureRun_pure]
    · have h2 : (decide (a = s.row) && decide (b = s.x)) = false := by
        rw [← Bool.not_eq_true]; intro q; simp at q; exact h1 ⟨q.1.symm, q.2.symm⟩
      rw [h2, if_neg h1]
      simp only [Bool.false_eq_true, if_false, ih]
      cases hp : placeF a b r (i + 1) with
      | none => rfl
      | some k =>
        have := placeF_ge hp
        simp only [Option.map_some, Option.some.injEq, Prod.mk.injEq, and_true]
        omega
theorem findKey_ok (a b : Int) (l : List SeatR) : (Instr.findKey 116 (keyV a b) (ents l)).pureRun PP = some ((placeAt l a b).map fun k => (k, .int .i64 (k : Nat))) := by
  simp only [Instr.findKey, pureRun_bind, pureRun_under un116, Option.bind_some]
  cases l with
  | nil => rfl
  | cons s r =>
    have e : Instr.findNow (Go.TypeDesc.struct #[{ name := "row", type := 3, offset := 0, embedded := false, tag := "", pkgPath := "parterre/parse", byteOffset := 0 }, { name := "x", type := 3, offset := 1, embedded := false, tag := "", pkgPath := "parterre/parse", byteOffset := 8 }]) (keyV a b) (ents (s :: r)) 0 = none := rfl
    rw [e]
    have := asking_ok a b (s :: r) 0 0
    simp only [Nat.sub_zero, Nat.add_zero] at this
    exact this
theorem find_ok (a b : Int) (l : List SeatR) : (findS 116 3 (keyV a b) (ents l).toArray true).pureRun PP = some (.tuple #[.int .i64 (((placeAt l a b).getD 0 : Nat) : Int), .bool (placeAt l a b).isSome]) := by
  have hz : (zeroValue 3).pureRun PP = some (.int .i64 0) := by rw [PP_eq]; kernel_rfl
  simp only [findS, pureRun_bind, check_ok, Option.bind_some, findKey_ok]
  cases hp : placeAt l a b with
  | none =>
    show (zeroValue 3 >>= fun a => pure (Value.tuple #[a, .bool false]) : Sem Value).pureRun PP = _
    rw [pureRun_bind, hz]; rfl
  | some k => simp [pureRun_bind, pureRun_pure]
theorem where_ok (a b : Int) (l : List SeatR) : (whereS 116 (keyV a b) (ents l).toArray).pureRun PP = some ((placeAt l a b).map fun k => (k, .int .i64 (k : Nat))) := by
  simp only [whereS, pureRun_bind, check_ok, Option.bind_some, findKey_ok]
theorem entsF_snoc (l : List SeatR) (s : SeatR) (i : Nat) : entsF (l ++ [s]) i = entsF l i ++ [entOf s (i + l.length)] := by
  induction l generalizing i with
  | nil => rfl
  | cons a r ih => simp only [List.cons_append, entsF, ih, List.length_cons]; rw [show i + 1 + r.length = i + (r.length + 1) by omega]
theorem ents_snoc (l : List SeatR) (s : SeatR) : ents (l ++ [s]) = ents l ++ [entOf s l.length] := by
  have := entsF_snoc l s 0
  rw [Nat.zero_add] at this
  exact this
end Go.Proofs.Yph
/- The reader's state; what a line adds. -/
namespace Go.Proofs.Yph
open Go Go.Am
set_option maxRecDepth 20000
set_option maxHeartbeats 4000000
open T (Tok tokC tokV spotV TokS)
open V (SeatR PoleR VenR seatC poleC intC inB)
open F (FR ChA GlobOK)
structure KillR where
  row : Int
  x : Int
  line : Int
  col : Int
  rline : Int
  rcol : Int
deriving DecidableEq
def killC (k : KillR) : List Value := [.int .i64 k.row, .int .i64 k.x, .int .i64 k.line, .int .i64 k.col, .int .i64 k.rline, .int .i64 k.rcol]
structure Rd where
  seats : List SeatR
  gap : Int
  radius : Int
  kills : List KillR
  poles : List PoleR
  rad : Bool
deriving DecidableEq
def rd0 : Rd := ⟨[], 0, 0, [], [], false⟩
def addR (r : Rd) (t0 : Tok) (rest : List Tok) : Rd × Bool :=
  let n := fun i => (rest.getD i T.zTok).n
  if t0.text = wGap then (if 0 < r.gap then (r, false) else ({ r with gap := n 0 }, true))
  else if t0.text = wRad then (if r.rad then (r, false) else ({ r with rad := true, radius := n 0 }, true))
  else if t0.text = wKill then
    let k := r.kills ++ [⟨n 0, n 1, t0.line, t0.col, (rest.getD 0 T.zTok).line, (rest.getD 0 T.zTok).col⟩]
    ({ r with kills := k }, decide (k.length ≤ 200))
  else if t0.text = wPole then
    let p := r.poles ++ [⟨n 0, n 1, n 2⟩]
    ({ r with poles := p }, decide (p.length ≤ 200))
  else match placeAt r.seats (n 0) (n 1) with
    | some _ => (r, false)
    | none => let s := r.seats ++ [⟨n 0, n 1, n 2, kindW t0.text⟩]; ({ r with seats := s }, decide (s.length ≤ 4096))
/-- the reader in the heap: made of things that are newer than h0 -/
def RdH (h0 h : Heap) (r : Rd) (el ec : Int) (ks : Value) (br : Nat) : Prop := ∃ (os op ok : Option Nat) (ss sp sk : Value) (bm : Nat),
  h.f br = .row true 71 [ss, .int .i64 r.gap, .int .i64 r.radius, ks, sp, .int .i64 el, .int .i64 ec, .map (some bm), sk, .bool r.rad] ∧ h0.n ≤ br ∧ br < h.n ∧
  F.OwO 57 seatC h0 h os r.seats ss ∧ F.OwO 93 poleC h0 h op r.poles sp ∧ F.OwO 118 killC h0 h ok r.kills sk ∧ h.f bm = .obj (.map (ents r.seats).toArray r.seats.length) ∧ h0.n ≤ bm ∧ bm < h.n
def rdSmall (r : Rd) : Prop := r.seats.length ≤ 1000000 ∧ r.kills.length ≤ 1000000 ∧ r.poles.length ≤ 1000000
theorem rest_cases {w : List UInt8} {bs : List Nat} (h : bnds w = some bs) {rest : List Tok} (hl : rest.length = bs.length) :
    ((w = wGap ∨ w = wRad) ∧ ∃ a, rest = [a]) ∨ (w = wKill ∧ ∃ a b, rest = [a, b]) ∨ ((w = wPole ∨ w = wSeat ∨ w = wWheel ∨ w = wComp) ∧ ∃ a b c, rest = [a, b, c]) := by
  have l1 : rest.length = 1 → ∃ a, rest = [a] := fun q => by
    match rest, q with
    | [a], _ => exact ⟨a, rfl⟩
  have l2 : rest.length = 2 → ∃ a b, rest = [a, b] := fun q => by
    match rest, q with
    | [a, b], _ => exact ⟨a, b, rfl⟩
  have l3 : rest.length = 3 → ∃ a b c, rest = [a, b, c] := fun q => by
    match rest, q with
    | [a, b, c], _ => exact ⟨a, b, c, rfl⟩
  unfold bnds at h
  split at h
  · rename_i hw
    simp only [Option.some.injEq] at h; subst h
    exact .inr (.inr ⟨.inr hw, l3 hl⟩)
  split at h
  · rename_i hw
    simp only [Option.some.injEq] at h; subst h
    exact .inl ⟨.inl hw, l1 hl⟩
  split at h
  · rename_i hw
    simp only [Option.some.injEq] at h; subst h
    exact .inl ⟨.inr hw, l1 hl⟩
  split at h
  · rename_i hw
    simp only [Option.some.injEq] at h; subst h
    exact .inr (.inl ⟨hw, l2 hl⟩)
  split at h
  · rename_i hw
    simp only [Option.some.injEq] at h; subst h
    exact .inr (.inr ⟨.inl hw, l3 hl⟩)
  · cases h
theorem own_ne {α : Type} {e : TypeId} {enc : α → List Value} {h0 h : Heap} {o : Option Nat} {xs : List α} {v : Value} (H : F.OwO e enc h0 h o xs v) {b : Nat} {e' : TypeId} {cs : List Value} (hb : h.f b = .row true e' cs) (he : e ≠ e') : o ≠ some b := by
  rintro rfl
  have h1 := H.2.1
  rw [hb] at h1
  simp only [Blk.row.injEq] at h1
  exact he h1.2.1.symm
theorem own_ne' {α : Type} {e : TypeId} {enc : α → List Value} {h0 h : Heap} {o : Option Nat} {xs : List α} {v : Value} (H : F.OwO e enc h0 h o xs v) {b : Nat} {ob : Obj} (hb : h.f b = .obj ob) : o ≠ some b := by
  rintro rfl
  have h1 := H.2.1
  rw [hb] at h1
  cases h1
/-- the reader's own block, written -/
theorem RdH.put {h0 h : Heap} {r : Rd} {el ec : Int} {ks : Value} {br : Nat} (R : RdH h0 h r el ec ks br) (gap radius : Int) (rad : Bool) : ∃ (os op ok : Option Nat) (ss sp sk : Value) (bm : Nat),
    h.f br = .row true 71 [ss, .int .i64 r.gap, .int .i64 r.radius, ks, sp, .int .i64 el, .int .i64 ec, .map (some bm), sk, .bool r.rad] ∧
    RdH h0 (h.set br (.row true 71 [ss, .int .i64 gap, .int .i64 radius, ks, sp, .int .i64 el, .int .i64 ec, .map (some bm), sk, .bool rad])) { r with gap := gap, radius := radius, rad := rad } el ec ks br := by
  obtain ⟨os, op, ok, ss, sp, sk, bm, hbr, hbr1, hbr2, hos, hop, hok, hbm, hbm1, hbm2⟩ := R
  refine ⟨os, op, ok, ss, sp, sk, bm, hbr, os, op, ok, ss, sp, sk, bm, by simp, hbr1, hbr2, hos.setNe _ (own_ne hos hbr (by decide)), hop.setNe _ (own_ne hop hbr (by decide)), hok.setNe _ (own_ne hok hbr (by decide)), ?_, hbm1, hbm2⟩
  rw [f_set, if_neg]
  · exact hbm
  · rintro rfl; rw [hbr] at hbm; cases hbm
theorem set_set2 (h : Heap) (b : Nat) (x y : Blk) : (h.set b x).set b y = h.set b y := by
  unfold Heap.set
  congr 1
  funext i
  by_cases hi : i = b <;> simp [hi]
/-- a slice of one's own that is appended to, and put into the reader's block -/
def growH (h : Heap) (o : Option Nat) (c0 c1 : Blk) : Heap := match o with
  | none => (h.new c0).new c1
  | some b => ((h.new c0).set b .dead).new c1
theorem grow_n (h : Heap) (o : Option Nat) (c0 c1 : Blk) : (growH h o c0 c1).n = h.n + 1 + 1 := by cases o <;> simp [growH]
theorem grow_f (h : Heap) (o : Option Nat) (c0 c1 : Blk) {b : Nat} (hb : b < h.n) (ho : o ≠ some b) : (growH h o c0 c1).f b = h.f b := by
  have n1 : ¬ b = h.n := by omega
  have n2 : ¬ b = h.n + 1 := by omega
  cases o with
  | none => simp [growH, n1, n2]
  | some x =>
    have n3 : ¬ b = x := fun q => ho (by rw [q])
    simp [growH, n1, n2, n3]
theorem own_same {α : Type} {e : TypeId} {enc : α → List Value} {h0 h h' : Heap} {o : Option Nat} {xs : List α} {v : Value} (H : F.OwO e enc h0 h o xs v) (hs : ∀ b, o = some b → h'.f b = h.f b) (hn : h.n ≤ h'.n) : F.OwO e enc h0 h' o xs v := by
  obtain ⟨rfl, z⟩ := H
  refine ⟨rfl, ?_⟩
  cases o with
  | none => exact z
  | some b => exact ⟨by rw [hs b rfl]; exact z.1, z.2.1, Nat.lt_of_lt_of_le z.2.2 hn⟩
theorem own_grow {α : Type} {e : TypeId} {enc : α → List Value} {h0 h : Heap} {o : Option Nat} {xs : List α} {v : Value} (H : F.OwO e enc h0 h o xs v) (hn : h0.n ≤ h.n) (c0 : Blk) (x : α) {cells : List Value} (hc : cells = xs.flatMap enc ++ enc x) {br : Nat} (hbr : br < h.n) (X : Blk) :
    F.OwO e enc h0 ((growH h o c0 (.row true e cells)).set br X) (some (h.n + 1)) (xs ++ [x]) (.slice (some ⟨h.n + 1, 0, none⟩) (xs.length + 1) (xs.length + 1)) := by
  have key : F.OwO e enc h0 (growH h o c0 (.row true e cells)) (some (h.n + 1)) (xs ++ [x]) (.slice (some ⟨h.n + 1, 0, none⟩) (xs.length + 1) (xs.length + 1)) := by
    cases o with
    | none =>
      have hx : xs = [] := H.2
      subst hx
      exact F.OwO.push0 hn c0 x (by rw [hc]; rfl)
    | some b => exact H.push c0 x (by rw [hc]; simp)
  exact key.setNe _ (by simp; omega)
theorem own_other {α : Type} {e : TypeId} {enc : α → List Value} {h0 h : Heap} {o o' : Option Nat} {xs : List α} {v : Value} (H : F.OwO e enc h0 h o xs v) (c0 c1 : Blk) {br : Nat} (X : Blk) (h1 : ∀ b, o' = some b → o ≠ some b) (h2 : o ≠ some br) : F.OwO e enc h0 ((growH h o' c0 c1).set br X) o xs v := by
  refine own_same H (fun b hb => ?_) (by show h.n ≤ (growH h o' c0 c1).n; rw [grow_n]; omega)
  rw [f_set, if_neg (fun q => h2 (by rw [hb, q]))]
  refine grow_f h o' c0 c1 ?_ (fun q => h1 b q hb)
  subst hb
  exact H.2.2.2
theorem ext_grow {h0 h : Heap} (E : Ext h0 h) {o : Option Nat} (ho : ∀ b, o = some b → h0.n ≤ b) (c0 c1 : Blk) {br : Nat} (hbr : h0.n ≤ br) (X : Blk) : Ext h0 ((growH h o c0 c1).set br X) := by
  refine Ext.setOf ?_ hbr _
  cases o with
  | none => exact (E.newOf _).newOf _
  | some b => exact ((E.newOf _).setOf (ho b rfl) _).newOf _
theorem own_ge {α : Type} {e : TypeId} {enc : α → List Value} {h0 h : Heap} {o : Option Nat} {xs : List α} {v : Value} (H : F.OwO e enc h0 h o xs v) : ∀ b, o = some b → h0.n ≤ b := by
  rintro b rfl
  exact H.2.2.1
theorem own_sep {α β : Type} {e e' : TypeId} {enc : α → List Value} {enc' : β → List Value} {h0 h : Heap} {o o' : Option Nat} {xs : List α} {ys : List β} {v v' : Value} (H : F.OwO e enc h0 h o xs v) (H' : F.OwO e' enc' h0 h o' ys v') (he : e ≠ e') : ∀ b, o' = some b → o ≠ some b := by
  rintro b rfl
  exact own_ne H H'.2.1 he
theorem map_grow {h : Heap} {o : Option Nat} (c0 c1 : Blk) {br bm : Nat} (X : Blk) {ob : Obj} (hbm : h.f bm = .obj ob) (hlt : bm < h.n) (ho : o ≠ some bm) (hb : bm ≠ br) : ((growH h o c0 c1).set br X).f bm = .obj ob := by
  rw [f_set, if_neg hb, grow_f h o c0 c1 hlt ho, hbm]
/-- tokens stay -/
def Keeps (h h' : Heap) : Prop := ∀ (b : Nat) (w : Bool) (cells : List Value), b < h.n → h.f b = .row w 84 cells → h'.f b = .row w 84 cells
def AddP (h0 h : Heap) (r : Rd) (t0 : Tok) (rest : List Tok) (el ec : Int) (ks : Value) (br : Nat) (v : Value) (h' : Heap) : Prop :=
  v = .bool (addR r t0 rest).2 ∧ Ext h0 h' ∧ RdH h0 h' (addR r t0 rest).1 el ec ks br ∧ Keeps h h'
theorem keeps_set {h h' : Heap} (K : Keeps h h') {b : Nat} (hb : ∀ w cells, h.f b ≠ .row w 84 cells) (x : Blk) : Keeps h (h'.set b x) := fun i w cells hi hf => by
  have hne : ¬ i = b := by rintro rfl; exact hb _ _ hf
  rw [f_set, if_neg hne]
  exact K i w cells hi hf
theorem keeps_rfl (h : Heap) : Keeps h h := fun _ _ _ _ hf => hf
theorem keeps_grow {h h' : Heap} (K : Keeps h h') (hn : h.n ≤ h'.n) {o : Option Nat} (c0 c1 : Blk) (ho : ∀ b, o = some b → ∀ w cells, h'.f b ≠ .row w 84 cells) : Keeps h (growH h' o c0 c1) := fun i w cells hi hf => by
  have h1 := K i w cells hi hf
  rw [grow_f h' o c0 c1 (by omega) (fun q => ho i q w cells h1)]
  exact h1
theorem own_84 {α : Type} {e : TypeId} {enc : α → List Value} {h0 h : Heap} {o : Option Nat} {xs : List α} {v : Value} (H : F.OwO e enc h0 h o xs v) (he : e ≠ 84) : ∀ b, o = some b → ∀ w cells, h.f b ≠ .row w 84 cells := by
  rintro b rfl w cells q
  have h1 := H.2.1
  rw [q] at h1
  simp only [Blk.row.injEq] at h1
  exact he h1.2.1.symm
theorem row_84 {h : Heap} {b : Nat} {w : Bool} {e : TypeId} {cs : List Value} (hb : h.f b = .row w e cs) (he : e ≠ 84) : ∀ w cells, h.f b ≠ .row w 84 cells := by
  intro w' cells q
  rw [hb] at q
  simp only [Blk.row.injEq] at q
  exact he q.2.1
theorem obj_84 {h : Heap} {b : Nat} {o : Obj} (hb : h.f b = .obj o) : ∀ w cells, h.f b ≠ .row w 84 cells := by
  intro w' cells q
  rw [hb] at q
  cases q
theorem add_ok (h0 h : Heap) (r : Rd) (t0 : Tok) (rest : List Tok) (bs : List Nat) (hb : bnds t0.text = some bs) (hl : rest.length = bs.length) (el ec : Int) (ks : Value) (hks : noLoc ks = true) (br : Nat) (tv nv : Value)
    (E0 : Ext h0 h) (R : RdH h0 h r el ec ks br) (hr : rdSmall r) (ht : TokS h tv (t0 :: rest)) (hn : OwA 3 intC h0 h nv (rest.map (·.n))) : ACalls PP 48 [.pointer (some ⟨br, 0, none⟩), tv, nv] h (AddP h0 h r t0 rest el ec ks br) := by
  refine acalls_of_vc mix fn48 bodyEq48 rfl (by show 3 ≤ 169; decide) ok48 ?_
  simp only [body48, Tryz.f48]
  obtain ⟨os, op, ok, ss, sp, sk, bm, hbr, hbr1, hbr2, hos, hop, hok, hbm, hbm1, hbm2⟩ := id R
  obtain ⟨ad, c, rfl, _⟩ := id ht
  obtain ⟨_, bt, off, wt, cells, r0, rfl, e2, e3, e4, e5⟩ := ht.at (i := 0) (t := t0) rfl
  simp only [Nat.zero_mul, Nat.add_zero] at e3 e4
  obtain ⟨d0, d1, d4⟩ := tok_drop e3
  have hl4 : off + 4 + 1 ≤ cells.length := by omega
  have hl5 : off + 5 ≤ cells.length := by omega
  obtain ⟨adn, rfl, hn'⟩ := id hn
  rcases rest_cases hb hl with ⟨hw, a, rfl⟩ | ⟨hw, a, b, rfl⟩ | ⟨hw, a, b, c', rfl⟩
  · obtain ⟨bn, rfl, hbn, hbn1, hbn2⟩ : ∃ bn, adn = some ⟨bn, 0, none⟩ ∧ h.f bn = .row true 3 [.int .i64 a.n] ∧ h0.n ≤ bn ∧ bn < h.n := by
      rcases hn' with ⟨_, q⟩ | ⟨bn, q1, q2, q3, q4⟩
      · cases q
      · exact ⟨bn, q1, q2, q3, q4⟩
    rcases hw with hw | hw
    · rw [hw, wGap] at d4
      by_cases hg : 0 < r.gap
      · have hres : addR r t0 [a] = (r, false) := by simp [addR, hw, hg]
        simp -implicitDefEqProofs [e2, d4, hl4, hbr, hg, wGap]
        exact ⟨by rw [hres], E0, by rw [hres]; exact R, keeps_rfl h⟩
      · have hres : addR r t0 [a] = ({ r with gap := a.n }, true) := by simp [addR, hw, hg]
        obtain ⟨_, _, _, ss', sp', sk', bm', q1, q2⟩ := R.put a.n r.radius r.rad
        rw [hbr] at q1
        simp only [Blk.row.injEq, List.cons.injEq, Value.map.injEq, Option.some.injEq, true_and, and_true] at q1
        obtain ⟨rfl, rfl, rfl, rfl⟩ := q1
        simp -implicitDefEqProofs [e2, d4, hl4, hbr, hg, wGap, hbn]
        exact ⟨by rw [hres], E0.setOf hbr1 _, by rw [hres]; exact q2, keeps_set (keeps_rfl h) (row_84 hbr (by decide)) _⟩
    · rw [hw, wRad] at d4
      have hw2 : ¬ wRad = wGap := by decide
      cases hg : r.rad with
      | true =>
        have hres : addR r t0 [a] = (r, false) := by simp [addR, hw, hg, hw2]
        simp -implicitDefEqProofs [e2, d4, hl4, hbr, hg]
        exact ⟨by rw [hres], E0, by rw [hres]; exact R, keeps_rfl h⟩
      | false =>
        have hres : addR r t0 [a] = ({ r with rad := true, radius := a.n }, true) := by simp [addR, hw, hg, hw2]
        obtain ⟨_, _, _, ss', sp', sk', bm', q1, q2⟩ := R.put r.gap a.n true
        rw [hbr] at q1
        simp only [Blk.row.injEq, List.cons.injEq, Value.map.injEq, Option.some.injEq, true_and, and_true] at q1
        obtain ⟨rfl, rfl, rfl, rfl⟩ := q1
        simp -implicitDefEqProofs [e2, d4, hl4, hbr, hg, hbn]
        rw [set_set2]
        exact ⟨by rw [hres], E0.setOf hbr1 _, by rw [hres]; exact q2, keeps_set (keeps_rfl h) (row_84 hbr (by decide)) _⟩
  · obtain ⟨bn, rfl, hbn, hbn1, hbn2⟩ : ∃ bn, adn = some ⟨bn, 0, none⟩ ∧ h.f bn = .row true 3 [.int .i64 a.n, .int .i64 b.n] ∧ h0.n ≤ bn ∧ bn < h.n := by
      rcases hn' with ⟨_, q⟩ | ⟨bn, q1, q2, q3, q4⟩
      · cases q
      · exact ⟨bn, q1, q2, q3, q4⟩
    rw [hw, wKill] at d4
    have hw1 : ¬ wKill = wGap := by decide
    have hw2 : ¬ wKill = wRad := by decide
    have hr1 : List.range 1 = [0] := rfl
    have hr6 : List.range 6 = [0, 1, 2, 3, 4, 5] := rfl
    obtain ⟨kq, hkq⟩ : ∃ k : KillR, k = ⟨a.n, b.n, t0.line, t0.col, a.line, a.col⟩ := ⟨_, rfl⟩
    have hres : addR r t0 [a, b] = ({ r with kills := r.kills ++ [kq] }, decide ((r.kills ++ [kq]).length ≤ 200)) := by simp [addR, hw, hw1, hw2, hkq]
    obtain ⟨_, b', off', w', cells', r', q1, q2, q3, q4, q5⟩ := ht.at (i := 1) (t := a) rfl
    simp only [Option.some.injEq, Addr.mk.injEq, and_true] at q1
    obtain ⟨rfl, rfl⟩ := q1
    rw [e2] at q2
    simp only [Blk.row.injEq, true_and] at q2
    obtain ⟨rfl, rfl⟩ := q2
    rw [Nat.one_mul] at q3 q4
    obtain ⟨p0, p1, p4⟩ := tok_drop q3
    have hl10 : off + 5 + 5 ≤ cells.length := by omega
    have sp1 := spot_ok t0 h
    have sp2 := spot_ok a h
    simp only [tokV, tokC, hw, wKill] at sp1 sp2
    obtain ⟨rfl, hko⟩ := id hok
    simp -implicitDefEqProofs [e2, d0, d4, p0, hl4, hl5, hl10, hbr, hbn, hw, wKill]
    refine sp1.mono ?_
    rintro r1 H2 ⟨e, rfl⟩
    replace e := e.symm
    subst e
    simp -implicitDefEqProofs [callP, spotV, e2, d0, d4, p0, hl4, hl5, hl10, hbr, hbn, hw, wKill]
    intro _
    refine sp2.mono ?_
    rintro r1 H2 ⟨e, rfl⟩
    replace e := e.symm
    subst e
    have mkK : ∀ cells, cells = r.kills.flatMap killC ++ killC kq → AddP h0 h r t0 [a, b] el ec ks br (.bool (decide ((r.kills.length : Int) + 1 ≤ 200))) ((growH h ok (.row true 118 (killC kq)) (.row true 118 cells)).set br
        (.row true 71 [ss, .int .i64 r.gap, .int .i64 r.radius, ks, sp, .int .i64 el, .int .i64 ec, .map (some bm), .slice (some ⟨h.n + 1, 0, none⟩) (r.kills.length + 1) (r.kills.length + 1), .bool r.rad])) := by
      intro cells hc
      refine ⟨?_, ext_grow E0 (own_ge hok) _ _ hbr1 _, ?_, keeps_set (keeps_grow (keeps_rfl h) (Nat.le_refl _) _ _ (own_84 hok (by decide))) (row_84 hbr (by decide)) _⟩
      · rw [hres]; congr 1; rw [decide_eq_decide, List.length_append, List.length_singleton]; omega
      rw [hres]
      refine ⟨os, op, some (h.n + 1), _, _, _, bm, by rw [f_set, if_pos rfl], hbr1, ?_, own_other hos _ _ _ (own_sep hos hok (by decide)) (own_ne hos hbr (by decide)), own_other hop _ _ _ (own_sep hop hok (by decide)) (own_ne hop hbr (by decide)), own_grow hok E0.n _ kq hc hbr2 _, map_grow _ _ _ hbm hbm2 (own_ne' hok hbm) (by rintro rfl; rw [hbr] at hbm; cases hbm), hbm1, ?_⟩
      · show br < (growH h ok _ _).n; rw [grow_n]; omega
      · show bm < (growH h ok _ _).n; rw [grow_n]; omega
    cases ok with
    | none =>
      simp only at hko
      have o2 : ¬ br = h.n := by omega
      have o3 : ¬ br = h.n + 1 := by omega
      simp -implicitDefEqProofs [callP, spotV, e2, d0, d4, p0, hl4, hl5, hl10, hbr, hbn, hw, wKill, hko, opBuildSlice, hr6, hr1, opAppend, srcCells, maxA, o2, o3]
      intro _
      have hk0 : r.kills.flatMap killC ++ killC kq = killC kq := by rw [hko]; rfl
      have key := mkK (killC kq) (hk0.symm)
      rw [hkq, hko] at key
      exact key
    | some bk =>
      simp only at hko
      obtain ⟨hk1, hk2, hk3⟩ := hko
      obtain ⟨K, hK⟩ : ∃ K, K = r.kills.flatMap killC := ⟨_, rfl⟩
      have hKl : K.length = r.kills.length * 6 := by have := flatA_len 6 (enc := killC) (fun _ => rfl) r.kills; rw [← hK] at this; omega
      rw [← hK] at hk1
      have hmx : (r.kills.length + 1) * 48 ≤ 140737488355328 := by have := hr.2.1; omega
      have o1 : ¬ bk = h.n := by omega
      have o2 : ¬ br = h.n := by omega
      have o3 : ¬ br = h.n + 1 := by omega
      have o4 : ¬ br = bk := by rintro rfl; rw [hbr] at hk1; simp at hk1
      have e8 : K.take (r.kills.length * 6) = K := List.take_of_length_le (by omega)
      simp -implicitDefEqProofs [callP, spotV, e2, d0, d4, p0, hl4, hl5, hl10, hbr, hbn, hw, wKill, opBuildSlice, hr6, hr1, opAppend, srcCells, maxA, hk1, hKl, hmx, o1, o2, o3, o4, e8]
      intro _
      have key := mkK (K ++ killC kq) (by rw [hK])
      rw [hkq] at key
      exact key
  · obtain ⟨bn, rfl, hbn, hbn1, hbn2⟩ : ∃ bn, adn = some ⟨bn, 0, none⟩ ∧ h.f bn = .row true 3 [.int .i64 a.n, .int .i64 b.n, .int .i64 c'.n] ∧ h0.n ≤ bn ∧ bn < h.n := by
      rcases hn' with ⟨_, q⟩ | ⟨bn, q1, q2, q3, q4⟩
      · cases q
      · exact ⟨bn, q1, q2, q3, q4⟩
    have hr1 : List.range 1 = [0] := rfl
    have hr3 : List.range 3 = [0, 1, 2] := rfl
    have hr4 : List.range 4 = [0, 1, 2, 3] := rfl
    by_cases hwp : t0.text = wPole
    · rw [hwp, wPole] at d4
      have hw1 : ¬ wPole = wGap := by decide
      have hw2 : ¬ wPole = wRad := by decide
      have hw3 : ¬ wPole = wKill := by decide
      obtain ⟨pq, hpq⟩ : ∃ k : PoleR, k = ⟨a.n, b.n, c'.n⟩ := ⟨_, rfl⟩
      have hres : addR r t0 [a, b, c'] = ({ r with poles := r.poles ++ [pq] }, decide ((r.poles ++ [pq]).length ≤ 200)) := by simp [addR, hwp, hw1, hw2, hw3, hpq]
      have mkK : ∀ cells, cells = r.poles.flatMap poleC ++ poleC pq → AddP h0 h r t0 [a, b, c'] el ec ks br (.bool (decide ((r.poles.length : Int) + 1 ≤ 200))) ((growH h op (.row true 93 (poleC pq)) (.row true 93 cells)).set br
          (.row true 71 [ss, .int .i64 r.gap, .int .i64 r.radius, ks, .slice (some ⟨h.n + 1, 0, none⟩) (r.poles.length + 1) (r.poles.length + 1), .int .i64 el, .int .i64 ec, .map (some bm), sk, .bool r.rad])) := by
        intro cells hc
        refine ⟨?_, ext_grow E0 (own_ge hop) _ _ hbr1 _, ?_, keeps_set (keeps_grow (keeps_rfl h) (Nat.le_refl _) _ _ (own_84 hop (by decide))) (row_84 hbr (by decide)) _⟩
        · rw [hres]; congr 1; rw [decide_eq_decide, List.length_append, List.length_singleton]; omega
        rw [hres]
        refine ⟨os, some (h.n + 1), ok, _, _, _, bm, by rw [f_set, if_pos rfl], hbr1, ?_, own_other hos _ _ _ (own_sep hos hop (by decide)) (own_ne hos hbr (by decide)), own_grow hop E0.n _ pq hc hbr2 _, own_other hok _ _ _ (own_sep hok hop (by decide)) (own_ne hok hbr (by decide)), map_grow _ _ _ hbm hbm2 (own_ne' hop hbm) (by rintro rfl; rw [hbr] at hbm; cases hbm), hbm1, ?_⟩
        · show br < (growH h op _ _).n; rw [grow_n]; omega
        · show bm < (growH h op _ _).n; rw [grow_n]; omega
      obtain ⟨rfl, hko⟩ := id hop
      have o2 : ¬ br = h.n := by omega
      have o3 : ¬ br = h.n + 1 := by omega
      cases op with
      | none =>
        simp only at hko
        simp -implicitDefEqProofs [e2, d0, d4, hl4, hl5, hbr, hbn, hko, opBuildSlice, hr3, hr1, opAppend, srcCells, maxA, o2, o3]
        have hk0 : r.poles.flatMap poleC ++ poleC pq = poleC pq := by rw [hko]; rfl
        have key := mkK (poleC pq) (hk0.symm)
        rw [hpq, hko] at key
        exact key
      | some bk =>
        simp only at hko
        obtain ⟨hk1, hk2, hk3⟩ := hko
        obtain ⟨K, hK⟩ : ∃ K, K = r.poles.flatMap poleC := ⟨_, rfl⟩
        have hKl : K.length = r.poles.length * 3 := by have := flatA_len 3 (enc := poleC) (fun _ => rfl) r.poles; rw [← hK] at this; omega
        rw [← hK] at hk1
        have hmx : (r.poles.length + 1) * 24 ≤ 140737488355328 := by have := hr.2.2; omega
        have o1 : ¬ bk = h.n := by omega
        have o4 : ¬ br = bk := by rintro rfl; rw [hbr] at hk1; simp at hk1
        have e8 : K.take (r.poles.length * 3) = K := List.take_of_length_le (by omega)
        simp -implicitDefEqProofs [e2, d0, d4, hl4, hl5, hbr, hbn, opBuildSlice, hr3, hr1, opAppend, srcCells, maxA, hk1, hKl, hmx, o1, o2, o3, o4, e8]
        have key := mkK (K ++ poleC pq) (by rw [hK])
        rw [hpq] at key
        exact key
    · have hws : t0.text = wSeat ∨ t0.text = wWheel ∨ t0.text = wComp := by
        rcases hw with q | q
        · exact absurd q hwp
        · exact q
      have z1 : ¬ t0.text = wGap := by rcases hws with q | q | q <;> rw [q] <;> decide
      have z2 : ¬ t0.text = wRad := by rcases hws with q | q | q <;> rw [q] <;> decide
      have z3 : ¬ t0.text = wKill := by rcases hws with q | q | q <;> rw [q] <;> decide
      have y1 : ¬ t0.text = [103, 97, 112] := z1
      have y2 : ¬ t0.text = [114, 97, 100, 105, 117, 115] := z2
      have y3 : ¬ t0.text = [107, 105, 108, 108] := z3
      have y4 : ¬ t0.text = [112, 111, 108, 101] := hwp
      have f1 := find_ok a.n b.n r.seats
      simp only [keyV] at f1
      cases hp : placeAt r.seats a.n b.n with
      | some q =>
        have hres : addR r t0 [a, b, c'] = (r, false) := by simp [addR, z1, z2, z3, hwp, hp]
        rw [hp] at f1
        simp -implicitDefEqProofs [e2, d0, d4, hl4, hl5, hbr, hbn, y1, y2, y3, y4, opLookup, hbm, f1, flat2, flat1]
        exact ⟨by rw [hres], E0, by rw [hres]; exact R, keeps_rfl h⟩
      | none =>
        have f2 := where_ok a.n b.n r.seats
        rw [hp] at f1 f2
        simp only [keyV] at f2
        obtain ⟨sq, hsq⟩ : ∃ k : SeatR, k = ⟨a.n, b.n, c'.n, kindW t0.text⟩ := ⟨_, rfl⟩
        have hres : addR r t0 [a, b, c'] = ({ r with seats := r.seats ++ [sq] }, decide ((r.seats ++ [sq]).length ≤ 4096)) := by simp [addR, z1, z2, z3, hwp, hp, hsq]
        have nb1 : ¬ br = bm := by rintro rfl; rw [hbr] at hbm; cases hbm
        have nb2 : ¬ bn = bm := by rintro rfl; rw [hbn] at hbm; cases hbm
        have nb3 : ¬ bt = bm := by rintro rfl; rw [e2] at hbm; cases hbm
        obtain ⟨Om, hOm⟩ : ∃ o, o = Obj.map (ents r.seats ++ [(⟨Value.agg ⟨[.int .i64 a.n, .int .i64 b.n]⟩, .int .i64 (r.seats.length : Nat), r.seats.length⟩ : MapEntry)]).toArray (r.seats.length + 1) := ⟨_, rfl⟩
        have hOm2 : Om = .map (ents (r.seats ++ [sq])).toArray (r.seats ++ [sq]).length := by
          rw [hOm, ents_snoc, List.length_append, hsq]; rfl
        obtain ⟨M, hM⟩ : ∃ M, M = h.set bm (.obj Om) := ⟨_, rfl⟩
        have Mn : M.n = h.n := by rw [hM]; rfl
        have Mbr : M.f br = .row true 71 [ss, .int .i64 r.gap, .int .i64 r.radius, ks, sp, .int .i64 el, .int .i64 ec, .map (some bm), sk, .bool r.rad] := by rw [hM, f_set, if_neg nb1, hbr]
        have Mbm : M.f bm = .obj Om := by rw [hM, f_set, if_pos rfl]
        have Mos := hos.setNe (.obj Om) (own_ne' hos hbm)
        have Mop := hop.setNe (.obj Om) (own_ne' hop hbm)
        have Mok := hok.setNe (.obj Om) (own_ne' hok hbm)
        rw [← hM] at Mos Mop Mok
        have ME : Ext h0 M := by rw [hM]; exact E0.setOf hbm1 _
        have mkK : ∀ cells, cells = r.seats.flatMap seatC ++ seatC sq → AddP h0 h r t0 [a, b, c'] el ec ks br (.bool (decide ((r.seats.length : Int) + 1 ≤ 4096))) ((growH M os (.row true 57 (seatC sq)) (.row true 57 cells)).set br
            (.row true 71 [.slice (some ⟨M.n + 1, 0, none⟩) (r.seats.length + 1) (r.seats.length + 1), .int .i64 r.gap, .int .i64 r.radius, ks, sp, .int .i64 el, .int .i64 ec, .map (some bm), sk, .bool r.rad])) := by
          intro cells hc
          refine ⟨?_, ext_grow ME (own_ge Mos) _ _ hbr1 _, ?_, keeps_set (keeps_grow (by rw [hM]; exact keeps_set (keeps_rfl h) (obj_84 hbm) _) (by rw [Mn]; exact Nat.le_refl _) _ _ (own_84 Mos (by decide))) (row_84 hbr (by decide)) _⟩
          · rw [hres]; congr 1; rw [decide_eq_decide, List.length_append, List.length_singleton]; omega
          rw [hres]
          refine ⟨some (M.n + 1), op, ok, _, _, _, bm, by rw [f_set, if_pos rfl], hbr1, ?_, own_grow Mos ME.n _ sq hc (by rw [Mn]; exact hbr2) _, own_other Mop _ _ _ (own_sep Mop Mos (by decide)) (own_ne Mop Mbr (by decide)), own_other Mok _ _ _ (own_sep Mok Mos (by decide)) (own_ne Mok Mbr (by decide)), ?_, hbm1, ?_⟩
          · show br < (growH M os _ _).n; rw [grow_n]; omega
          · rw [map_grow _ _ _ Mbm (by rw [Mn]; exact hbm2) (own_ne' Mos Mbm) (fun q => nb1 q.symm), hOm2]
          · show bm < (growH M os _ _).n; rw [grow_n]; omega
        obtain ⟨rfl, hko⟩ := id Mos
        have o2 : ¬ br = M.n := by omega
        have o3 : ¬ br = M.n + 1 := by omega
        have Mbn : M.f bn = .row true 3 [.int .i64 a.n, .int .i64 b.n, .int .i64 c'.n] := by rw [hM, f_set, if_neg nb2, hbn]
        have Mbt : M.f bt = .row wt 84 cells := by rw [hM, f_set, if_neg nb3, e2]
        have o5 : ¬ bn = M.n := by omega
        have o6 : ¬ bn = M.n + 1 := by omega
        have o7 : ¬ bt = M.n := by omega
        have o8 : ¬ bt = M.n + 1 := by omega
        have knd := kind_ok t0.text M
        rw [hOm] at hM
        simp -implicitDefEqProofs [e2, d0, d4, hl4, hl5, hbr, hbn, y1, y2, y3, y4, hbm, f1, f2, nb1, nb2, nb3]
        rw [← hM]
        refine knd.mono ?_
        rintro r1 H2 ⟨e, rfl⟩
        replace e := e.symm
        subst e
        cases os with
        | none =>
          simp only at hko
          simp -implicitDefEqProofs [callP, Mbt, d0, d4, hl4, hl5, Mbr, Mbn, hko, opBuildSlice, hr4, hr1, opAppend, srcCells, maxA, o2, o3, o5, o6, o7, o8]
          intro _
          have hk0 : r.seats.flatMap seatC ++ seatC sq = seatC sq := by rw [hko]; rfl
          have key := mkK (seatC sq) (hk0.symm)
          rw [hsq, hko] at key
          exact key
        | some bk =>
          simp only at hko
          obtain ⟨hk1, hk2, hk3⟩ := hko
          obtain ⟨K, hK⟩ : ∃ K, K = r.seats.flatMap seatC := ⟨_, rfl⟩
          have hKl : K.length = r.seats.length * 4 := by have := flatA_len 4 (enc := seatC) (fun _ => rfl) r.seats; rw [← hK] at this; omega
          rw [← hK] at hk1
          have hmx : (r.seats.length + 1) * 32 ≤ 140737488355328 := by have := hr.1; omega
          have o1 : ¬ bk = M.n := by omega
          have o4 : ¬ br = bk := by rintro rfl; rw [Mbr] at hk1; simp at hk1
          have o9 : ¬ bn = bk := by rintro rfl; rw [Mbn] at hk1; simp at hk1
          have o10 : ¬ bt = bk := by rintro rfl; rw [Mbt] at hk1; simp at hk1
          have e8 : K.take (r.seats.length * 4) = K := List.take_of_length_le (by omega)
          simp -implicitDefEqProofs [callP, Mbt, d0, d4, hl4, hl5, Mbr, Mbn, opBuildSlice, hr4, hr1, opAppend, srcCells, maxA, hk1, hKl, hmx, o1, o2, o3, o4, o5, o6, o7, o8, o9, o10, e8]
          intro _
          have key := mkK (K ++ seatC sq) (by rw [hK])
          rw [hsq] at key
          exact key
end Go.Proofs.Yph
/- All lines of a manifest. -/
namespace Go.Proofs.Yph
open Go Go.Am
set_option maxRecDepth 20000
set_option maxHeartbeats 4000000
open T (Tok tokC tokV spotV TokS)
open V (SeatR PoleR VenR seatC poleC intC inB)
open F (FR ChA GlobOK)
def rowAt (ts : List Tok) (a : Nat) : List Tok := (ts.take (a + T.lineN (ts.drop a))).drop a
def nextAt (ts : List Tok) (a : Nat) : Nat := if a + T.lineN (ts.drop a) < ts.length then a + T.lineN (ts.drop a) + 1 else ts.length
def behAt (ts : List Tok) (el ec : Int) (k : Nat) : Int × Int := match ts[k]? with
  | some t => (t.line, t.col)
  | none => (el, ec)
def linesR (ts : List Tok) (el ec : Int) : Nat → Nat → Rd → Rd × Option (Int × Int)
  | 0, _, r => (r, none)
  | f + 1, a, r => if a < ts.length then match rowAt ts a with
      | [] => linesR ts el ec f (nextAt ts a) r
      | t0 :: rest => match lineErr (t0 :: rest) (behAt ts el ec (a + (rest.length + 1))).1 (behAt ts el ec (a + (rest.length + 1))).2 with
        | some e => (r, some e)
        | none => if (addR r t0 rest).2 then linesR ts el ec f (nextAt ts a) (addR r t0 rest).1 else ((addR r t0 rest).1, some (t0.line, t0.col))
    else (r, none)
theorem linesR_nil {ts : List Tok} {el ec : Int} {f a : Nat} {r : Rd} (ha : a < ts.length) (hr : rowAt ts a = []) : linesR ts el ec (f + 1) a r = linesR ts el ec f (nextAt ts a) r := by
  rw [linesR, if_pos ha, hr]
theorem linesR_cons {ts : List Tok} {el ec : Int} {f a : Nat} {r : Rd} {t0 : Tok} {rest : List Tok} (ha : a < ts.length) (hr : rowAt ts a = t0 :: rest) : linesR ts el ec (f + 1) a r =
    match lineErr (t0 :: rest) (behAt ts el ec (a + (rest.length + 1))).1 (behAt ts el ec (a + (rest.length + 1))).2 with
        | some e => (r, some e)
        | none => if (addR r t0 rest).2 then linesR ts el ec f (nextAt ts a) (addR r t0 rest).1 else ((addR r t0 rest).1, some (t0.line, t0.col)) := by
  rw [linesR, if_pos ha, hr]
theorem nextAt_gt {ts : List Tok} {a : Nat} (h : a < ts.length) : a < nextAt ts a ∧ nextAt ts a ≤ ts.length := by
  unfold nextAt
  split <;> omega
theorem rowAt_len {ts : List Tok} {a : Nat} (h : a < ts.length) : (rowAt ts a).length = T.lineN (ts.drop a) ∧ a + T.lineN (ts.drop a) ≤ ts.length := by
  have h1 : T.lineN (ts.drop a) ≤ (ts.drop a).length := by unfold T.lineN; exact (List.takeWhile_sublist _).length_le
  rw [List.length_drop] at h1
  refine ⟨?_, by omega⟩
  unfold rowAt
  rw [List.length_drop, List.length_take]
  omega
theorem RdH.ext {h0 h h' : Heap} {r : Rd} {el ec : Int} {ks : Value} {br : Nat} (R : RdH h0 h r el ec ks br) (E : Ext h h') : RdH h0 h' r el ec ks br := by
  obtain ⟨os, op, ok, ss, sp, sk, bm, hbr, hbr1, hbr2, hos, hop, hok, hbm, hbm1, hbm2⟩ := R
  exact ⟨os, op, ok, ss, sp, sk, bm, by rw [E.f br hbr2]; exact hbr, hbr1, Nat.lt_of_lt_of_le hbr2 E.n, hos.ext E, hop.ext E, hok.ext E, by rw [E.f bm hbm2]; exact hbm, hbm1, Nat.lt_of_lt_of_le hbm2 E.n⟩
theorem ownA_base {α : Type} {e : TypeId} {enc : α → List Value} {h0 h1 h : Heap} {v : Value} {xs : List α} (H : OwA e enc h1 h v xs) (hn : h0.n ≤ h1.n) : OwA e enc h0 h v xs := by
  obtain ⟨ad, rfl, z⟩ := H
  refine ⟨ad, rfl, ?_⟩
  rcases z with z | ⟨b, q1, q2, q3, q4⟩
  · exact .inl z
  · exact .inr ⟨b, q1, q2, Nat.le_trans hn q3, q4⟩
def rdOK (r : Rd) : Prop := r.seats.length ≤ 4096 ∧ r.kills.length ≤ 200 ∧ r.poles.length ≤ 200
theorem rdOK.small {r : Rd} (H : rdOK r) : rdSmall r := ⟨by have := H.1; omega, by have := H.2.1; omega, by have := H.2.2; omega⟩
theorem addR_ok {r : Rd} {t0 : Tok} {rest : List Tok} (H : rdOK r) (h : (addR r t0 rest).2 = true) : rdOK (addR r t0 rest).1 := by
  obtain ⟨h1, h2, h3⟩ := H
  unfold addR at h ⊢
  dsimp only at h ⊢
  by_cases c1 : t0.text = wGap
  · rw [if_pos c1]
    split <;> exact ⟨h1, h2, h3⟩
  rw [if_neg c1] at h ⊢
  by_cases c2 : t0.text = wRad
  · rw [if_pos c2]
    split <;> exact ⟨h1, h2, h3⟩
  rw [if_neg c2] at h ⊢
  by_cases c3 : t0.text = wKill
  · rw [if_pos c3] at h ⊢
    exact ⟨h1, by simpa using h, h3⟩
  rw [if_neg c3] at h ⊢
  by_cases c4 : t0.text = wPole
  · rw [if_pos c4] at h ⊢
    exact ⟨h1, h2, by simpa using h⟩
  rw [if_neg c4] at h ⊢
  split
  · exact ⟨h1, h2, h3⟩
  · rename_i hp
    rw [hp] at h
    exact ⟨by simpa using h, h2, h3⟩
theorem lineErr_none {t0 : Tok} {rest : List Tok} {bl bc : Int} (h : lineErr (t0 :: rest) bl bc = none) : ∃ bs, bnds t0.text = some bs ∧ rest.length = bs.length := by
  unfold lineErr at h
  simp only at h
  cases hw : wordB t0 with
  | none => rw [hw] at h; cases h
  | some bs =>
    rw [hw] at h
    have hb : bnds t0.text = some bs := by unfold wordB at hw; split at hw; exact hw; cases hw
    refine ⟨bs, hb, ?_⟩
    simp only [numErr] at h
    cases hc : numChk bl bc bs rest with
    | some e => rw [hc] at h; cases h
    | none =>
      rw [hc] at h
      simp only at h
      have h1 : bs.length ≤ rest.length := by
        clear h hb hw
        induction bs generalizing rest with
        | nil => simp
        | cons b r ih => cases rest with
          | nil => cases hc
          | cons t q =>
            simp only [numChk] at hc
            split at hc
            · have := ih hc; simp; omega
            · cases hc
      cases hd : rest.drop bs.length with
      | nil => have := congrArg List.length hd; rw [List.length_drop] at this; simp at this; omega
      | cons t q => rw [hd] at h; cases h
theorem tok_keep {h h' : Heap} {v : Value} {t0 : Tok} {rest : List Tok} (H : TokS h v (t0 :: rest)) (K : Keeps h h') (hn : h.n ≤ h'.n) : TokS h' v (t0 :: rest) := by
  obtain ⟨ad, c, q, z⟩ := H
  refine ⟨ad, c, q, ?_⟩
  rcases z with ⟨_, q2, _⟩ | ⟨b, off, w, cells, r, z1, z2, z3, z4, z5⟩
  · cases q2
  · exact .inr ⟨b, off, w, cells, r, z1, K b w cells z5 z2, z3, z4, Nat.lt_of_lt_of_le z5 hn⟩
theorem step_nq {σ : St} (d : Option Nat) (x : Operand) (ty yt : TypeId) (pos : String) (aft : Array Edge) (g : Option (Nat × Bool)) (hx : opnd σ x = some .nilIface) :
    stepPure PP σ ⟨d, .binOp .neq 35 x (.const .nilIface) yt, ty, pos, aft, g⟩ = some (.bool false, σ) := by
  refine stepPure_of (by simp [Op.operands, flatO_of hx rfl]; rfl) rfl ?_ rfl
  have e1 : eqGuard .neq 35 x (.const .nilIface) .nilIface .nilIface = pure () := by unfold eqGuard; simp
  have e2 : binOp .neq 35 .nilIface .nilIface = (do pure (.bool (!(← Op.equal 35 .nilIface .nilIface)))) := rfl
  have e3 : (Op.equal 35 .nilIface .nilIface).pureRun PP = some true := by
    have key : ∀ n, (Op.equalIn (n + 1) 35 .nilIface .nilIface).pureRun PP = some true := fun n => by simp [Op.equalIn, pureRun_bind, pureRun_under un35, pureRun_pure]
    exact key 9999
  have e4 : evO σ (.const .nilIface) = .nilIface := rfl
  simp only [execOp, evO_of hx, e4, e1, e2, pureRun_bind, pureRun_pure, Option.bind_some, e3]
  rfl
attribute [simp] step_nq
def LinesP (ts : List Tok) (h0 : Heap) (el ec : Int) (ks : Value) (br : Nat) (r0 : Rd) (v : Value) (h' : Heap) : Prop :=
  Ext h0 h' ∧ RdH h0 h' (linesR ts el ec (ts.length + 1) 0 r0).1 el ec ks br ∧ match (linesR ts el ec (ts.length + 1) 0 r0).2 with
    | some e => ChA h' h'.n v (errL e.1 e.2)
    | none => v = .nilIface ∧ rdOK (linesR ts el ec (ts.length + 1) 0 r0).1
def J26 (ts : List Tok) (h0 : Heap) (el ec : Int) (ks : Value) (br : Nat) (tv : Value) (r0 : Rd) (m : Nat) (σ : St) : Prop := ∃ (f a : Nat) (r : Rd), m = ts.length - a ∧ a ≤ ts.length ∧ ts.length < f + a ∧ linesR ts el ec (ts.length + 1) 0 r0 = linesR ts el ec f a r ∧ rdOK r ∧
  Ext h0 σ.m.h ∧ RdH h0 σ.m.h r el ec ks br ∧ σ.t.get 0 = some (.pointer (some ⟨br, 0, none⟩)) ∧ σ.t.get 1 = some tv ∧ σ.t.get 5 = some (.int .i64 (a : Nat))
def M26 (H : Heap) (br : Nat) (tv rv : Value) (nx : Nat) (bl bc : Int) (σ : St) : Prop := σ.m.h = H ∧ σ.t.get 0 = some (.pointer (some ⟨br, 0, none⟩)) ∧ σ.t.get 1 = some tv ∧ σ.t.get 6 = some rv ∧ σ.t.get 7 = some (.int .i64 (nx : Nat)) ∧ σ.t.get 8 = some (.pointer (some ⟨8, 0, some 0⟩)) ∧ σ.m.x.look 8 = some (27, [.int .i64 bl, .int .i64 bc])
theorem lines_ok (ts : List Tok) (hl : ts.length ≤ 1048577) (h0 h : Heap) (el ec : Int) (ks : Value) (hks : noLoc ks = true) (br : Nat) (r0 : Rd) (hr0 : rdOK r0) (tv : Value) (ht : TokS h0 tv ts) (E0 : Ext h0 h) (R : RdH h0 h r0 el ec ks br) :
    ACalls PP 26 [.pointer (some ⟨br, 0, none⟩), tv] h (LinesP ts h0 el ec ks br r0) := by
  refine acalls_of_vc mix fn26 bodyEq26 rfl (by show 2 ≤ 63; decide) ok26 ?_
  simp only [body26, Tryz.f26]
  obtain ⟨ad, c, rfl, _⟩ := id ht
  obtain ⟨n, hn⟩ : ∃ n, n = ts.length := ⟨_, rfl⟩
  simp -implicitDefEqProofs [← hn]
  rw [hn]
  refine vc_loop (J26 ts h0 el ec ks br (.slice ad ts.length c) r0) n ⟨ts.length + 1, 0, r0, by omega, by omega, by omega, rfl, hr0, E0, R, by simp, by simp, by simp⟩ ?_
  rintro m ⟨Tf, ⟨x, H⟩⟩ ⟨f, a, r, rfl, ha, hf, hlr, hok, E1, R1, g0, g1, g5⟩
  simp at E1 R1 g0 g1 g5
  have htH := ht.ext E1
  simp -implicitDefEqProofs [g0, g1, g5]
  refine condQ_of (fun hc => ?_) (fun hc => ?_) <;> simp only [decide_eq_true_eq, decide_eq_false_iff_not] at hc
  · have hal : a < ts.length := by omega
    obtain ⟨hrl, hkl⟩ := rowAt_len hal
    obtain ⟨k, hk⟩ : ∃ k, k = T.lineN (ts.drop a) := ⟨_, rfl⟩
    obtain ⟨row, hrow⟩ : ∃ row, row = rowAt ts a := ⟨_, rfl⟩
    obtain ⟨nx, hnx⟩ : ∃ nx, nx = nextAt ts a := ⟨_, rfl⟩
    have hng := nextAt_gt hal
    have hrow2 : (ts.take (a + k)).drop a = row := by rw [hrow, hk]; rfl
    have hnx2 : (if a + k < ts.length then a + k + 1 else ts.length) = nx := by rw [hnx, hk]; rfl
    rw [← hk, ← hrow] at hrl
    rw [← hk] at hkl
    rw [← hnx] at hng
    obtain ⟨os, op, ok, ss, sp, sk, bm, hbr, _⟩ := id R1
    simp -implicitDefEqProofs [g0, g1, g5, hc, hal]
    refine (T.line_ok _ ts a hal (by omega) H htH).mono ?_
    rintro v H2 ⟨e, s', hs', rfl⟩
    replace e := e.symm
    subst e
    rw [← hk, hrow2] at hs'
    rw [← hk, hnx2]
    obtain ⟨ad', c', rfl, _⟩ := id hs'
    rw [hrl]
    have w1 : IntKind.wrap .i64 ((a : Int) + (k : Int)) = ((a + k : Nat) : Int) := by rw [i64wrap (by omega)]; omega
    simp -implicitDefEqProofs [callQ, g0, g1, g5, hbr]
    intro _
    obtain ⟨bh, hbh⟩ : ∃ bh, bh = behAt ts el ec (a + k) := ⟨_, rfl⟩
    refine condQ_cut (M26 H br (.slice ad ts.length c) (.slice ad' k c') nx bh.1 bh.2) ?_ ?_
    · by_cases hak : a + k < ts.length
      · obtain ⟨t, htt⟩ : ∃ t, t = ts[a + k] := ⟨_, rfl⟩
        have hget : ts[a + k]? = some t := by rw [htt]; exact List.getElem?_eq_getElem hak
        have hbh2 : bh = (t.line, t.col) := by rw [hbh, behAt, hget]
        obtain ⟨_, b', off', w', cells', r', q1, q2, q3, q4, q5⟩ := htH.at hget
        obtain ⟨p0, p1, p4⟩ := tok_drop q3
        have spt := spot_ok t H
        simp only [tokV, tokC] at spt
        subst q1
        have k0 : (0 : Int) ≤ (a : Int) + (k : Int) := by omega
        have hak' : (a : Int) + (k : Int) < (ts.length : Int) := by omega
        have tn : ((a : Int) + (k : Int)).toNat = a + k := by omega
        simp -implicitDefEqProofs [w1, hak, hak', q2, p0, q4, k0, tn]
        refine spt.mono ?_
        rintro r1 H2 ⟨e, rfl⟩
        replace e := e.symm
        subst e
        simp -implicitDefEqProofs [callQ, spotV]
        intro _
        exact ⟨rfl, by simp, by simp, by simp, by simp, by simp, by simp [hbh2]⟩
      · have hbh2 : bh = (el, ec) := by rw [hbh, behAt, List.getElem?_eq_none (by omega)]
        have hak' : ¬ (a : Int) + (k : Int) < (ts.length : Int) := by omega
        simp -implicitDefEqProofs [w1, hak, hak']
        exact ⟨rfl, by simp, by simp, by simp, by simp, by simp, by simp [hbh2]⟩
    · clear g0 g1 g5
      rintro ⟨Tg, ⟨y, H2⟩⟩ ⟨e, g0, g1, g6, g7, g8, x8⟩
      replace e : H = H2 := e.symm
      subst e
      simp at g0 g1 g6 g7 g8 x8
      obtain ⟨f', rfl⟩ : ∃ f', f = f' + 1 := ⟨f - 1, by omega⟩
      cases row with
      | nil =>
        have hk0 : k = 0 := by simpa using hrl.symm
        subst hk0
        have hstep := hlr.trans (linesR_nil hal hrow.symm)
        rw [← hnx] at hstep
        simp -implicitDefEqProofs [g0, g1, g6, g7, g8, x8]
        exact ⟨ts.length - nx, by omega, f', nx, r, rfl, hng.2, by omega, hstep, hok, E1, R1, by simp, by simp, by simp⟩
      | cons t0 rest =>
        have hk1 : k = rest.length + 1 := by simpa using hrl.symm
        have hkne : ¬ (k : Int) = 0 := by omega
        have hstep := hlr.trans (linesR_cons hal hrow.symm)
        rw [← hnx] at hstep
        simp only [← hk1, ← hbh] at hstep
        have hkne' : ¬ k = 0 := by omega
        have hs2 := hs'
        rw [hrl] at hs2
        have nums := numbers_ok (.slice ad' k c') t0 rest bh.1 bh.2 (by omega) H hs2
        simp only [spotV] at nums
        simp -implicitDefEqProofs [g0, g1, g6, g7, g8, x8, hkne, hkne']
        refine nums.mono ?_
        rintro v H3 ⟨E3, hN⟩
        have R3 := R1.ext E3
        have E13 := E1.trans E3
        cases hle : lineErr (t0 :: rest) bh.1 bh.2 with
        | some e =>
          rw [hle] at hN hstep
          obtain ⟨E, rfl, hE⟩ := hN
          obtain ⟨be, rfl⟩ := err_shape (h := H) (a := e.1) (b := e.2) ⟨E3, hE⟩
          simp -implicitDefEqProofs [callQ, g0, g1, g6, g7, g8, x8]
          intro _
          refine ⟨E13, by rw [hstep]; exact R3, ?_⟩
          rw [hstep]
          exact hE
        | none =>
          rw [hle] at hN hstep
          obtain ⟨s3, rfl, hO3⟩ := hN
          obtain ⟨bs, hb1, hb2⟩ := lineErr_none hle
          have hO4 := ownA_base (h0 := h0) hO3 E1.n
          obtain ⟨ad3, rfl, _⟩ := id hO3
          have hadd := add_ok h0 H3 r t0 rest bs hb1 hb2 el ec ks hks br _ _ E13 R3 hok.small (hs2.ext E3) hO4
          simp -implicitDefEqProofs [callQ, g0, g1, g6, g7, g8, x8]
          intro _
          simp only [List.tail_cons, List.length_map] at hadd
          refine hadd.mono ?_
          rintro v H4 ⟨rfl, E4, R4, K4⟩
          cases hok2 : (addR r t0 rest).2 with
          | true =>
            rw [hok2, if_pos rfl] at hstep
            simp -implicitDefEqProofs [callQ, g0, g1, g6, g7, g8, x8]
            intro _
            exact ⟨ts.length - nx, by omega, f', nx, (addR r t0 rest).1, rfl, hng.2, by omega, hstep, addR_ok hok hok2, E4, R4, by simp, by simp, by simp⟩
          | false =>
            rw [hok2, if_neg (by decide)] at hstep
            simp -implicitDefEqProofs [callQ, g0, g1, g6, g7, g8, x8]
            intro hN4
            have hs4 : TokS H4 (.slice ad' k c') (t0 :: rest) := tok_keep (hs2.ext E3) K4 hN4.2.2
            have spt := spot_ok t0 H4
            simp only [tokV, tokC] at spt
            obtain ⟨_, b', off', w', cells', r', q1, q2, q3, q4, q5⟩ := hs4.at (i := 0) (t := t0) rfl
            simp only [Nat.zero_mul, Nat.add_zero] at q3 q4
            obtain ⟨p0, p1, p4⟩ := tok_drop q3
            subst q1
            have hk0 : 0 < k := by omega
            simp -implicitDefEqProofs [g0, g1, g6, g7, g8, x8, q2, p0, q4, hk0]
            refine spt.mono ?_
            rintro r1 H5 ⟨e, rfl⟩
            replace e := e.symm
            subst e
            simp -implicitDefEqProofs [callQ]
            intro _
            refine (wrong_ok t0.line t0.col H4).mono ?_
            intro E H5 hE
            obtain ⟨be, rfl⟩ := err_shape hE
            simp -implicitDefEqProofs [callQ]
            intro _
            refine ⟨E4.trans hE.1, by rw [hstep]; exact R4.ext hE.1, ?_⟩
            rw [hstep]
            exact hE.2
  · have hal : a = ts.length := by omega
    have hstep : linesR ts el ec f a r = (r, none) := by
      cases f with
      | zero => rfl
      | succ f => rw [linesR, if_neg (by omega)]
    rw [hstep] at hlr
    simp -implicitDefEqProofs [g0, g1, g5]
    refine ⟨E1, by rw [hlr]; exact R1, ?_⟩
    rw [hlr]
    exact ⟨rfl, hok⟩
end Go.Proofs.Yph
/- The reader's whole: seats, gap, kills. -/
namespace Go.Proofs.Yph
open Go Go.Am
set_option maxRecDepth 20000
set_option maxHeartbeats 4000000
open T (Tok tokC tokV spotV TokS)
open V (SeatR PoleR VenR seatC poleC intC inB IntS)
open F (FR ChA GlobOK)
def idxF (x : Int) : List Int → Nat → Int
  | [], _ => -1
  | a :: r, i => if x = a then (i : Int) else idxF x r (i + 1)
def J82 (s : Value) (l : List Int) (x : Int) (h : Heap) (m n : Nat) (σ : St) : Prop := ∃ i : Nat, n = m - i ∧ i ≤ m ∧ σ.m.h = h ∧ σ.t.get 0 = some s ∧ σ.t.get 1 = some (.int .i64 x) ∧ σ.t.get 7 = some (.int .i64 (m : Nat)) ∧ σ.t.get 8 = some (.int .i64 (i : Nat)) ∧ idxF x l 0 = idxF x (l.drop i) i
theorem index_ok (s : Value) (l : List Int) (x : Int) (hl : l.length ≤ 1073741824) (h : Heap) (hs : IntS h s l) : ACalls PP 82 [s, .int .i64 x] h (fun v h' => h' = h ∧ v = .int .i64 (idxF x l 0)) := by
  refine acalls_of_vc mix fn82 bodyEq82 rfl (by show 2 ≤ 19; decide) ok82 ?_
  simp only [body82, Tryz.f82]
  obtain ⟨ad, c, rfl⟩ := hs.shape
  obtain ⟨m, hm⟩ : ∃ m, m = l.length := ⟨_, rfl⟩
  rw [← hm] at hs ⊢
  simp -implicitDefEqProofs
  refine vc_loop (J82 (.slice ad m c) l x h m) _ ⟨0, rfl, by omega, rfl, by simp, by simp, by simp, by simp, rfl⟩ ?_
  rintro n ⟨T, ⟨y, H⟩⟩ ⟨i, rfl, hi, hH, g0, g1, g7, g8, hq⟩
  simp at hH g0 g1 g7 g8
  subst hH
  simp -implicitDefEqProofs [g0, g1, g7, g8]
  refine condQ_of (fun hc => ?_) (fun hc => ?_) <;> simp only [decide_eq_true_eq, decide_eq_false_iff_not] at hc
  · have hil : i < m := by omega
    have hti : l[i]? = some l[i] := List.getElem?_eq_getElem (by omega)
    obtain ⟨_, b, o, wb, cs, r, rfl, hb, hd, hlc, _⟩ := hs.at 1 V.intC_len hti
    obtain ⟨t, ht⟩ : ∃ t, t = l[i] := ⟨_, rfl⟩
    rw [← ht] at hd hti
    have w1 : IntKind.wrap .i64 ((i : Int) + 1) = ((i + 1 : Nat) : Int) := by rw [i64wrap (by omega)]; omega
    have hlc' : o + i + 1 ≤ cs.length := by omega
    have hdr : l.drop i = t :: l.drop (i + 1) := by rw [ht]; exact List.drop_eq_getElem_cons (by omega)
    rw [Nat.mul_one] at hd
    by_cases h1 : x = t
    · have hp : idxF x l 0 = (i : Int) := by rw [hq, hdr, idxF, if_pos h1]
      simp -implicitDefEqProofs [g0, g1, g7, g8, hil, hb, hd, hlc', intC, h1]
      rw [← h1, hp]
    · have hp : idxF x l 0 = idxF x (l.drop (i + 1)) (i + 1) := by rw [hq, hdr, idxF, if_neg h1]
      simp -implicitDefEqProofs [g0, g1, g7, g8, hil, hb, hd, hlc', intC, h1, w1]
      exact ⟨m - (i + 1), by omega, i + 1, rfl, by omega, rfl, by simp [g0], by simp [g1], by simp [g7], by simp, hp⟩
  · have hp : idxF x l 0 = -1 := by rw [hq, List.drop_of_length_le (by omega)]; rfl
    simp -implicitDefEqProofs [g0, g1, g7, g8, hp]
theorem idxF_mem (x : Int) (l : List Int) (i : Nat) : 0 ≤ idxF x l i ↔ x ∈ l := by
  induction l generalizing i with
  | nil => simp [idxF]
  | cons a r ih =>
    rw [idxF]
    split
    · rename_i h; simp [h]
    · rename_i h; rw [ih, List.mem_cons]; simp [h]
theorem contains_ok (s : Value) (l : List Int) (x : Int) (hl : l.length ≤ 1073741824) (h : Heap) (hs : IntS h s l) : ACalls PP 49 [s, .int .i64 x] h (fun v h' => h' = h ∧ v = .bool (decide (x ∈ l))) := by
  refine acalls_of_vc mix fn49 bodyEq49 rfl (by show 2 ≤ 9; decide) ok49 ?_
  simp only [body49, Tryz.f49]
  obtain ⟨ad, c, rfl⟩ := hs.shape
  simp -implicitDefEqProofs
  refine (index_ok _ l x hl h hs).mono ?_
  rintro v h' ⟨rfl, rfl⟩
  have e : decide (x ∈ l) = decide (0 ≤ idxF x l 0) := by rw [decide_eq_decide, idxF_mem]
  simp -implicitDefEqProofs [callQ, e]
def killsF (seats : List SeatR) : List KillR → List Int → List Int × Option (Int × Int)
  | [], acc => (acc, none)
  | k :: r, acc => match placeAt seats k.row k.x with
    | none => (acc, some (k.rline, k.rcol))
    | some n => if (n : Int) ∈ acc then (acc, some (k.line, k.col)) else killsF seats r (acc ++ [(n : Int)])
def wholeR (r : Rd) (el ec : Int) : List Int × Option (Int × Int) := if r.seats = [] ∨ r.gap = 0 then ([], some (el, ec)) else killsF r.seats r.kills []
theorem killsF_nil {seats : List SeatR} {acc : List Int} : killsF seats [] acc = (acc, none) := rfl
theorem killsF_none {seats : List SeatR} {k : KillR} {r : List KillR} {acc : List Int} (h : placeAt seats k.row k.x = none) : killsF seats (k :: r) acc = (acc, some (k.rline, k.rcol)) := by rw [killsF, h]
theorem killsF_twice {seats : List SeatR} {k : KillR} {r : List KillR} {acc : List Int} {n : Nat} (h : placeAt seats k.row k.x = some n) (hm : (n : Int) ∈ acc) : killsF seats (k :: r) acc = (acc, some (k.line, k.col)) := by rw [killsF, h]; simp only; rw [if_pos hm]
theorem killsF_go {seats : List SeatR} {k : KillR} {r : List KillR} {acc : List Int} {n : Nat} (h : placeAt seats k.row k.x = some n) (hm : (n : Int) ∉ acc) : killsF seats (k :: r) acc = killsF seats r (acc ++ [(n : Int)]) := by rw [killsF, h]; simp only; rw [if_neg hm]
/-- the reader in the heap, its kills its own -/
def RdK (h0 h : Heap) (r : Rd) (el ec : Int) (ks : List Int) (br : Nat) : Prop := ∃ (o : Option Nat) (kv : Value), F.OwO 3 intC h0 h o ks kv ∧ RdH h0 h r el ec kv br
theorem RdK.ext {h0 h h' : Heap} {r : Rd} {el ec : Int} {ks : List Int} {br : Nat} (R : RdK h0 h r el ec ks br) (E : Ext h h') : RdK h0 h' r el ec ks br := by
  obtain ⟨o, kv, h1, h2⟩ := R
  exact ⟨o, kv, h1.ext E, h2.ext E⟩
def WholeP (h0 : Heap) (r : Rd) (el ec : Int) (br : Nat) (v : Value) (h' : Heap) : Prop := Ext h0 h' ∧ match (wholeR r el ec).2 with
  | some e => ChA h' h'.n v (errL e.1 e.2)
  | none => v = .nilIface ∧ RdK h0 h' r el ec (wholeR r el ec).1 br
def J27 (h0 : Heap) (r : Rd) (el ec : Int) (br : Nat) (sk : Value) (n : Nat) (m : Nat) (σ : St) : Prop := ∃ (i : Nat) (ks : List Int), m = n - i ∧ i ≤ n ∧ ks.length ≤ i ∧ Ext h0 σ.m.h ∧ RdK h0 σ.m.h r el ec ks br ∧ wholeR r el ec = killsF r.seats (r.kills.drop i) ks ∧
  σ.t.get 0 = some (.pointer (some ⟨br, 0, none⟩)) ∧ σ.t.get 30 = some sk ∧ σ.t.get 31 = some (.int .i64 (n : Nat)) ∧ σ.t.get 32 = some (.int .i64 (i : Nat)) ∧ (∃ ok, F.OwO 118 killC h0 σ.m.h ok r.kills sk)
theorem whole_ok (h0 h : Heap) (r : Rd) (el ec : Int) (br : Nat) (E0 : Ext h0 h) (R : RdK h0 h r el ec [] br) (hok : rdOK r) : ACalls PP 27 [.pointer (some ⟨br, 0, none⟩)] h (WholeP h0 r el ec br) := by
  refine acalls_of_vc mix fn27 bodyEq27 rfl (by show 1 ≤ 76; decide) ok27 ?_
  simp only [body27, Tryz.f27]
  obtain ⟨o3, kv, hk3, os, op, ok, ss, sp, sk, bm, hbr, hbr1, hbr2, hos, hop, hokk, hbm, hbm1, hbm2⟩ := id R
  obtain ⟨rfl, _⟩ := id hos
  obtain ⟨rfl, _⟩ := id hokk
  obtain ⟨rfl, _⟩ := id hk3
  obtain ⟨n, hn⟩ : ∃ n, n = r.kills.length := ⟨_, rfl⟩
  have bad : (r.seats = [] ∨ r.gap = 0) → ∀ E H2, ErrP h (errL el ec) E H2 → WholeP h0 r el ec br E H2 := fun hb E H2 ⟨q1, q2⟩ => by
    have hw : wholeR r el ec = ([], some (el, ec)) := by rw [wholeR, if_pos hb]
    refine ⟨E0.trans q1, ?_⟩
    rw [hw]
    exact q2
  by_cases hb : r.seats = [] ∨ r.gap = 0
  · have wr := wrong_ok el ec h
    simp only [spotV] at wr
    by_cases h1 : r.seats = []
    · have hsl : r.seats.length = 0 := by rw [h1]; rfl
      simp -implicitDefEqProofs [hbr, hsl, h1]
      refine wr.mono ?_
      intro E H2 hE
      obtain ⟨be, rfl⟩ := err_shape hE
      simp -implicitDefEqProofs [callQ]
      intro _
      exact bad hb _ H2 hE
    · have h2 : r.gap = 0 := hb.resolve_left h1
      simp -implicitDefEqProofs [hbr, h1, h2]
      refine wr.mono ?_
      intro E H2 hE
      obtain ⟨be, rfl⟩ := err_shape hE
      simp -implicitDefEqProofs [callQ]
      intro _
      exact bad hb _ H2 hE
  · have hb1 : ¬ r.seats = [] := fun q => hb (.inl q)
    have hb2 : ¬ r.gap = 0 := fun q => hb (.inr q)
    have hw : wholeR r el ec = killsF r.seats (r.kills.drop 0) [] := by rw [wholeR, if_neg hb]; rfl
    obtain ⟨adk, hadk⟩ : ∃ a : Option Addr, a = ok.map fun b => ⟨b, 0, none⟩ := ⟨_, rfl⟩
    rw [← hadk] at hbr hokk
    simp -implicitDefEqProofs [hbr, hb1, hb2, ← hn]
    refine vc_loop (J27 h0 r el ec br (.slice adk n n) n) n ⟨0, [], by omega, by omega, by simp, E0, R, hw, by simp, by simp, by simp, by simp, ok, by rw [hn]; exact hokk⟩ ?_
    clear hbr hbr2 hos hop hokk hbm hbm2 hk3 R
    rintro m ⟨T, ⟨x, H⟩⟩ ⟨i, ks, rfl, hi, hkl, E1, R1, hw1, g0, g30, g31, g32, ok', hok'⟩
    simp at E1 R1 g0 g30 g31 g32 hok'
    have R1' := R1
    obtain ⟨o3, kv, hk3, os, op, ok, ss, sp, sk, bm, hbr, hbr1, hbr2, hos, hop, hokk, hbm, hbm1, hbm2⟩ := R1
    simp -implicitDefEqProofs [g0, g30, g31, g32]
    refine condQ_of (fun hc => ?_) (fun hc => ?_) <;> simp only [decide_eq_true_eq, decide_eq_false_iff_not] at hc
    · have hin : i < n := by omega
      have hti : r.kills[i]? = some r.kills[i] := List.getElem?_eq_getElem (by omega)
      obtain ⟨k, hk⟩ : ∃ k, k = r.kills[i] := ⟨_, rfl⟩
      rw [← hk] at hti
      have hdr : r.kills.drop i = k :: r.kills.drop (i + 1) := by rw [hk]; exact List.drop_eq_getElem_cons (by omega)
      obtain ⟨_, bk, off, wk, cells, r', rfl, hbk, hdk, hlk, _⟩ := hok'.own.sl.at 6 (fun _ => rfl) hti
      simp only [killC, List.cons_append, List.nil_append] at hdk
      have w1 : IntKind.wrap .i64 ((i : Int) + 1) = ((i + 1 : Nat) : Int) := by have := hok.2.1; rw [i64wrap (by omega)]; omega
      have f1 := find_ok k.row k.x r.seats
      simp only [keyV] at f1
      have hkl2 : ks.length ≤ 200 := by have := hok.2.1; omega
      cases hp : placeAt r.seats k.row k.x with
      | none =>
        have hw2 : wholeR r el ec = (ks, some (k.rline, k.rcol)) := by rw [hw1, hdr, killsF_none hp]
        rw [hp] at f1
        simp -implicitDefEqProofs [g0, g30, g31, g32, hin, hbk, hdk, hlk, hbr, opLookup, hbm, f1, flat2, flat1]
        have wr := wrong_ok k.rline k.rcol H
        simp only [spotV] at wr
        refine wr.mono ?_
        intro E H2 hE
        obtain ⟨be, rfl⟩ := err_shape hE
        simp -implicitDefEqProofs [callQ]
        intro _
        refine ⟨E1.trans hE.1, ?_⟩
        rw [hw2]
        exact hE.2
      | some q =>
        rw [hp] at f1
        have hcon := contains_ok kv ks (q : Nat) (by omega) H hk3.own.sl
        obtain ⟨rfl, hko⟩ := id hk3
        simp -implicitDefEqProofs [g0, g30, g31, g32, hin, hbk, hdk, hlk, hbr, opLookup, hbm, f1, flat2, flat1]
        refine hcon.mono ?_
        rintro v H2 ⟨e, rfl⟩
        replace e := e.symm
        subst e
        by_cases hm : ((q : Nat) : Int) ∈ ks
        · have hw2 : wholeR r el ec = (ks, some (k.line, k.col)) := by rw [hw1, hdr, killsF_twice hp hm]
          have wr := wrong_ok k.line k.col H
          simp only [spotV] at wr
          simp -implicitDefEqProofs [callQ, hm]
          intro _
          refine wr.mono ?_
          intro E H2 hE
          obtain ⟨be, rfl⟩ := err_shape hE
          simp -implicitDefEqProofs [callQ]
          intro _
          refine ⟨E1.trans hE.1, ?_⟩
          rw [hw2]
          exact hE.2
        · have hw2 : wholeR r el ec = killsF r.seats (r.kills.drop (i + 1)) (ks ++ [(q : Int)]) := by rw [hw1, hdr, killsF_go hp hm]
          have hr1 : List.range 1 = [0] := rfl
          have mkK : ∀ cells, cells = ks.flatMap intC ++ intC (q : Int) → (fun G => Ext h0 G ∧ RdK h0 G r el ec (ks ++ [(q : Int)]) br ∧ ∃ ok, F.OwO 118 killC h0 G ok r.kills (.slice (some ⟨bk, off, none⟩) n n)) ((growH H o3 (.row true 3 (intC (q : Int))) (.row true 3 cells)).set br
              (.row true 71 [ss, .int .i64 r.gap, .int .i64 r.radius, .slice (some ⟨H.n + 1, 0, none⟩) (ks.length + 1) (ks.length + 1), sp, .int .i64 el, .int .i64 ec, .map (some bm), sk, .bool r.rad])) := by
            intro cells hc
            refine ⟨ext_grow E1 (own_ge hk3) _ _ hbr1 _, ⟨some (H.n + 1), _, own_grow hk3 E1.n _ _ hc hbr2 _, os, op, ok, ss, sp, sk, bm, by rw [f_set, if_pos rfl], hbr1, ?_, own_other hos _ _ _ (own_sep hos hk3 (by decide)) (own_ne hos hbr (by decide)), own_other hop _ _ _ (own_sep hop hk3 (by decide)) (own_ne hop hbr (by decide)), own_other hokk _ _ _ (own_sep hokk hk3 (by decide)) (own_ne hokk hbr (by decide)), map_grow _ _ _ hbm hbm2 (own_ne' hk3 hbm) (by rintro rfl; rw [hbr] at hbm; cases hbm), hbm1, ?_⟩, ok', own_other hok' _ _ _ (own_sep hok' hk3 (by decide)) (own_ne hok' hbr (by decide))⟩
            · show br < (growH H o3 _ _).n; rw [grow_n]; omega
            · show bm < (growH H o3 _ _).n; rw [grow_n]; omega
          have o2 : ¬ br = H.n := by omega
          have o3' : ¬ br = H.n + 1 := by omega
          cases o3 with
          | none =>
            simp only at hko
            subst hko
            obtain ⟨k1, k2, k3⟩ := mkK (intC (q : Int)) rfl
            simp -implicitDefEqProofs [callQ, g0, g30, g31, g32, hbr, opBuildSlice, hr1, opAppend, srcCells, maxA, o2, o3', w1]
            intro _
            exact ⟨n - (i + 1), by omega, i + 1, [(q : Int)], rfl, by omega, by simp, k1, k2, hw2, by simp, by simp, by simp, by simp, k3⟩
          | some b3 =>
            simp only at hko
            obtain ⟨hk1, hk2, hk3'⟩ := hko
            obtain ⟨K, hK⟩ : ∃ K, K = ks.flatMap intC := ⟨_, rfl⟩
            have hKl : K.length = ks.length := by have := flatA_len 1 (enc := intC) (fun _ => rfl) ks; rw [← hK] at this; omega
            rw [← hK] at hk1
            have hmx : (ks.length + 1) * 8 ≤ 140737488355328 := by omega
            have o1 : ¬ b3 = H.n := by omega
            have o4 : ¬ br = b3 := by rintro rfl; rw [hbr] at hk1; simp at hk1
            have e8 : K.take ks.length = K := List.take_of_length_le (by omega)
            obtain ⟨k1, k2, k3⟩ := mkK (K ++ intC (q : Int)) (by rw [hK])
            simp -implicitDefEqProofs [callQ, hm, g0, g30, g31, g32, hbr, opBuildSlice, hr1, opAppend, srcCells, maxA, hk1, hKl, hmx, o1, o2, o3', o4, e8, w1]
            intro _
            exact ⟨n - (i + 1), by omega, i + 1, ks ++ [(q : Int)], rfl, by omega, by simp; omega, k1, k2, hw2, by simp, by simp, by simp, by simp, k3⟩
    · have hin : i = n := by omega
      have hw2 : wholeR r el ec = (ks, none) := by rw [hw1, List.drop_of_length_le (by omega)]; rfl
      simp -implicitDefEqProofs [g0, g30, g31, g32]
      refine ⟨E1, ?_⟩
      rw [hw2]
      exact ⟨rfl, R1'⟩
end Go.Proofs.Yph
/- The reference's reader: its small functions; what a line adds there. -/
namespace Go.Proofs.Yph
open Go Go.Am
set_option maxRecDepth 20000
set_option maxHeartbeats 4000000
open T (Tok tokC tokV spotV TokS)
open V (SeatR PoleR VenR seatC poleC intC inB IntS)
open F (FR ChA GlobOK)
theorem rspot_ok (t : Tok) (h : Heap) : ACalls PP 31 [tokV t] h (fun v h' => h' = h ∧ v = spotV t.line t.col) := by
  refine acalls_of_vc mix fn31 bodyEq31 rfl (by show 1 ≤ 8; decide) ok31 ?_
  simp only [body31, Tryz.f31]
  simp -implicitDefEqProofs [tokV, tokC, spotV]
theorem rin_ok (n lo hi : Int) (h : Heap) : ACalls PP 65 [.int .i64 n, .int .i64 lo, .int .i64 hi] h (fun v h' => h' = h ∧ v = .bool (inB n lo hi)) := by
  refine acalls_of_vc mix fn65 bodyEq65 rfl (by show 3 ≤ 15; decide) ok65 ?_
  simp only [body65, Tryz.f65]
  unfold inB
  by_cases h1 : lo ≤ n
  · simp -implicitDefEqProofs [h1]
  · simp -implicitDefEqProofs [h1]
theorem rcoord_ok (n : Int) (h : Heap) : ACalls PP 92 [.int .i64 n] h (fun v h' => h' = h ∧ v = .bool (inB n (-1048576) 1048576)) := by
  refine acalls_of_vc mix fn92 bodyEq92 rfl (by show 1 ≤ 5; decide) ok92 ?_
  simp only [body92, Tryz.f92]
  simp -implicitDefEqProofs
  refine (rin_ok n (-1048576) 1048576 h).mono ?_
  rintro v h' ⟨rfl, rfl⟩
  simp -implicitDefEqProofs [callQ]
def formV (w : List UInt8) : Int := match bnds w with
  | some bs => bs.length
  | none => -1
theorem form_ok (w : List UInt8) (h : Heap) : ACalls PP 61 [.string (B w)] h (fun v h' => h' = h ∧ v = .int .i64 (formV w)) := by
  refine acalls_of_vc mix fn61 bodyEq61 rfl (by show 1 ≤ 14; decide) ok61 ?_
  simp only [body61, Tryz.f61]
  by_cases h1 : w = [115, 101, 97, 116]
  · subst h1; simp -implicitDefEqProofs; decide
  by_cases h2 : w = [119, 104, 101, 101, 108]
  · subst h2; simp -implicitDefEqProofs; decide
  by_cases h3 : w = [99, 111, 109, 112, 97, 110, 105, 111, 110]
  · subst h3; simp -implicitDefEqProofs; decide
  by_cases h4 : w = [103, 97, 112]
  · subst h4; simp -implicitDefEqProofs; decide
  by_cases h5 : w = [114, 97, 100, 105, 117, 115]
  · subst h5; simp -implicitDefEqProofs; decide
  by_cases h6 : w = [107, 105, 108, 108]
  · subst h6; simp -implicitDefEqProofs; decide
  by_cases h7 : w = [112, 111, 108, 101]
  · subst h7; simp -implicitDefEqProofs; decide
  · have e : bnds w = none := by simp only [bnds, wSeat, wWheel, wComp, wGap, wRad, wKill, wPole, h1, h2, h3, h4, h5, h6, h7, or_self, if_false]
    simp -implicitDefEqProofs [h1, h2, h3, h4, h5, h6, h7, formV, e]
def letsV (w : List UInt8) (i n : Int) : Bool := if w = wGap then inB n 1 1048576 else if w = wRad then inB n 0 1048576 else if w = wPole ∧ i = 2 then inB n 1 1048576 else if ¬ w = wPole ∧ i = 0 then inB n 0 999 else inB n (-1048576) 1048576
theorem lets_ok (w : List UInt8) (i n : Int) (h : Heap) : ACalls PP 62 [.string (B w), .int .i64 i, .int .i64 n] h (fun v h' => h' = h ∧ v = .bool (letsV w i n)) := by
  refine acalls_of_vc mix fn62 bodyEq62 rfl (by show 3 ≤ 37; decide) ok62 ?_
  simp only [body62, Tryz.f62]
  unfold letsV wGap wRad wPole
  by_cases h1 : w = [103, 97, 112]
  · subst h1
    simp -implicitDefEqProofs
    refine (rin_ok n 1 1048576 h).mono ?_
    rintro r h' ⟨rfl, rfl⟩
    simp -implicitDefEqProofs [callQ]
  by_cases h2 : w = [114, 97, 100, 105, 117, 115]
  · subst h2
    simp -implicitDefEqProofs
    refine (rin_ok n 0 1048576 h).mono ?_
    rintro r h' ⟨rfl, rfl⟩
    simp -implicitDefEqProofs [callQ]
  by_cases h3 : w = [112, 111, 108, 101]
  · subst h3
    by_cases h4 : i = 2
    · simp -implicitDefEqProofs [h4]
      refine (rin_ok n 1 1048576 h).mono ?_
      rintro r h' ⟨rfl, rfl⟩
      simp -implicitDefEqProofs [callQ]
    · simp -implicitDefEqProofs [h4]
      refine (rcoord_ok n h).mono ?_
      rintro r h' ⟨rfl, rfl⟩
      simp -implicitDefEqProofs [callQ]
  · by_cases h4 : i = 0
    · simp -implicitDefEqProofs [h1, h2, h3, h4]
      refine (rin_ok n 0 999 h).mono ?_
      rintro r h' ⟨rfl, rfl⟩
      simp -implicitDefEqProofs [callQ]
    · simp -implicitDefEqProofs [h1, h2, h3, h4]
      refine (rcoord_ok n h).mono ?_
      rintro r h' ⟨rfl, rfl⟩
      simp -implicitDefEqProofs [callQ]
theorem lets_may {w : List UInt8} {bs : List Nat} (h : bnds w = some bs) {i f : Nat} (hi : bs[i]? = some f) (n : Int) : letsV w i n = mayF f n := by
  unfold bnds at h
  split at h
  · rename_i hw
    simp only [Option.some.injEq] at h; subst h
    have z1 : ¬ w = wGap := by rcases hw with q | q | q <;> rw [q] <;> decide
    have z2 : ¬ w = wRad := by rcases hw with q | q | q <;> rw [q] <;> decide
    have z3 : ¬ w = wPole := by rcases hw with q | q | q <;> rw [q] <;> decide
    match i, hi with
    | 0, hi => cases hi; simp [letsV, mayF, z1, z2, z3]
    | 1, hi => cases hi; simp [letsV, mayF, z1, z2, z3]
    | 2, hi => cases hi; simp [letsV, mayF, z1, z2, z3]
  split at h
  · rename_i hw
    simp only [Option.some.injEq] at h; subst h
    match i, hi with
    | 0, hi => cases hi; simp [letsV, mayF, hw]
  split at h
  · rename_i hw
    simp only [Option.some.injEq] at h; subst h
    have z1 : ¬ wRad = wGap := by decide
    match i, hi with
    | 0, hi =>
      cases hi
      have e : inB n 0 1048576 = (decide (n = 0) || inB n 1 1048576) := by
        unfold inB
        rw [Bool.eq_iff_iff]; simp; omega
      simp [letsV, mayF, z1, hw, e]
  split at h
  · rename_i hw
    simp only [Option.some.injEq] at h; subst h
    have z1 : ¬ w = wGap := by rw [hw]; decide
    have z2 : ¬ w = wRad := by rw [hw]; decide
    have z3 : ¬ w = wPole := by rw [hw]; decide
    match i, hi with
    | 0, hi => cases hi; simp [letsV, mayF, z1, z2, z3]
    | 1, hi => cases hi; simp [letsV, mayF, z1, z2, z3]
  split at h
  · rename_i hw
    simp only [Option.some.injEq] at h; subst h
    have z1 : ¬ wPole = wGap := by decide
    have z2 : ¬ wPole = wRad := by decide
    match i, hi with
    | 0, hi => cases hi; simp [letsV, mayF, z1, z2, hw]
    | 1, hi => cases hi; simp [letsV, mayF, z1, z2, hw]
    | 2, hi => cases hi; simp [letsV, mayF, z1, z2, hw]
  · cases h
def spC (p : Int × Int) : List Value := [.int .i64 p.1, .int .i64 p.2]
def Ap (a b : Option Nat) : Prop := ∀ n, a = some n → b ≠ some n
def gN (g : Int) : Int := if 0 < g then 1 else 0
def rN (b : Bool) : Int := if b then 1 else 0
/-- the reference's reader in the heap -/
structure RfH (h0 h : Heap) (r : Rd) (ks : List Int) (br : Nat) (os op ok o1 o2 o3 o4 : Option Nat) (ss sp sk s1 s2 s3 s4 : Value) : Prop where
  row : h.f br = .row true 79 [ss, .int .i64 r.gap, .int .i64 r.radius, sk, sp, .int .i64 (gN r.gap), .int .i64 (rN r.rad), s1, s2, s3, s4]
  lo : h0.n ≤ br
  hi : br < h.n
  seats : F.OwO 57 seatC h0 h os r.seats ss
  poles : F.OwO 93 poleC h0 h op r.poles sp
  kills : F.OwO 3 intC h0 h ok ks sk
  rows : F.OwO 3 intC h0 h o1 (r.kills.map (·.row)) s1
  xs : F.OwO 3 intC h0 h o2 (r.kills.map (·.x)) s2
  words : F.OwO 27 spC h0 h o3 (r.kills.map fun k => (k.line, k.col)) s3
  firsts : F.OwO 27 spC h0 h o4 (r.kills.map fun k => (k.rline, k.rcol)) s4
  ak1 : Ap ok o1
  ak2 : Ap ok o2
  a12 : Ap o1 o2
  a34 : Ap o3 o4
  nil : r.kills = [] → o1 = none ∧ o2 = none ∧ o3 = none ∧ o4 = none
def RfE (h0 h : Heap) (r : Rd) (ks : List Int) (br : Nat) : Prop := ∃ os op ok o1 o2 o3 o4 ss sp sk s1 s2 s3 s4, RfH h0 h r ks br os op ok o1 o2 o3 o4 ss sp sk s1 s2 s3 s4
theorem RfE.ext {h0 h h' : Heap} {r : Rd} {ks : List Int} {br : Nat} (R : RfE h0 h r ks br) (E : Ext h h') : RfE h0 h' r ks br := by
  obtain ⟨os, op, ok, o1, o2, o3, o4, ss, sp, sk, s1, s2, s3, s4, R⟩ := R
  exact ⟨os, op, ok, o1, o2, o3, o4, ss, sp, sk, s1, s2, s3, s4, ⟨by rw [E.f br R.hi]; exact R.row, R.lo, Nat.lt_of_lt_of_le R.hi E.n, R.seats.ext E, R.poles.ext E, R.kills.ext E, R.rows.ext E, R.xs.ext E, R.words.ext E, R.firsts.ext E, R.ak1, R.ak2, R.a12, R.a34, R.nil⟩⟩
def placeV (l : List SeatR) (row x : Int) : Int := match placeAt l row x with
  | some q => (q : Nat)
  | none => -1
def J33 (l : List SeatR) (br : Nat) (row x : Int) (h : Heap) (n m : Nat) (σ : St) : Prop := ∃ i : Nat, m = n - i ∧ i ≤ n ∧ σ.m.h = h ∧ placeAt l row x = placeF row x (l.drop i) i ∧ σ.t.get 0 = some (.pointer (some ⟨br, 0, none⟩)) ∧ σ.t.get 1 = some (.int .i64 row) ∧ σ.t.get 2 = some (.int .i64 x) ∧ σ.t.get 7 = some (.int .i64 (i : Nat))
theorem rat_ok (l : List SeatR) (hl : l.length ≤ 1073741824) (br : Nat) (ss : Value) (rest : List Value) (row x : Int) (h : Heap) (hbr : h.f br = .row true 79 (ss :: rest)) (hs : SlA 57 seatC h ss l) :
    ACalls PP 33 [.pointer (some ⟨br, 0, none⟩), .int .i64 row, .int .i64 x] h (fun v h' => h' = h ∧ v = .int .i64 (placeV l row x)) := by
  refine acalls_of_vc mix fn33 bodyEq33 rfl (by show 3 ≤ 43; decide) ok33 ?_
  simp only [body33, Tryz.f33]
  obtain ⟨ad, c, rfl⟩ := hs.shape
  obtain ⟨n, hn⟩ : ∃ n, n = l.length := ⟨_, rfl⟩
  rw [← hn] at hs hbr
  simp -implicitDefEqProofs
  refine vc_loop (J33 l br row x h n) n ⟨0, rfl, by omega, rfl, rfl, by simp, by simp, by simp, by simp⟩ ?_
  rintro m ⟨T, ⟨y, H⟩⟩ ⟨i, rfl, hi, hH, hp, g0, g1, g2, g7⟩
  simp at hH g0 g1 g2 g7
  subst hH
  simp -implicitDefEqProofs [g0, g1, g2, g7, hbr]
  refine condQ_of (fun hc => ?_) (fun hc => ?_) <;> simp only [decide_eq_true_eq, decide_eq_false_iff_not] at hc
  · have hil : i < n := by omega
    have hti : l[i]? = some l[i] := List.getElem?_eq_getElem (by omega)
    obtain ⟨_, b, o, wb, cs, r, rfl, hb, hd, hlc, _⟩ := hs.at 4 V.seatC_len hti
    obtain ⟨t, ht⟩ : ∃ t, t = l[i] := ⟨_, rfl⟩
    rw [← ht] at hd hti
    have w1 : IntKind.wrap .i64 ((i : Int) + 1) = ((i + 1 : Nat) : Int) := by rw [i64wrap (by omega)]; omega
    have hdr : l.drop i = t :: l.drop (i + 1) := by rw [ht]; exact List.drop_eq_getElem_cons (by omega)
    have hd1 : cs.drop (o + i * 4 + 1) = .int .i64 t.x :: .int .i64 t.y :: .int .i64 t.kind :: r := by rw [← List.drop_drop, hd]; rfl
    have hl1 : o + i * 4 + 1 ≤ cs.length := by omega
    have hl2 : o + i * 4 + 1 + 1 ≤ cs.length := by omega
    by_cases h1 : t.row = row
    · by_cases h2 : t.x = x
      · have hq : placeAt l row x = some i := by rw [hp, hdr, placeF, if_pos ⟨h1, h2⟩]
        simp -implicitDefEqProofs [g0, g1, g2, g7, hbr, hil, hb, hd, hd1, hl1, hl2, seatC, h1, h2]
        unfold placeV; rw [hq]
      · have hq : placeAt l row x = placeF row x (l.drop (i + 1)) (i + 1) := by rw [hp, hdr, placeF, if_neg (fun q => h2 q.2)]
        simp -implicitDefEqProofs [g0, g1, g2, g7, hbr, hil, hb, hd, hd1, hl1, hl2, seatC, h1, h2, w1]
        exact ⟨n - (i + 1), by omega, i + 1, rfl, by omega, rfl, hq, by simp [g0], by simp [g1], by simp [g2], by simp⟩
    · have hq : placeAt l row x = placeF row x (l.drop (i + 1)) (i + 1) := by rw [hp, hdr, placeF, if_neg (fun q => h1 q.1)]
      simp -implicitDefEqProofs [g0, g1, g2, g7, hbr, hil, hb, hd, hd1, hl1, hl2, seatC, h1, w1]
      exact ⟨n - (i + 1), by omega, i + 1, rfl, by omega, rfl, hq, by simp [g0], by simp [g1], by simp [g2], by simp⟩
  · have hq : placeAt l row x = none := by rw [hp, List.drop_of_length_le (by omega)]; rfl
    simp -implicitDefEqProofs [g0, g1, g2, g7, hbr]
    unfold placeV; rw [hq]
end Go.Proofs.Yph
