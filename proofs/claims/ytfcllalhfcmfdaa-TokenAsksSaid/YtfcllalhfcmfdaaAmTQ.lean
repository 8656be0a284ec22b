import Derived.Test.YtfcllalhfcmfdaaAmTP
set_option linter.unusedVariables false
set_option linter.unusedSimpArgs false
set_option linter.unusedSectionVars false
namespace Go.Proofs.Ytf
open Go Go.Am
set_option maxRecDepth 20000
set_option linter.unusedSimpArgs false
set_option maxHeartbeats 2000000
attribute [local simp] idB
attribute [local simp ↓ high] vc_id
/-- Next at any place -/
def nextA (l : List UInt8) (a : Int) (ln col : Int) : Value := if 0 ≤ a ∧ a ≤ l.length then nxV (nextV l a.toNat ln col) else .tuple #[tokV zTok, .int .i64 a, spotV ln col, .int .i64 1]
structure NA where
  tok : Tok
  to : Int
  ln : Int
  col : Int
  code : Int
theorem nextA_ex (l : List UInt8) (a : Int) (ln col : Int) : ∃ X : NA, nextA l a ln col = .tuple #[tokV X.tok, .int .i64 X.to, spotV X.ln X.col, .int .i64 X.code] := by
  unfold nextA
  split
  · exact ⟨⟨(nextV l a.toNat ln col).tok, (nextV l a.toNat ln col).to, (nextV l a.toNat ln col).ln, (nextV l a.toNat ln col).col, (nextV l a.toNat ln col).code⟩, rfl⟩
  · exact ⟨⟨zTok, a, ln, col, 1⟩, rfl⟩
theorem next_any (l : List UInt8) (a : Int) (ln col : Int) (hl : l.length ≤ 1073741824) (hln : 0 ≤ ln ∧ ln ≤ 4294967296) (hcol : 0 ≤ col ∧ col ≤ 2147483648) (h : Heap) :
    ACalls PP 9 [.string (B l), .int .i64 a, spotV ln col] h (fun v h' => Ext h h' ∧ v = nextA l a ln col) := by
  by_cases hin : 0 ≤ a ∧ a ≤ l.length
  · obtain ⟨n, rfl⟩ : ∃ n : Nat, a = n := ⟨a.toNat, by omega⟩
    rw [nextA, if_pos hin]
    exact next_ok l n ln col hl (by omega) hln hcol h
  · rw [nextA, if_neg hin]
    exact next_bad l a ln col (by omega) h
theorem rnext_any (l : List UInt8) (a : Int) (ln col : Int) (hl : l.length ≤ 1073741824) (hln : 0 ≤ ln ∧ ln ≤ 4294967296) (hcol : 0 ≤ col ∧ col ≤ 2147483648) (h : Heap) :
    ACalls PP 10 [.string (B l), .int .i64 a, spotV ln col] h (fun v h' => Ext h h' ∧ v = nextA l a ln col) := by
  by_cases hin : 0 ≤ a ∧ a ≤ l.length
  · obtain ⟨n, rfl⟩ : ∃ n : Nat, a = n := ⟨a.toNat, by omega⟩
    rw [nextA, if_pos hin]
    exact rnext_ok l n ln col hl (by omega) hln hcol h
  · rw [nextA, if_neg hin]
    exact rnext_bad l a ln col (by omega) h
def J3 (sv : Value) (l : List Int) (ln col : Int) (h : Heap) (n : Nat) (σ : St) : Prop := ∃ (i : Nat) (bs : List UInt8) (a : Int), n = 2 - i ∧ i ≤ 2 ∧ bs.length ≤ 500 ∧ (-9223372036854775808 ≤ a ∧ a ≤ 9223372036854775807) ∧ Ext h σ.m.h ∧
  σ.t.get 0 = some (.string (B bs)) ∧ σ.t.get 1 = some sv ∧ σ.t.get 2 = some (.int .i64 a) ∧ σ.t.get 11 = some (.pointer (some ⟨11, 0, some 0⟩)) ∧ σ.t.get 12 = some (.int .i64 (i : Nat)) ∧ σ.m.x.look 11 = some (25, [.int .i64 ln, .int .i64 col])
theorem asks_ok (bs : List UInt8) (sv : Value) (l : List Int) (a line col : Int) (ha : -9223372036854775808 ≤ a ∧ a ≤ 9223372036854775807) (hl : l.length ≤ 1152921504606846976) (h : Heap) (hs : IntsA h sv l) :
    ACalls PP 3 [.string (B bs), sv, .int .i64 a, .int .i64 line, .int .i64 col] h (fun v _ => v = .bool true) := by
  refine acalls_of_vc mix fn3 bodyEq3 rfl (by show 5 ≤ 140; decide) ok3 ?_
  simp only [body3, Try.f3]
  have hnl : noLoc sv = true := by obtain ⟨ad, c, rfl, _⟩ := hs; rfl
  obtain ⟨ad0, c0, hsv⟩ : ∃ ad c, sv = .slice ad l.length c := by obtain ⟨ad, c, e, _⟩ := hs; exact ⟨ad, c, e⟩
  subst hsv
  by_cases hc0 : (200 : Int) < (bs.length : Int)
  · simp [hc0]
    refine (told_ok h).mono ?_
    rintro v h' ⟨_, rfl⟩
    simp [callQ]
  · simp [hc0, andI_1023]
    obtain ⟨p1, hp1⟩ : ∃ p : Int, p = line % 1024 := ⟨_, rfl⟩
    obtain ⟨p2, hp2⟩ : ∃ p : Int, p = col % 1024 := ⟨_, rfl⟩
    rw [← hp1, ← hp2]
    refine vc_loop (J3 (.slice ad0 l.length c0) l p1 p2 h) _ ⟨0, bs, a, rfl, by omega, by omega, ha, Ext.rfl' _, by simp, by simp, by simp, by simp, by simp, by simp⟩ ?_
    clear hc0 ha
    rintro n ⟨T, ⟨x, H⟩⟩ ⟨i, bs, a, rfl, hi, hbl, ha, hE, g0, g1, g2, g11, g12, x11⟩
    simp at g0 g1 g2 g11 g12 x11 hE
    simp [g0, g1, g2, g11, g12, x11]
    rcases (by omega : (i : Int) < 2 ∨ i = 2) with hi2 | rfl
    · simp [hi2, g0, g1, g2, g11, g12, x11]
      refine (next_any bs a p1 p2 (by omega) (by omega) (by omega) H).mono ?_
      rintro v h1 ⟨E1, rfl⟩
      obtain ⟨X, hX⟩ := nextA_ex bs a p1 p2
      rw [hX]
      simp [callQ, tokV, tokC, spotV]
      intro _
      refine (rnext_any bs a p1 p2 (by omega) (by omega) (by omega) h1).mono ?_
      rintro v h2 ⟨E2, rfl⟩
      rw [hX]
      simp [callQ, tokV, tokC, spotV]
      intro _
      refine (all_ok bs (by omega) h2).mono ?_
      rintro v h3 ⟨E3, s1, hs1, rfl⟩
      have htl : (allV bs).ts.length ≤ 501 := by have := allL_len bs (bs.length + 1) 0 1 1; unfold allV; omega
      obtain ⟨Z, hZ⟩ : ∃ Z, Z = allV bs := ⟨_, rfl⟩
      rw [← hZ] at hs1 htl ⊢
      have hs1 := hs1.tokS
      obtain ⟨ad1, c1, rfl⟩ : ∃ ad c, s1 = .slice ad Z.ts.length c := by obtain ⟨ad, c, e, _⟩ := hs1; exact ⟨ad, c, e⟩
      simp [callQ, spotV]
      intro _
      refine (rall_ok bs (by omega) h3).mono ?_
      rintro v h4 ⟨E4, s2, hs2, rfl⟩
      rw [← hZ] at hs2 ⊢
      have hs2 := hs2.tokS
      have hs1 := hs1.ext E4
      obtain ⟨ad2, c2, rfl⟩ : ∃ ad c, s2 = .slice ad Z.ts.length c := by obtain ⟨ad, c, e, _⟩ := hs2; exact ⟨ad, c, e⟩
      simp [callQ, spotV]
      intro _
      refine (same_ok _ _ Z.ts (by omega) h4 hs1 hs2).mono ?_
      rintro v h5 ⟨rfl, rfl⟩
      simp [callQ]
      intro _
      refine (line_any _ Z.ts a (by omega) h5 hs2).mono ?_
      rintro v h6 ⟨rfl, s3, hs3, rfl⟩
      obtain ⟨LL, hLL⟩ : ∃ LL, LL = lineL Z.ts a := ⟨_, rfl⟩
      have hLl : LL.length ≤ 501 := by
        rw [hLL, lineL]; split
        · rw [List.length_drop, List.length_take]; omega
        · simp
      rw [← hLL] at hs3
      obtain ⟨ad3, c3, rfl⟩ : ∃ ad c, s3 = .slice ad LL.length c := by obtain ⟨ad, c, e, _⟩ := hs3; exact ⟨ad, c, e⟩
      simp [callQ]
      intro _
      refine (rline_any _ Z.ts a (by omega) h6 hs2).mono ?_
      rintro v h7 ⟨rfl, s4, hs4, rfl⟩
      rw [← hLL] at hs4
      obtain ⟨ad4, c4, rfl⟩ : ∃ ad c, s4 = .slice ad LL.length c := by obtain ⟨ad, c, e, _⟩ := hs4; exact ⟨ad, c, e⟩
      simp [callQ]
      intro _
      refine (same_ok _ _ LL (by omega) h7 hs3 hs4).mono ?_
      rintro v h8 ⟨rfl, rfl⟩
      simp [callQ]
      intro _
      have hE5 := (((hE.trans E1).trans E2).trans E3).trans E4
      refine (text_ok (.slice ad0 l.length c0) l 25 (by omega) hl h8 (IntsA.ext hs hE5)).mono ?_
      rintro v h9 ⟨E9, rfl⟩
      obtain ⟨cs, hcs⟩ : ∃ cs, cs = textL (l.take 25) := ⟨_, rfl⟩
      have hcl : cs.length ≤ 500 := by have := textL_len (l.take 25); rw [← hcs, List.length_take] at this; omega
      rw [← hcs]
      obtain ⟨q, hq⟩ : ∃ q : Int, q = a % 18446744073709551616 := ⟨_, rfl⟩
      obtain ⟨m, hm⟩ : ∃ m : Nat, m = cs.length + 1 := ⟨_, rfl⟩
      obtain ⟨r, hr⟩ : ∃ r : Int, r = q % (m : Int) := ⟨_, rfl⟩
      have hr1 : 0 ≤ r ∧ r < m := by rw [hr]; exact ⟨Int.emod_nonneg _ (by omega), Int.emod_lt_of_pos _ (by omega)⟩
      have e1 : IntKind.wrap .u64 a = q := by rw [u64wrap_mod, hq]
      have e2 : IntKind.wrap .i64 ((cs.length : Int) + 1) = (m : Int) := by rw [i64wrap (by omega)]; omega
      have e3 : IntKind.wrap .u64 (m : Int) = (m : Int) := u64wrap (by omega)
      have e4 : q.tmod (m : Int) = r := by rw [Int.tmod_eq_emod_of_nonneg (by omega), hr]
      have e5 : IntKind.wrap .i64 r = r := i64wrap (by omega)
      have e6 : IntKind.wrap .i64 ((i : Int) + 1) = ((i + 1 : Nat) : Int) := by rw [i64wrap (by omega)]; omega
      have hm0 : ¬ m = 0 := by omega
      simp [callQ, g0, g1, g2, g11, g12, x11, e1, e2, e3, e4, e5, e6, hm0]
      intro _
      exact ⟨2 - (i + 1), by omega, i + 1, cs, r, rfl, by omega, hcl, by omega, hE5.trans E9, by simp, by simp [g1], by simp, by simp [g11], by simp, by simp [x11]⟩
    · simp [g0, g1, g2, g11, g12, x11]
      refine (told_ok H).mono ?_
      rintro v h' ⟨_, rfl⟩
      simp [callQ]
end Go.Proofs.Ytf
