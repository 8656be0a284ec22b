import Derived.Test.YthglohpeijfcfaaAmV4
import Derived.Test.YthglohpeijfcfaaAmX
set_option linter.unusedVariables false
set_option linter.unusedSimpArgs false
set_option linter.unusedSectionVars false
namespace Go.Proofs.Yth
open Go Go.Am
set_option maxRecDepth 20000
set_option maxHeartbeats 2000000
def leastE : List Int := [0, -1048576, -1048576, 0, 1, 0, 0, -1048576, -1048576, 1]
def mostE : List Int := [999, 1048576, 1048576, 2, 1048576, 1048576, 0, 1048576, 1048576, 1048576]
def nameE : List (List UInt8) := [[115, 101, 97, 116, 115], [115, 101, 97, 116, 115], [115, 101, 97, 116, 115], [115, 101, 97, 116, 115], [103, 97, 112], [114, 97, 100, 105, 117, 115], [107, 105, 108, 108, 115], [112, 111, 108, 101, 115], [112, 111, 108, 101, 115], [112, 111, 108, 101, 115]]
def nE (k e : Nat) : Int := match e with
  | 0 => leastE.getD k 0
  | 1 => mostE.getD k 0
  | 2 => leastE.getD k 0 - 1
  | _ => mostE.getD k 0 + 1
def ME0 (h : Heap) (k e : Nat) (σ : St) : Prop := ∃ b5 b6 b7, Ext h σ.m.h ∧ σ.m.h.f b5 = .row true 3 (leastE.map (Value.int .i64)) ∧ σ.m.h.f b6 = .row true 3 (mostE.map (Value.int .i64)) ∧ σ.m.h.f b7 = .row true 9 (nameE.map fun l => .string (B l)) ∧ b5 < σ.m.h.n ∧ b6 < σ.m.h.n ∧ b7 < σ.m.h.n ∧
  σ.t.get 5 = some (.slice (some ⟨b5, 0, none⟩) 10 10) ∧ σ.t.get 6 = some (.slice (some ⟨b6, 0, none⟩) 10 10) ∧ σ.t.get 7 = some (.slice (some ⟨b7, 0, none⟩) 10 10) ∧
  σ.t.get 8 = some (.int .u64 (k : Nat)) ∧ σ.t.get 9 = some (.int .u64 (e : Nat))
def ME1 (h : Heap) (k e : Nat) (σ : St) : Prop := ∃ b7, Ext h σ.m.h ∧ σ.m.h.f b7 = .row true 9 (nameE.map fun l => .string (B l)) ∧ b7 < σ.m.h.n ∧
  σ.t.get 7 = some (.slice (some ⟨b7, 0, none⟩) 10 10) ∧ σ.t.get 8 = some (.int .u64 (k : Nat)) ∧ σ.t.get 9 = some (.int .u64 (e : Nat)) ∧ σ.t.get 10 = some (.int .i64 (nE k e))
def seatE (k : Nat) (n : Int) : SeatR := ⟨if k = 0 then n else 0, if k = 1 then n else 0, if k = 2 then n else 0, if k = 3 then n else 0⟩
def poleE (k : Nat) (n : Int) : PoleR := ⟨if k = 7 then n else 0, if k = 8 then n else 0, if k = 9 then n else 1⟩
def venE (k : Nat) (n : Int) : VenR := ⟨[seatE k n], if k = 4 then n else 1, if k = 5 then n else 0, [if k = 6 then n else 0], [poleE k n]⟩
def ME2 (h : Heap) (k e : Nat) (n : Int) (σ : St) : Prop := ∃ b7 bk, Ext h σ.m.h ∧ σ.m.h.f b7 = .row true 9 (nameE.map fun l => .string (B l)) ∧ b7 < σ.m.h.n ∧ σ.m.h.f bk = .row true 3 [.int .i64 (if k = 6 then n else 0)] ∧ bk < σ.m.h.n ∧
  σ.t.get 7 = some (.slice (some ⟨b7, 0, none⟩) 10 10) ∧ σ.t.get 8 = some (.int .u64 (k : Nat)) ∧ σ.t.get 9 = some (.int .u64 (e : Nat)) ∧ σ.t.get 11 = some (.pointer (some ⟨11, 0, some 0⟩)) ∧ σ.t.get 12 = some (.pointer (some ⟨12, 0, some 0⟩)) ∧ σ.t.get 13 = some (.pointer (some ⟨13, 0, some 0⟩)) ∧
  σ.m.x.look 11 = some (34, seatC (seatE k n)) ∧ σ.m.x.look 12 = some (39, poleC (poleE k n)) ∧ σ.m.x.look 13 = some (26, [.slice none 0 0, .int .i64 (venE k n).gap, .int .i64 (venE k n).radius, .slice (some ⟨bk, 0, none⟩) 1 1, .slice none 0 0])
def ME3 (h : Heap) (k e : Nat) (n : Int) (σ : St) : Prop := ∃ b7 cs, Ext h σ.m.h ∧ σ.m.h.f b7 = .row true 9 (nameE.map fun l => .string (B l)) ∧ b7 < σ.m.h.n ∧ VenC σ.m.h (venE k n) cs ∧
  σ.t.get 7 = some (.slice (some ⟨b7, 0, none⟩) 10 10) ∧ σ.t.get 8 = some (.int .u64 (k : Nat)) ∧ σ.t.get 9 = some (.int .u64 (e : Nat)) ∧ σ.t.get 13 = some (.pointer (some ⟨13, 0, some 0⟩)) ∧ σ.m.x.look 13 = some (26, cs)
theorem sl1 {α : Type} {e : TypeId} {enc : α → List Value} {h : Heap} {b : Nat} {x : α} (hf : h.f b = .row true e (enc x)) (hb : b < h.n) : SlA e enc h (.slice (some ⟨b, 0, none⟩) 1 1) [x] :=
  ⟨_, _, rfl, fun q => by simp at q, .inr ⟨b, 0, true, _, [], rfl, hf, by simp, by simp, hb⟩⟩
theorem edges_law (k e : Nat) (hk : k < 10) (he : e < 4) : wrongV (venE k (nE k e)) = if 1 < e then nameE.getD k [] else [] := by
  have hkk : k = 0 ∨ k = 1 ∨ k = 2 ∨ k = 3 ∨ k = 4 ∨ k = 5 ∨ k = 6 ∨ k = 7 ∨ k = 8 ∨ k = 9 := by omega
  have hee : e = 0 ∨ e = 1 ∨ e = 2 ∨ e = 3 := by omega
  rcases hkk with rfl | rfl | rfl | rfl | rfl | rfl | rfl | rfl | rfl | rfl <;> rcases hee with rfl | rfl | rfl | rfl <;> decide
theorem edges_ok (told : ∀ h, ACalls PP 10 [] h (fun v h' => Ext h h' ∧ v = .bool true)) (part edge : Int) (h : Heap) : ACalls PP 5 [.int .i64 part, .int .i64 edge] h (fun v _ => v = .bool true) := by
  refine acalls_of_vc mix fn5 bodyEq5 rfl (by show 2 ≤ 117; decide) ok5 ?_
  simp only [body5, Try.f5]
  obtain ⟨k, hk, hk10⟩ : ∃ k : Nat, (part % 18446744073709551616).tmod 10 = (k : Int) ∧ k < 10 := by
    refine ⟨((part % 18446744073709551616) % 10).toNat, ?_, by omega⟩
    rw [Int.tmod_eq_emod_of_nonneg (by omega)]; omega
  obtain ⟨e, he, he4⟩ : ∃ e : Nat, (edge % 18446744073709551616).tmod 4 = (e : Int) ∧ e < 4 := by
    refine ⟨((edge % 18446744073709551616) % 4).toNat, ?_, by omega⟩
    rw [Int.tmod_eq_emod_of_nonneg (by omega)]; omega
  have w1 : IntKind.wrap .u64 (k : Int) = (k : Int) := u64wrap (by omega)
  have w2 : IntKind.wrap .u64 (e : Int) = (e : Int) := u64wrap (by omega)
  have hr10 : List.range 10 = [0, 1, 2, 3, 4, 5, 6, 7, 8, 9] := rfl
  have hr4 : List.range 4 = [0, 1, 2, 3] := rfl
  have hkk : k = 0 ∨ k = 1 ∨ k = 2 ∨ k = 3 ∨ k = 4 ∨ k = 5 ∨ k = 6 ∨ k = 7 ∨ k = 8 ∨ k = 9 := by omega
  have hee : e = 0 ∨ e = 1 ∨ e = 2 ∨ e = 3 := by omega
  refine vc_cutAt 5 (ME0 h k e) ?_ ?_
  · simp only [head_s, head_0]
    simp -implicitDefEqProofs [opBuildSlice, hr10, u64wrap_mod, hk, he, w1, w2]
    exact ⟨h.n, h.n + 1, h.n + 1 + 1, ((Ext.new h _).newOf _).newOf _, by simp [leastE] <;> omega, by simp [mostE] <;> omega, by simp [nameE], by simp <;> omega, by simp <;> omega, by simp <;> omega, by simp, by simp, by simp, by simp, by simp⟩
  rintro ⟨T, ⟨x, H⟩⟩ ⟨b5, b6, b7, E, f5, f6, f7, l5, l6, l7, g5, g6, g7, g8, g9⟩
  simp at E f5 f6 f7 l5 l6 l7 g5 g6 g7 g8 g9
  simp only [tail_s, tail_0]
  refine vc_cutAt 1 (ME1 h k e) ?_ ?_
  · simp only [head_s, head_0]
    have hb7 : ¬ b7 = H.n := by omega
    obtain ⟨lo, hlo⟩ : ∃ z, z = leastE.getD k 0 := ⟨_, rfl⟩
    obtain ⟨hi, hhi⟩ : ∃ z, z = mostE.getD k 0 := ⟨_, rfl⟩
    have hB : -1048576 ≤ lo ∧ lo ≤ 1 ∧ 0 ≤ hi ∧ hi ≤ 1048576 := by
      rw [hlo, hhi]
      rcases hkk with rfl | rfl | rfl | rfl | rfl | rfl | rfl | rfl | rfl | rfl <;> decide
    obtain ⟨L5, hL5⟩ : ∃ z, z = leastE.map (Value.int .i64) := ⟨_, rfl⟩
    obtain ⟨L6, hL6⟩ : ∃ z, z = mostE.map (Value.int .i64) := ⟨_, rfl⟩
    rw [← hL5] at f5
    rw [← hL6] at f6
    have n5 : L5.length = 10 := by rw [hL5]; rfl
    have n6 : L6.length = 10 := by rw [hL6]; rfl
    have d5 : (L5.drop k).take 1 = [.int .i64 lo] := by
      rw [hL5, hlo]
      rcases hkk with rfl | rfl | rfl | rfl | rfl | rfl | rfl | rfl | rfl | rfl <;> rfl
    have d6 : (L6.drop k).take 1 = [.int .i64 hi] := by
      rw [hL6, hhi]
      rcases hkk with rfl | rfl | rfl | rfl | rfl | rfl | rfl | rfl | rfl | rfl <;> rfl
    have w3 : IntKind.wrap .i64 (lo - 1) = lo - 1 := i64wrap (by omega)
    have w4 : IntKind.wrap .i64 (hi + 1) = hi + 1 := i64wrap (by omega)
    have hk1 : k + 1 ≤ 10 := by omega
    have hk2 : (k : Int) < 10 := by omega
    rcases hee with rfl | rfl | rfl | rfl <;>
    · simp -implicitDefEqProofs [opBuildSlice, hr4, g5, g6, g7, g8, g9, f5, f6, hk2, n5, n6, d5, d6, w3, w4, hk1]
      exact ⟨b7, E.newOf _, by simp [hb7, f7], by simp <;> omega, by simp, by simp, by simp, by simp [nE, hlo, hhi]⟩
  rintro ⟨T, ⟨x, H⟩⟩ ⟨b7, E, f7, l7, g7, g8, g9, g10⟩
  simp at E f7 l7 g7 g8 g9 g10
  simp only [tail_s, tail_0]
  obtain ⟨n, hn⟩ : ∃ n, n = nE k e := ⟨_, rfl⟩
  have hnB : -1048577 ≤ n ∧ n ≤ 1048577 := by
    rw [hn]
    rcases hkk with rfl | rfl | rfl | rfl | rfl | rfl | rfl | rfl | rfl | rfl <;> rcases hee with rfl | rfl | rfl | rfl <;> decide
  rw [← hn] at g10
  have hb7 : ¬ b7 = H.n := by omega
  have hr1 : List.range 1 = [0] := rfl
  refine vc_cutAt 4 (ME2 h k e n) ?_ ?_
  · simp only [head_s, head_0]
    rcases hkk with rfl | rfl | rfl | rfl | rfl | rfl | rfl | rfl | rfl | rfl <;>
    · simp -implicitDefEqProofs [opBuildSlice, hr1, g7, g8, g9, g10]
      refine ⟨b7, H.n, ?_, by simp [hb7, f7], by simp <;> omega, by simp, by simp, by simp, by simp, by simp, by simp, by simp, by simp, by simp [seatE, seatC], by simp [poleE, poleC], by simp [venE]⟩
      first
        | exact E.newOf _
        | exact (E.newOf _).setOf E.n _
  clear g7 g8 g9 g10 f7 l7 hb7 E
  rintro ⟨T, ⟨x, H⟩⟩ ⟨b7, bk, E, f7, l7, fk, lk, g7, g8, g9, g11, g12, g13, x11, x12, x13⟩
  simp at E f7 l7 fk lk g7 g8 g9 g11 g12 g13 x11 x12 x13
  simp only [tail_s, tail_0]
  obtain ⟨s, hs⟩ : ∃ s, s = seatE k n := ⟨_, rfl⟩
  obtain ⟨p, hp⟩ : ∃ p, p = poleE k n := ⟨_, rfl⟩
  obtain ⟨gp, hgp⟩ : ∃ p, p = (venE k n).gap := ⟨_, rfl⟩
  obtain ⟨rd, hrd⟩ : ∃ p, p = (venE k n).radius := ⟨_, rfl⟩
  rw [← hs] at x11
  rw [← hp] at x12
  rw [← hgp, ← hrd] at x13
  have hr3 : List.range 3 = [0, 1, 2] := rfl
  refine vc_cutAt 1 (ME3 h k e n) ?_ ?_
  · simp only [head_s, head_0]
    simp -implicitDefEqProofs [g7, g8, g9, g11, g12, g13, x11, x12, x13]
    have fin : ∀ H' bs bp, Ext H H' → H'.f bs = .row true 34 (seatC s) → H'.f bp = .row true 39 (poleC p) → bs < H'.n → bp < H'.n →
        VenC H' (venE k n) [.slice (some ⟨bs, 0, none⟩) 1 1, .int .i64 gp, .int .i64 rd, .slice (some ⟨bk, 0, none⟩) 1 1, .slice (some ⟨bp, 0, none⟩) 1 1] := by
      intro H' bs bp E' h1 h2 h3 h4
      refine ⟨_, _, _, by rw [hgp, hrd], ?_, ?_, ?_⟩
      · rw [hs] at h1; exact sl1 h1 h3
      · exact (sl1 (enc := intC) fk lk).ext E'
      · rw [hp] at h2; exact sl1 h2 h4
    rw [altQ_cons, altQ_cons, altQ_cons, altQ_nil]
    have hb7 : ¬ b7 = H.n := by omega
    have hb8 : ¬ b7 = H.n + 1 := by omega
    refine ⟨?_, ?_, ?_, trivial⟩ <;>
    · simp -implicitDefEqProofs [opBuildSlice, hr1, hr3, hr4, seatC, poleC, g7, g8, g9, g11, g12, g13, x11, x12, x13]
      first
        | (refine ⟨b7, _, (E.newOf _).newOf _, by simp [hb7, hb8, f7], by simp <;> omega, fin _ H.n (H.n + 1) ((Ext.new _ _).newOf _) ?_ ?_ ?_ ?_, by simp, by simp, by simp, by simp, by simp⟩ <;> simp [seatC, poleC] <;> omega)
        | (refine ⟨b7, _, (E.newOf _).newOf _, by simp [hb7, hb8, f7], by simp <;> omega, fin _ (H.n + 1) H.n ((Ext.new _ _).newOf _) ?_ ?_ ?_ ?_, by simp, by simp, by simp, by simp, by simp⟩ <;> simp [seatC, poleC] <;> omega)
  clear g7 g8 g9 g11 g12 g13 x11 x12 x13 f7 l7 E
  rintro ⟨T, ⟨x, H⟩⟩ ⟨b7, cs, E, f7, l7, hV, g7, g8, g9, g13, x13⟩
  simp at E f7 l7 hV g7 g8 g9 g13 x13
  simp only [tail_s, tail_0]
  obtain ⟨L7, hL7⟩ : ∃ z, z = nameE.map fun l => Value.string (B l) := ⟨_, rfl⟩
  rw [← hL7] at f7
  have n7 : L7.length = 10 := by rw [hL7]; rfl
  have d7 : (L7.drop k).take 1 = [.string (B (nameE.getD k []))] := by
    rw [hL7]
    rcases hkk with rfl | rfl | rfl | rfl | rfl | rfl | rfl | rfl | rfl | rfl <;> rfl
  have hk1 : k + 1 ≤ 10 := by omega
  have hk2 : (k : Int) < 10 := by omega
  have hsm : venSmall (venE k n) := ⟨by simp [venE], by simp [venE], by simp [venE]⟩
  have law := edges_law k e hk10 he4
  rw [← hn] at law
  obtain ⟨s1, k1, p1, rfl, v1, v2, v3⟩ := id hV
  by_cases h1 : 1 < e
  · have h1' : (1 : Int) < (e : Int) := by omega
    rw [if_pos h1] at law
    obtain ⟨nm, hnm⟩ : ∃ nm, nm = nameE.getD k [] := ⟨_, rfl⟩
    have hne : nm ≠ [] := by
      rw [hnm]
      rcases hkk with rfl | rfl | rfl | rfl | rfl | rfl | rfl | rfl | rfl | rfl <;> decide
    rw [← hnm] at law d7
    have hmay : mayV (venE k n) = false := by unfold mayV; rw [law]; simpa using hne
    simp -implicitDefEqProofs [g7, g8, g9, g13, x13, f7, n7, d7, hk1, hk2, h1']
    refine (told H).mono ?_
    rintro v H' ⟨E1, rfl⟩
    simp -implicitDefEqProofs [callQ, g7, g8, g9, g13, x13]
    intro _
    refine (wrong_ok _ _ hsm H' (hV.ext E1)).mono ?_
    rintro r H2 ⟨rfl, rfl⟩
    rw [law]
    simp -implicitDefEqProofs [callQ, g7, g8, g9, g13, x13]
    intro _
    refine (may_ok _ _ hsm _ (hV.ext E1)).mono ?_
    rintro r H3 ⟨rfl, rfl⟩
    rw [hmay]
    simp -implicitDefEqProofs [callQ, g7, g8, g9, g13, x13, hne]
  · have h1' : ¬ (1 : Int) < (e : Int) := by omega
    rw [if_neg h1] at law
    have hmay : mayV (venE k n) = true := by unfold mayV; rw [law]; rfl
    simp -implicitDefEqProofs [g7, g8, g9, g13, x13, f7, n7, d7, hk1, hk2, h1']
    refine (told H).mono ?_
    rintro v H' ⟨E1, rfl⟩
    simp -implicitDefEqProofs [callQ, g7, g8, g9, g13, x13]
    intro _
    refine (wrong_ok _ _ hsm H' (hV.ext E1)).mono ?_
    rintro r H2 ⟨rfl, rfl⟩
    rw [law]
    simp -implicitDefEqProofs [callQ, g7, g8, g9, g13, x13]
    intro _
    refine (may_ok _ _ hsm _ (hV.ext E1)).mono ?_
    rintro r H3 ⟨rfl, rfl⟩
    rw [hmay]
    simp -implicitDefEqProofs [callQ, g7, g8, g9, g13, x13]
end Go.Proofs.Yth
