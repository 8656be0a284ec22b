import Derived.Test.YtfcllalhfcmfdaaAmT9
import Derived.Test.YtfcllalhfcmfdaaAmR
set_option linter.unusedVariables false
set_option linter.unusedSimpArgs false
set_option linter.unusedSectionVars false
namespace Go.Proofs.Ytf
open Go Go.Am
set_option maxRecDepth 20000
set_option linter.unusedSimpArgs false
set_option maxHeartbeats 2000000
def pieces : List (List UInt8) := [[115, 101, 97, 116], [32], [53], [45, 51], [10], [35, 32, 120, 10], [119, 104, 101, 101, 108], [9], [50, 49, 52, 55, 52, 56, 51, 54, 52, 55], [50, 49, 52, 55, 52, 56, 51, 54, 52, 56], [45, 50, 49, 52, 55, 52, 56, 51, 54, 52, 56], [45, 50, 49, 52, 55, 52, 56, 51, 54, 52, 57], [45], [97, 49], [49, 97], [49, 45], [59], [195, 169], [103, 97, 112], [107, 105, 108, 108], [112, 111, 108, 101], [13], [35], [48], [99, 111, 109, 112, 97, 110, 105, 111, 110], [57, 57, 57, 57, 57, 57, 57, 57, 57, 57, 57, 57, 57, 57, 57, 57, 57, 57, 57, 57], [65], [32, 32], [49], [50]]
def pieceN (x : Int) : Nat := ((x % 18446744073709551616) % 30).toNat
def piece (x : Int) : List UInt8 := pieces.getD (pieceN x) []
def textL (l : List Int) : List UInt8 := l.flatMap piece
theorem hr30 : List.range 30 = [0,1,2,3,4,5,6,7,8,9,10,11,12,13,14,15,16,17,18,19,20,21,22,23,24,25,26,27,28,29] := rfl
def J16 (s0 : Value) (l : List Int) (most : Nat) (h : Heap) (n : Nat) (σ : St) : Prop := ∃ i : Nat, n = l.length - i ∧ i ≤ l.length ∧ i ≤ most ∧ σ.t.get 0 = some s0 ∧ σ.t.get 1 = some (.int .i64 most) ∧ σ.t.get 5 = some (.slice (some ⟨h.n, 0, none⟩) 30 30) ∧
  σ.t.get 6 = some (.string (B (textL (l.take i)))) ∧ σ.t.get 7 = some (.int .i64 i) ∧ Ext h σ.m.h ∧ σ.m.h.f h.n = .row true 9 (pieces.map fun p => .string (B p)) ∧ h.n < σ.m.h.n
theorem IntsA.ext {h h' : Heap} {v : Value} {l : List Int} (H : IntsA h v l) (e : Ext h h') : IntsA h' v l := by
  obtain ⟨ad, c, q, z⟩ := H
  refine ⟨ad, c, q, ?_⟩
  rcases z with z | ⟨b, w, cs, z1, z2, z3⟩
  · exact .inl z
  · exact .inr ⟨b, w, cs, z1, by rw [e.f b z3, z2], Nat.lt_of_lt_of_le z3 e.n⟩
theorem piece_len (x : Int) : (piece x).length ≤ 20 := by
  have h : ∀ n, n < 30 → (pieces.getD n []).length ≤ 20 := by decide
  exact h _ (by unfold pieceN; omega)
theorem textL_len (l : List Int) : (textL l).length ≤ 20 * l.length := by
  induction l with
  | nil => simp [textL]
  | cons x r ih => simp only [textL, List.flatMap_cons, List.length_append, List.length_cons] at ih ⊢; have := piece_len x; omega
theorem text_ok (s : Value) (l : List Int) (most : Nat) (hm : most ≤ 1000) (hl : l.length ≤ 1152921504606846976) (h : Heap) (hs : IntsA h s l) :
    ACalls PP 16 [s, .int .i64 most] h (fun v h' => Ext h h' ∧ v = .string (B (textL (l.take most)))) := by
  refine acalls_of_vc mix fn16 bodyEq16 rfl (by show 2 ≤ 35; decide) ok16 ?_
  simp only [body16, Try.f16]
  have hnl : noLoc s = true := by obtain ⟨ad, c, rfl, _⟩ := hs; rfl
  obtain ⟨ad, c, rfl, hz⟩ := hs
  simp [opBuildSlice, hr30]
  refine vc_loop (J16 (.slice ad l.length c) l most h) _ ⟨0, rfl, by omega, by omega, by simp, by simp, by simp, by simp [textL], by simp, Ext.new _ _, by simp [pieces], by simp⟩ ?_
  rintro n ⟨T, ⟨x, H⟩⟩ ⟨i, rfl, hi, him, g0, g1, g5, g6, g7, hE, hrow, hn⟩
  simp at g0 g1 g5 g6 g7 hE hn
  have hrow : H.f h.n = .row true 9 (pieces.map fun p => .string (B p)) := hrow
  simp [g0, g1, g5, g6, g7]
  by_cases h1 : i < l.length
  · by_cases h2 : i < most
    · obtain ⟨b, w, cs, rfl, hb, hbn⟩ : ∃ b w cs, ad = some (⟨b, 0, none⟩ : Addr) ∧ h.f b = .row w 3 (l.map (Value.int .i64) ++ cs) ∧ b < h.n := by
        rcases hz with rfl | z
        · simp at h1
        · exact z
      have hb2 : H.f b = .row w 3 (l.map (Value.int .i64) ++ cs) := by rw [hE.f b hbn, hb]
      have hx : l[i]? = some l[i] := List.getElem?_eq_getElem h1
      obtain ⟨rest, hd⟩ : ∃ rest, (l.map (Value.int .i64) ++ cs).drop i = .int .i64 l[i] :: rest := by
        refine ⟨(l.drop (i + 1)).map (Value.int .i64) ++ cs, ?_⟩
        rw [List.drop_append_of_le_length (by simp; omega), ← List.map_drop, List.drop_eq_getElem_cons h1]; rfl
      obtain ⟨cells, hcells⟩ : ∃ cells, cells = l.map (Value.int .i64) ++ cs := ⟨_, rfl⟩
      have hcl : i + 1 ≤ cells.length := by rw [hcells]; simp; omega
      rw [← hcells] at hb2 hd
      obtain ⟨R, hR⟩ : ∃ R, R = pieces.map fun p => Value.string (B p) := ⟨_, rfl⟩
      have hRl : R.length = 30 := by rw [hR]; rfl
      obtain ⟨r, hr⟩ : ∃ r, r = pieceN l[i] := ⟨_, rfl⟩
      have hr30 : r < 30 := by rw [hr]; unfold pieceN; omega
      obtain ⟨rest2, hd2⟩ : ∃ rest2, R.drop r = .string (B (piece l[i])) :: rest2 := by
        refine ⟨R.drop (r + 1), ?_⟩
        rw [List.drop_eq_getElem_cons (by omega)]
        congr 1
        subst hR
        rw [List.getElem_map, piece, ← hr, List.getD_eq_getElem?_getD, List.getElem?_eq_getElem (by simpa using hRl ▸ hr30)]
        rfl
      rw [← hR] at hrow
      obtain ⟨q, hq⟩ : ∃ q : Int, q = l[i] % 18446744073709551616 := ⟨_, rfl⟩
      have e1 : IntKind.wrap .u64 l[i] = q := by rw [u64wrap_mod, hq]
      have e2 : q.tmod 30 = (r : Int) := by
        rw [Int.tmod_eq_emod_of_nonneg (by omega), hr, pieceN, ← hq]; omega
      have e3 : IntKind.wrap .u64 30 = 30 := by rw [u64wrap (by omega)]
      have e4 : IntKind.wrap .i64 ((i : Int) + 1) = ((i + 1 : Nat) : Int) := by rw [i64wrap (by omega)]; omega
      have hlen : (textL (l.take i)).length ≤ 20 * i := by have := textL_len (l.take i); rw [List.length_take] at this; omega
      have hpl := piece_len l[i]
      have hfit : (textL (l.take i)).length + (piece l[i]).length ≤ 9223372036854775807 := by omega
      have hsn : textL (l.take (i + 1)) = textL (l.take i) ++ piece l[i] := by rw [List.take_add_one, hx, textL, textL, List.flatMap_append]; simp
      have hl2 : r + 1 ≤ 30 := by omega
      have hr31 : (r : Int) < 30 := by omega
      simp [h1, h2, g0, g1, g5, g6, g7, hb2, hd, hcl, hx, e1, e2, e3, hrow, hRl, hd2, hr30, hr31, hl2, hfit, e4]
      exact ⟨l.length - (i + 1), by omega, i + 1, rfl, by omega, by omega, by simp [g0], by simp [g1], by simp [g5], by rw [hsn]; simp, by simp, hE, hR ▸ hrow, hn⟩
    · have : i = most := by omega
      subst this
      simp [h1, g0, g1, g5, g6, g7]
      exact hE
  · have : l.take most = l.take i := by rw [List.take_of_length_le (by omega), List.take_of_length_le (by omega)]
    simp [h1, g0, g1, g5, g6, g7, this]
    exact hE
end Go.Proofs.Ytf
