import Derived.Test.YtfcllalhfcmfdaaAmTJ
import Derived.Test.YtfcllalhfcmfdaaAmTD
set_option linter.unusedVariables false
set_option linter.unusedSimpArgs false
set_option linter.unusedSectionVars false
namespace Go.Proofs.Ytf
open Go Go.Am
set_option maxRecDepth 20000
set_option linter.unusedSimpArgs false
set_option maxHeartbeats 2000000
attribute [local simp] idB
attribute [local simp ↓ high] vc_id
/-- words with blanks ahead and a blank behind -/
def segT (s : UInt8) (fs : List (List UInt8 × Nat)) : List UInt8 := fs.flatMap (fun f => f.1 ++ word7 f.2 ++ [s])
theorem segT_cons (s : UInt8) (f : List UInt8 × Nat) (fs : List (List UInt8 × Nat)) : segT s (f :: fs) = f.1 ++ (word7 f.2 ++ s :: segT s fs) := by simp [segT]
theorem segT_snoc (s : UInt8) (fs : List (List UInt8 × Nat)) (f : List UInt8 × Nat) : segT s (fs ++ [f]) = segT s fs ++ f.1 ++ word7 f.2 ++ [s] := by simp [segT]
theorem allL_seg (l : List UInt8) (s : UInt8) (tail : List UInt8) (hs : kindV s.toNat = 1) (ht : skipL false tail = tail.length) : ∀ (fs : List (List UInt8 × Nat)) (n a : Nat) (ln col : Int) (q : List UInt8),
    (∀ x ∈ q, kindV x.toNat = 1) → (∀ f ∈ fs, f.2 < 7 ∧ ∀ x ∈ f.1, kindV x.toNat = 1) → a ≤ l.length → l.length < n + a → l.drop a = q ++ (segT s fs ++ tail) →
    (allL l n a ln col).code = 0 ∧ (allL l n a ln col).ts.map tkey = fs.map (fun f => wkey f.2) := by
  intro fs
  induction fs with
  | nil =>
    intro n a ln col q hq hf ha hn hl
    cases n with
    | zero => omega
    | succ n =>
      have hlen := congrArg List.length hl
      simp [segT] at hlen hl
      have hx : nextV l a ln col = ⟨zTok, l.length, ln, col + l.length - a, 4⟩ := by
        unfold nextV nextV'
        have : a + skipL false (l.drop a) = l.length := by rw [hl, skipL_seg q _ hq, ht]; omega
        rw [this, List.getElem?_eq_none (by omega)]
      rw [allL, hx]
      exact ⟨rfl, rfl⟩
  | cons f fs ih =>
    intro n a ln col q hq hf ha hn hl
    cases n with
    | zero => omega
    | succ n =>
      obtain ⟨hf1, hf2⟩ := hf f (by simp)
      have hl2 : l.drop a = (q ++ f.1) ++ (word7 f.2 ++ s :: (segT s fs ++ tail)) := by rw [hl, segT_cons]; simp
      have hw := nextV_word (l := l) (q := q ++ f.1) (y := segT s fs ++ tail) (c := s) (a := a) (r := f.2) ln col hf1 (fun x hx => by
        rcases List.mem_append.mp hx with h | h
        · exact hq x h
        · exact hf2 x h) hs hl2
      have hto : l.drop (nextV l a ln col).to = [s] ++ (segT s fs ++ tail) := by
        rw [hw.to]
        have h1 := (drop_at hl2).1
        exact (drop_at h1).1
      have hle : (nextV l a ln col).to ≤ l.length := by
        have := congrArg List.length hto
        rw [List.length_drop] at this; simp at this; omega
      have hlt : a < (nextV l a ln col).to := by
        rw [hw.to]
        have : 0 < (word7 f.2).length := by
          have h : ∀ r, r < 7 → 0 < (word7 r).length := by decide
          exact h _ hf1
        omega
      have := ih n (nextV l a ln col).to (nextV l a ln col).ln (nextV l a ln col).col [s] (fun x hx => by simp at hx; subst hx; exact hs) (fun g hg => hf g (by simp [hg])) hle (by omega) hto
      rw [allL]
      simp only [hw.code, if_true]
      exact ⟨this.1, by rw [List.map_cons, List.map_cons, hw.key, this.2]⟩
theorem allV_seg (s : UInt8) (tail : List UInt8) (hs : kindV s.toNat = 1) (ht : skipL false tail = tail.length) (fs : List (List UInt8 × Nat)) (hf : ∀ f ∈ fs, f.2 < 7 ∧ ∀ x ∈ f.1, kindV x.toNat = 1) :
    (allV (segT s fs ++ tail)).code = 0 ∧ (allV (segT s fs ++ tail)).ts.map tkey = fs.map (fun f => wkey f.2) :=
  allL_seg _ s tail hs ht fs _ 0 1 1 [] (fun x hx => by simp at hx) hf (by omega) (by omega) (by simp)
def pre4 (r : Nat) : List UInt8 := [[32], [9], [32, 32], [13]].getD r []
def rN (x : Int) : Nat := ((x % 18446744073709551616) % 7).toNat
def hN (how : Int) (i : Nat) : Nat := ((how % 18446744073709551616 + i) % 18446744073709551616 % 4).toNat
def aF (l : List Int) : Nat → List (List UInt8 × Nat)
  | 0 => []
  | i + 1 => aF l i ++ [([], rN (l.getD i 0))]
def bF (l : List Int) (how : Int) : Nat → List (List UInt8 × Nat)
  | 0 => []
  | i + 1 => bF l how i ++ [(pre4 (hN how i), rN (l.getD i 0))]
theorem abF (l : List Int) (how : Int) (i : Nat) : (aF l i).map (fun f => wkey f.2) = (bF l how i).map (fun f => wkey f.2) := by
  induction i with
  | zero => rfl
  | succ i ih => simp [aF, bF, ih]
theorem aF_ok (l : List Int) (i : Nat) : ∀ f ∈ aF l i, f.2 < 7 ∧ ∀ x ∈ f.1, kindV x.toNat = 1 := by
  induction i with
  | zero => simp [aF]
  | succ i ih =>
    intro f hf
    rcases List.mem_append.mp hf with h | h
    · exact ih f h
    · simp at h; subst h
      exact ⟨by unfold rN; omega, fun x hx => by simp at hx⟩
theorem bF_ok (l : List Int) (how : Int) (i : Nat) : ∀ f ∈ bF l how i, f.2 < 7 ∧ ∀ x ∈ f.1, kindV x.toNat = 1 := by
  induction i with
  | zero => simp [bF]
  | succ i ih =>
    intro f hf
    rcases List.mem_append.mp hf with h | h
    · exact ih f h
    · simp at h; subst h
      have h4 : ∀ r, r < 4 → ∀ x ∈ pre4 r, kindV x.toNat = 1 := by decide
      exact ⟨by show rN _ < 7; unfold rN; omega, h4 _ (by unfold hN; omega)⟩
theorem word7_len (r : Nat) : (word7 r).length ≤ 10 := by
  rcases Nat.lt_or_ge r 7 with h | h
  · have : ∀ r, r < 7 → (word7 r).length ≤ 10 := by decide
    exact this r h
  · unfold word7; rw [List.getD_eq_getElem?_getD, List.getElem?_eq_none (by show 7 ≤ r; exact h)]; simp
theorem pre4_len (r : Nat) : (pre4 r).length ≤ 2 := by
  rcases Nat.lt_or_ge r 4 with h | h
  · have : ∀ r, r < 4 → (pre4 r).length ≤ 2 := by decide
    exact this r h
  · unfold pre4; rw [List.getD_eq_getElem?_getD, List.getElem?_eq_none (by show 4 ≤ r; exact h)]; simp
theorem aF_len (l : List Int) (i : Nat) : (segT 32 (aF l i)).length ≤ 11 * i := by
  induction i with
  | zero => simp [aF, segT]
  | succ i ih => rw [aF, segT_snoc]; have := word7_len (rN (l.getD i 0)); simp only [List.length_append, List.length_cons, List.length_nil]; omega
theorem bF_len (l : List Int) (how : Int) (i : Nat) : (segT 9 (bF l how i)).length ≤ 13 * i := by
  induction i with
  | zero => simp [bF, segT]
  | succ i ih => rw [bF, segT_snoc]; have := word7_len (rN (l.getD i 0)); have := pre4_len (hN how i); simp only [List.length_append, List.length_cons, List.length_nil]; omega
def tailB : List UInt8 := [35, 32, 97, 110, 100, 32, 109, 111, 114, 101, 32, 49, 97]
def J7 (s0 : Value) (l : List Int) (how : Int) (h : Heap) (n : Nat) (σ : St) : Prop := ∃ i : Nat, n = l.length - i ∧ i ≤ l.length ∧ i ≤ 12 ∧ σ.t.get 0 = some s0 ∧ σ.t.get 1 = some (.int .i64 how) ∧ σ.t.get 5 = some (.slice (some ⟨h.n, 0, none⟩) 7 7) ∧
  σ.t.get 6 = some (.string (B (segT 32 (aF l i)))) ∧ σ.t.get 7 = some (.string (B (segT 9 (bF l how i)))) ∧ σ.t.get 8 = some (.int .i64 i) ∧ Ext h σ.m.h ∧ σ.m.h.f h.n = .row true 9 (words7.map fun p => .string (B p)) ∧ h.n < σ.m.h.n
def J7b (s1 s2 : Value) (m : Nat) (h : Heap) (n : Nat) (σ : St) : Prop := ∃ i : Nat, n = m - i ∧ i ≤ m ∧ σ.m.h = h ∧ σ.t.get 10 = some s1 ∧ σ.t.get 13 = some s2 ∧ σ.t.get 16 = some (.int .i64 (i : Nat))
theorem hr7 : List.range 7 = [0,1,2,3,4,5,6] := rfl
theorem hr4 : List.range 4 = [0,1,2,3] := rfl
theorem apart_ok (s : Value) (l : List Int) (how : Int) (hl : l.length ≤ 1152921504606846976) (h : Heap) (hs : IntsA h s l) : ACalls PP 7 [s, .int .i64 how] h (fun v _ => v = .bool true) := by
  refine acalls_of_vc mix fn7 bodyEq7 rfl (by show 2 ≤ 125; decide) ok7 ?_
  simp only [body7, Try.f7]
  obtain ⟨ad, c, rfl, hz⟩ := hs
  simp [opBuildSlice, hr7]
  refine vc_loop (J7 (.slice ad l.length c) l how h) _ ⟨0, rfl, by omega, by omega, by simp, by simp, by simp, by simp [segT, aF], by simp [segT, bF], by simp, Ext.new _ _, by simp [words7], by simp⟩ ?_
  rintro n ⟨T, ⟨x, H⟩⟩ ⟨i, rfl, hi, him, g0, g1, g5, g6, g7, g8, hE, hrow, hn⟩
  simp at g0 g1 g5 g6 g7 g8 hE hn
  have hrow : H.f h.n = .row true 9 (words7.map fun p => .string (B p)) := hrow
  simp [g0, g1, g5, g6, g7, g8]
  by_cases h1 : i < l.length ∧ i < 12
  · obtain ⟨h1, h2⟩ := h1
    obtain ⟨b, w, cs, rfl, hb, hbn⟩ : ∃ b w cs, ad = some (⟨b, 0, none⟩ : Addr) ∧ h.f b = .row w 3 (l.map (Value.int .i64) ++ cs) ∧ b < h.n := by
      rcases hz with rfl | z
      · simp at h1
      · exact z
    have hb2 : H.f b = .row w 3 (l.map (Value.int .i64) ++ cs) := by rw [hE.f b hbn, hb]
    have hx : l[i]? = some l[i] := List.getElem?_eq_getElem h1
    obtain ⟨rest, hd⟩ : ∃ rest, (l.map (Value.int .i64) ++ cs).drop i = .int .i64 l[i] :: rest := by
      refine ⟨(l.drop (i + 1)).map (Value.int .i64) ++ cs, ?_⟩
      rw [List.drop_append_of_le_length (by simp; omega), ← List.map_drop, List.drop_eq_getElem_cons h1]; rfl
    obtain ⟨cells, hcells⟩ : ∃ cells, cells = l.map (Value.int .i64) ++ cs := ⟨_, rfl⟩
    have hcl : i + 1 ≤ cells.length := by rw [hcells]; simp; omega
    rw [← hcells] at hb2 hd
    obtain ⟨R, hR⟩ : ∃ R, R = words7.map fun p => Value.string (B p) := ⟨_, rfl⟩
    have hRl : R.length = 7 := by rw [hR]; rfl
    obtain ⟨r, hr⟩ : ∃ r, r = rN l[i] := ⟨_, rfl⟩
    have hr7' : r < 7 := by rw [hr]; unfold rN; omega
    obtain ⟨rest2, hd2⟩ : ∃ rest2, R.drop r = .string (B (word7 r)) :: rest2 := by
      refine ⟨R.drop (r + 1), ?_⟩
      rw [List.drop_eq_getElem_cons (by omega)]
      congr 1
      subst hR
      rw [List.getElem_map, word7, List.getD_eq_getElem?_getD, List.getElem?_eq_getElem (by simpa using hRl ▸ hr7')]
      rfl
    rw [← hR] at hrow
    obtain ⟨q, hq⟩ : ∃ q : Int, q = l[i] % 18446744073709551616 := ⟨_, rfl⟩
    have e1 : IntKind.wrap .u64 l[i] = q := by rw [u64wrap_mod, hq]
    have e2 : q.tmod 7 = (r : Int) := by rw [Int.tmod_eq_emod_of_nonneg (by omega), hr, rN, ← hq]; omega
    have e3 : IntKind.wrap .u64 7 = 7 := by rw [u64wrap (by omega)]
    have e4 : IntKind.wrap .i64 ((i : Int) + 1) = ((i + 1 : Nat) : Int) := by rw [i64wrap (by omega)]; omega
    have e5 : IntKind.wrap .u64 (r : Int) = (r : Int) := by rw [u64wrap (by omega)]
    obtain ⟨y, hy⟩ : ∃ y : Int, y = how % 18446744073709551616 := ⟨_, rfl⟩
    obtain ⟨z, hz⟩ : ∃ z : Int, z = (y + i) % 18446744073709551616 := ⟨_, rfl⟩
    obtain ⟨r4, hr4'⟩ : ∃ r4, r4 = hN how i := ⟨_, rfl⟩
    have f1 : IntKind.wrap .u64 how = y := by rw [u64wrap_mod, hy]
    have f2 : IntKind.wrap .u64 (i : Int) = (i : Int) := by rw [u64wrap (by omega)]
    have f3 : IntKind.wrap .u64 (y + (i : Int)) = z := by rw [u64wrap_mod, hz]
    have f4 : z.tmod 4 = (r4 : Int) := by rw [Int.tmod_eq_emod_of_nonneg (by omega), hr4', hN, ← hy, ← hz]; omega
    have f5 : IntKind.wrap .u64 4 = 4 := by rw [u64wrap (by omega)]
    have f6 : IntKind.wrap .u64 (r4 : Int) = (r4 : Int) := by rw [u64wrap (by have : r4 < 4 := by rw [hr4']; unfold hN; omega
                                                                              omega)]
    have hr4l : r4 < 4 := by rw [hr4']; unfold hN; omega
    obtain ⟨rest3, hd3⟩ : ∃ rest3, List.drop r4 [Value.string (B [32]), .string (B [9]), .string (B [32, 32]), .string (B [13])] = .string (B (pre4 r4)) :: rest3 := by
      match r4, hr4l with
      | 0, _ => exact ⟨_, rfl⟩
      | 1, _ => exact ⟨_, rfl⟩
      | 2, _ => exact ⟨_, rfl⟩
      | 3, _ => exact ⟨_, rfl⟩
    have hla := aF_len l i
    have hlb := bF_len l how i
    have hw7 := word7_len r
    have hp4 := pre4_len r4
    have sa : segT 32 (aF l (i + 1)) = segT 32 (aF l i) ++ word7 r ++ [32] := by rw [aF, segT_snoc, List.getD_eq_getElem?_getD, hx]; simp [← hr]
    have sb : segT 9 (bF l how (i + 1)) = segT 9 (bF l how i) ++ pre4 r4 ++ word7 r ++ [9] := by rw [bF, segT_snoc, List.getD_eq_getElem?_getD, hx]; simp [← hr, ← hr4']
    obtain ⟨A, hA⟩ : ∃ A, A = segT 32 (aF l i) := ⟨_, rfl⟩
    obtain ⟨Bt, hB⟩ : ∃ Bt, Bt = segT 9 (bF l how i) := ⟨_, rfl⟩
    obtain ⟨W, hW⟩ : ∃ W, W = word7 r := ⟨_, rfl⟩
    obtain ⟨Pr, hPr⟩ : ∃ Pr, Pr = pre4 r4 := ⟨_, rfl⟩
    rw [← hA] at hla sa g6
    rw [← hB] at hlb sb g7
    rw [← hW] at hw7 sa sb hd2
    rw [← hPr] at hp4 sb hd3
    have hfit1 : A.length + W.length ≤ 9223372036854775807 := by omega
    have hfit2 : A.length + W.length + 1 ≤ 9223372036854775807 := by omega
    have hfit3 : Bt.length + Pr.length ≤ 9223372036854775807 := by omega
    have hfit4 : Bt.length + Pr.length + W.length ≤ 9223372036854775807 := by omega
    have hfit5 : Bt.length + Pr.length + W.length + 1 ≤ 9223372036854775807 := by omega
    have hfit2' : A.length + (W.length + 1) ≤ 9223372036854775807 := by omega
    have hfit4' : Bt.length + (Pr.length + W.length) ≤ 9223372036854775807 := by omega
    have hfit5' : Bt.length + (Pr.length + (W.length + 1)) ≤ 9223372036854775807 := by omega
    have hfit6 : Bt.length + (Pr.length + W.length) ≤ 9223372036854775806 := by omega
    have hfit7 : A.length + W.length ≤ 9223372036854775806 := by omega
    have hl2 : r + 1 ≤ 7 := by omega
    have hl4 : r4 + 1 ≤ 4 := by omega
    have hr71 : (r : Int) < 7 := by omega
    have hr41 : (r4 : Int) < 4 := by omega
    have h2' : (i : Int) < 12 := by omega
    simp [h1, h2', g0, g1, g5, g6, g7, g8, hb2, hd, hcl, hx, e1, e2, e3, e4, e5, hrow, hRl, hd2, hl2, hr71, hr7', opBuildSlice, hr4, f1, f2, f3, f4, f5, f6, hr41, hl4, hr4l, hd3, hfit1, hfit2, hfit3, hfit4, hfit5, hfit2', hfit4', hfit5', hfit6, hfit7]
    refine ⟨l.length - (i + 1), by omega, i + 1, rfl, by omega, by omega, by simp [g0], by simp [g1], by simp [g5], by simp [sa], by simp [sb], by simp, hE.newOf _, ?_, ?_⟩
    · have : ¬ h.n = H.n := by omega
      simp [this, hrow, hR]
    · simp; omega
  · have hka := allV_seg 32 [] (by decide) rfl (aF l i) (aF_ok l i)
    have hkb := allV_seg 9 tailB (by decide) (by decide) (bF l how i) (bF_ok l how i)
    have hla := aF_len l i
    have hlb := bF_len l how i
    have hab := abF l how i
    obtain ⟨A, hA⟩ : ∃ A, A = segT 32 (aF l i) := ⟨_, rfl⟩
    obtain ⟨Bt, hB⟩ : ∃ Bt, Bt = segT 9 (bF l how i) := ⟨_, rfl⟩
    rw [List.append_nil, ← hA] at hka
    rw [← hB] at hkb hlb g7
    rw [← hA] at hla g6
    have hfit : Bt.length + 13 ≤ 9223372036854775807 := by omega
    have hfit' : Bt.length ≤ 9223372036854775794 := by omega
    rcases (by omega : ¬ i < l.length ∨ (i < l.length ∧ ¬ (i : Int) < 12)) with hh | ⟨hh, hh2⟩
    case' inl => simp [hh, g0, g1, g5, g6, g7, g8]
    case' inr => simp [hh, hh2, g0, g1, g5, g6, g7, g8]
    all_goals
      refine (all_ok A (by omega) H).mono ?_
      rintro v h2 ⟨E2, s1, hs1, rfl⟩
      rw [hka.1]
      have htl : (allV A).ts.length ≤ 200 := by have := allL_len A (A.length + 1) 0 1 1; unfold allV; omega
      obtain ⟨ts, hts⟩ : ∃ ts, ts = (allV A).ts := ⟨_, rfl⟩
      rw [← hts] at htl
      rw [← hts] at hs1 hka
      have hs1 := hs1.tokS
      have hn1 : noLoc s1 = true := by obtain ⟨_, _, rfl, _⟩ := hs1; rfl
      have hl1 : ∃ ad c, s1 = .slice ad ts.length c := by obtain ⟨ad, c, e, _⟩ := hs1; exact ⟨ad, c, e⟩
      obtain ⟨ad1, c1, rfl⟩ := hl1
      simp [callQ, spotV]
      intro _
      simp [g0, g1, g5, g6, g7, g8, hfit, hfit']
      refine (all_ok (Bt ++ [35, 32, 97, 110, 100, 32, 109, 111, 114, 101, 32, 49, 97]) (by simp; omega) h2).mono ?_
      rintro v h3 ⟨E3, s2, hs2, rfl⟩
      have hkb : (allV (Bt ++ [35, 32, 97, 110, 100, 32, 109, 111, 114, 101, 32, 49, 97])).code = 0 ∧ (allV (Bt ++ [35, 32, 97, 110, 100, 32, 109, 111, 114, 101, 32, 49, 97])).ts.map tkey = _ := hkb
      rw [hkb.1]
      obtain ⟨us, hus⟩ : ∃ us, us = (allV (Bt ++ [35, 32, 97, 110, 100, 32, 109, 111, 114, 101, 32, 49, 97])).ts := ⟨_, rfl⟩
      rw [← hus] at hs2 hkb
      have hs2 := hs2.tokS
      have hs1 := hs1.ext E3
      have hl2 : ∃ ad c, s2 = .slice ad us.length c := by obtain ⟨ad, c, e, _⟩ := hs2; exact ⟨ad, c, e⟩
      obtain ⟨ad2, c2, rfl⟩ := hl2
      have hmap : ts.map tkey = us.map tkey := by rw [hka.2, hkb.2, hab]
      have hlen : us.length = ts.length := by have := congrArg List.length hmap; simp at this; omega
      obtain ⟨m, hm⟩ : ∃ m, m = ts.length := ⟨_, rfl⟩
      rw [hlen, ← hm] at hs2
      rw [← hm] at hs1 hlen
      rw [hlen, ← hm]
      simp [callQ, spotV]
      intro _
      refine vc_loop (J7b (.slice ad1 m c1) (.slice ad2 m c2) m h3) _ ⟨0, rfl, by omega, rfl, by simp, by simp, by simp⟩ ?_
      clear g0 g1 g5 g6 g7 g8
      rintro n ⟨T, ⟨x, H'⟩⟩ ⟨i, rfl, hi, hH, g10, g13, g16⟩
      simp at g10 g13 g16 hH
      subst hH
      simp [g10, g13, g16]
      refine condQ_of (fun hc => ?_) (fun hc => ?_) <;> simp only [decide_eq_true_eq, decide_eq_false_iff_not] at hc
      · have him : i < m := by omega
        have hti : ts[i]? = some ts[i] := List.getElem?_eq_getElem (by omega)
        have hui : us[i]? = some us[i] := List.getElem?_eq_getElem (by omega)
        obtain ⟨_, b1, o1, wb1, cs1, r1, rfl, hb1, hd1, hl1, _⟩ := hs1.at hti
        obtain ⟨_, b2, o2, wb2, cs2, r2, rfl, hb2, hd2, hl2, _⟩ := hs2.at hui
        have hkey : tkey ts[i] = tkey us[i] := by
          have := congrArg (fun z => z[i]?) hmap
          simp only [List.getElem?_map, hti, hui, Option.map_some, Option.some.injEq] at this
          exact this
        obtain ⟨t, ht⟩ : ∃ t, t = ts[i] := ⟨_, rfl⟩
        obtain ⟨u, hu⟩ : ∃ u, u = us[i] := ⟨_, rfl⟩
        rw [← ht] at hd1 hkey
        rw [← hu] at hd2 hkey
        obtain ⟨tk, tn, tl, tc, tx⟩ := t
        obtain ⟨uk, un, ul, uc, ux⟩ := u
        simp only [tkey, Prod.mk.injEq] at hkey
        obtain ⟨rfl, rfl, rfl⟩ := hkey
        have w4 : IntKind.wrap .i64 ((i : Int) + 1) = ((i + 1 : Nat) : Int) := by rw [i64wrap (by omega)]; omega
        have q1 : o1 + i * 5 + 5 ≤ cs1.length := hl1
        have q2 : o2 + i * 5 + 5 ≤ cs2.length := hl2
        obtain ⟨p1, hp1⟩ : ∃ p1, p1 = o1 + i * 5 := ⟨_, rfl⟩
        obtain ⟨p2, hp2⟩ : ∃ p2, p2 = o2 + i * 5 := ⟨_, rfl⟩
        rw [← hp1] at hd1 q1
        rw [← hp2] at hd2 q2
        have d1 : List.drop (p1 + 1) cs1 = .int .i64 tn :: .int .i64 tl :: .int .i64 tc :: .string (B tx) :: r1 := by rw [← List.drop_drop, hd1]; rfl
        have d2 : List.drop (p2 + 1) cs2 = .int .i64 tn :: .int .i64 ul :: .int .i64 uc :: .string (B tx) :: r2 := by rw [← List.drop_drop, hd2]; rfl
        have d14 : List.drop (p1 + 4) cs1 = .string (B tx) :: r1 := by rw [← List.drop_drop, hd1]; rfl
        have d24 : List.drop (p2 + 4) cs2 = .string (B tx) :: r2 := by rw [← List.drop_drop, hd2]; rfl
        have q11 : p1 + 1 ≤ cs1.length := by omega
        have q12 : p1 + 1 + 1 ≤ cs1.length := by omega
        have q13 : p1 + 4 + 1 ≤ cs1.length := by omega
        have q21 : p2 + 1 ≤ cs2.length := by omega
        have q22 : p2 + 1 + 1 ≤ cs2.length := by omega
        have q23 : p2 + 4 + 1 ≤ cs2.length := by omega
        simp -implicitDefEqProofs [g10, g13, g16, him, hb1, hb2, hd1, hd2, tokC, d1, d2, d14, d24, q11, q12, q13, q21, q22, q23, w4, ← hp1, ← hp2]
        exact ⟨m - (i + 1), by omega, i + 1, rfl, by omega, rfl, by simp [g10], by simp [g13], by simp⟩
      · simp [g10, g13, g16]
        refine (told_ok H').mono ?_
        rintro v h4 ⟨_, rfl⟩
        simp [callQ]
end Go.Proofs.Ytf
