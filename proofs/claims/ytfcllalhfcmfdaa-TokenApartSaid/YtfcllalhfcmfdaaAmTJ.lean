import Derived.Test.YtfcllalhfcmfdaaAmTH
set_option linter.unusedVariables false
set_option linter.unusedSimpArgs false
set_option linter.unusedSectionVars false
namespace Go.Proofs.Ytf
open Go Go.Am
set_option maxRecDepth 20000
set_option linter.unusedSimpArgs false
set_option maxHeartbeats 2000000
def words7 : List (List UInt8) := [[115, 101, 97, 116], [53], [45, 51], [103, 97, 112], [48], [107, 105, 108, 108], [50, 49, 52, 55, 52, 56, 51, 54, 52, 55]]
def word7 (r : Nat) : List UInt8 := words7.getD r []
def kinds7 : List (Int × Int) := [(1, 0), (2, 5), (2, -3), (1, 0), (2, 0), (1, 0), (2, 2147483647)]
def kind7 (r : Nat) : Int × Int := kinds7.getD r (0, 0)
def tkey (t : Tok) : Int × Int × List UInt8 := (t.kind, t.n, t.text)
def wkey (r : Nat) : Int × Int × List UInt8 := ((kind7 r).1, (kind7 r).2, word7 r)
theorem runL_seg (k : Nat) (w : List UInt8) (c : UInt8) (r : List UInt8) (hw : ∀ x ∈ w, kindV x.toNat = k) (hc : kindV c.toNat ≠ k) : runL k (w ++ c :: r) = w.length := by
  induction w with
  | nil => rw [List.nil_append, runL, if_neg hc]; rfl
  | cons x w ih => rw [List.cons_append, runL, if_pos (hw x (by simp)), ih (fun y hy => hw y (by simp [hy]))]; rfl
theorem skipL_seg (q : List UInt8) (x : List UInt8) (hq : ∀ c ∈ q, kindV c.toNat = 1) : skipL false (q ++ x) = q.length + skipL false x := by
  induction q with
  | nil => simp
  | cons c q ih => rw [List.cons_append, skipL, if_pos (hq c (by simp)), ih (fun y hy => hq y (by simp [hy]))]; simp; omega
theorem drop_at {l x y : List UInt8} {k : Nat} (h : l.drop k = x ++ y) : l.drop (k + x.length) = y ∧ (k ≤ l.length → (l.take (k + x.length)).drop k = x) := by
  constructor
  · rw [← List.drop_drop, h]; simp
  · intro hk
    rw [List.drop_take, h, show k + x.length - k = x.length by omega]; simp
theorem get_drop0 {l y : List UInt8} {c : UInt8} {k : Nat} (h : l.drop k = c :: y) : l[k]? = some c := by
  have := congrArg (fun z => z[0]?) h
  simpa using this
/-- a number with a byte of kind 1 behind it -/
theorem numV_seg {l m ds r : List UInt8} {c : UInt8} {k : Nat} (hm : m = [] ∨ m = [45]) (hd : ∀ x ∈ ds, kindV x.toNat = 5) (hne : ds ≠ []) (hc : kindV c.toNat = 1) (hl : l.drop k = m ++ ds ++ c :: r) (hv : numL 0 ds ≤ 2147483647) :
    numV l k = ⟨if m = [] then (numL 0 ds : Int) else -(numL 0 ds : Int), k + m.length + ds.length, true⟩ := by
  have hkl : k ≤ l.length := by
    rcases Nat.lt_or_ge l.length k with h | h
    · rw [List.drop_eq_nil_of_le (by omega)] at hl; simp at hl
    · exact h
  have h1 := drop_at (x := m) (y := ds ++ c :: r) (by rw [hl, List.append_assoc])
  have h2 := drop_at (x := ds) (y := c :: r) h1.1
  have hend := get_drop0 h2.1
  have hM : numM l k = m.length := by
    unfold numM
    rcases hm with rfl | rfl
    · cases ds with
      | nil => exact absurd rfl hne
      | cons d ds =>
        have := get_drop0 (l := l) (k := k) (c := d) (y := ds ++ c :: r) (by rw [hl]; rfl)
        rw [getD_get this]
        have hk := hd d (by simp)
        rw [kind_digit] at hk
        rw [if_neg (by omega)]; rfl
    · have := get_drop0 (l := l) (k := k) (c := 45) (y := ds ++ c :: r) (by rw [hl]; rfl)
      rw [getD_get this]; rfl
  have hT : numT l k = ds.length := by
    unfold numT
    rw [hM, h1.1]
    exact runL_seg 5 ds c r hd (by omega)
  have hN : numN l k = if m = [] then (numL 0 ds : Int) else -(numL 0 ds : Int) := by
    unfold numN
    rw [hM, hT, h1.1]
    simp only [List.take_left']
    rcases hm with rfl | rfl
    · simp
    · simp
  have hdl : ds.length ≠ 0 := by simpa using hne
  unfold numV numV'
  rw [hM, hT, hN, hend, if_neg]
  · simp [hc]
  · rcases hm with rfl | rfl
    · rw [if_pos rfl]; omega
    · rw [if_neg (by simp)]; omega
structure WordAt (l : List UInt8) (a k : Nat) (r : Nat) (X : NX) : Prop where
  code : X.code = 0
  key : tkey X.tok = wkey r
  to : X.to = k + (word7 r).length
theorem nextV_word {l q y : List UInt8} {c : UInt8} {a r : Nat} (ln col : Int) (hr : r < 7) (hq : ∀ x ∈ q, kindV x.toNat = 1) (hc : kindV c.toNat = 1) (hl : l.drop a = q ++ (word7 r ++ c :: y)) :
    WordAt l a (a + q.length) r (nextV l a ln col) := by
  have hal : a ≤ l.length := by
    rcases Nat.lt_or_ge l.length a with h | h
    · rw [List.drop_eq_nil_of_le (by omega)] at hl; simp at hl
    · exact h
  have h1 := (drop_at hl).1
  have hkl : a + q.length ≤ l.length := by have := congrArg List.length hl; simp at this; omega
  have h2 := drop_at h1
  have h22 := h2.2 hkl
  have hend := get_drop0 h2.1
  have hsk : a + skipL false (l.drop a) = a + q.length := by
    rw [hl, skipL_seg q _ hq]
    have : skipL false (word7 r ++ c :: y) = 0 := by
      match r, hr with
      | 0, _ => simp [word7, words7, skipL, kindV]
      | 1, _ => simp [word7, words7, skipL, kindV]
      | 2, _ => simp [word7, words7, skipL, kindV]
      | 3, _ => simp [word7, words7, skipL, kindV]
      | 4, _ => simp [word7, words7, skipL, kindV]
      | 5, _ => simp [word7, words7, skipL, kindV]
      | 6, _ => simp [word7, words7, skipL, kindV]
    omega
  obtain ⟨k, hk⟩ : ∃ k, k = a + q.length := ⟨_, rfl⟩
  unfold nextV nextV'
  rw [hsk]
  rw [← hk] at h1 h22 hend ⊢
  have wordc : ∀ (w0 : UInt8) (w : List UInt8), word7 r = w0 :: w → (∀ x ∈ w0 :: w, kindV x.toNat = 4) → kind7 r = (1, 0) →
      WordAt l a k r (match l[k]? with
        | none => ⟨zTok, k, ln, col + k - a, 4⟩
        | some c =>
          if kindV c.toNat = 3 then ⟨⟨3, 0, ln, col + k - a, []⟩, k + 1, ln + 1, 1, 0⟩
          else if kindV c.toNat = 4 then
            let to := k + runL 4 (l.drop k)
            if endOk l to = true then ⟨⟨1, 0, ln, col + k - a, (l.take to).drop k⟩, to, ln, col + to - a, 0⟩
            else ⟨zTok, a, ln, col + to - a, 2⟩
          else if kindV c.toNat = 6 ∨ kindV c.toNat = 5 then
            let u := numV l k
            if u.ok = true then ⟨⟨2, u.n, ln, col + k - a, (l.take u.to).drop k⟩, u.to, ln, col + u.to - a, 0⟩
            else ⟨zTok, a, ln, col + u.to - a, 2⟩
          else ⟨zTok, a, ln, col + k - a, 2⟩) := by
    intro w0 w hw hk4 hkk
    have hg := get_drop0 (l := l) (k := k) (c := w0) (y := w ++ c :: y) (by rw [h1, hw]; rfl)
    have h04 := hk4 w0 (by simp)
    have hrun : runL 4 (l.drop k) = (word7 r).length := by rw [h1, hw]; exact runL_seg 4 (w0 :: w) c y hk4 (by omega)
    rw [hg]
    dsimp only
    have hE : endOk l (k + (word7 r).length) = true := by unfold endOk; rw [hend]; simp [hc]
    rw [if_neg (by omega), if_pos h04, hrun, if_pos hE, h22]
    exact ⟨rfl, by simp [tkey, wkey, hkk], rfl⟩
  have numc : ∀ (m ds : List UInt8), word7 r = m ++ ds → (m = [] ∨ m = [45]) → (∀ x ∈ ds, kindV x.toNat = 5) → ds ≠ [] → numL 0 ds ≤ 2147483647 → kind7 r = (2, if m = [] then (numL 0 ds : Int) else -(numL 0 ds : Int)) →
      WordAt l a k r (match l[k]? with
        | none => ⟨zTok, k, ln, col + k - a, 4⟩
        | some c =>
          if kindV c.toNat = 3 then ⟨⟨3, 0, ln, col + k - a, []⟩, k + 1, ln + 1, 1, 0⟩
          else if kindV c.toNat = 4 then
            let to := k + runL 4 (l.drop k)
            if endOk l to = true then ⟨⟨1, 0, ln, col + k - a, (l.take to).drop k⟩, to, ln, col + to - a, 0⟩
            else ⟨zTok, a, ln, col + to - a, 2⟩
          else if kindV c.toNat = 6 ∨ kindV c.toNat = 5 then
            let u := numV l k
            if u.ok = true then ⟨⟨2, u.n, ln, col + k - a, (l.take u.to).drop k⟩, u.to, ln, col + u.to - a, 0⟩
            else ⟨zTok, a, ln, col + u.to - a, 2⟩
          else ⟨zTok, a, ln, col + k - a, 2⟩) := by
    intro m ds hw hm hd hne hv hkk
    have hnum := numV_seg (l := l) (k := k) hm hd hne hc (by rw [h1, hw]) hv
    have hto : k + m.length + ds.length = k + (word7 r).length := by rw [hw]; simp; omega
    rw [hto] at hnum
    obtain ⟨w0, w, hww, hk56⟩ : ∃ w0 w, word7 r = w0 :: w ∧ (kindV w0.toNat = 6 ∨ kindV w0.toNat = 5) := by
      rcases hm with rfl | rfl
      · cases ds with
        | nil => exact absurd rfl hne
        | cons d ds => exact ⟨d, ds, by rw [hw]; rfl, .inr (hd d (by simp))⟩
      · exact ⟨45, ds, by rw [hw]; rfl, .inl (by decide)⟩
    have hg := get_drop0 (l := l) (k := k) (c := w0) (y := w ++ c :: y) (by rw [h1, hww]; rfl)
    rw [hg]
    dsimp only
    rw [if_neg (by omega), if_neg (by omega), if_pos hk56, hnum, if_pos rfl]
    dsimp only
    rw [h22]
    exact ⟨rfl, by simp [tkey, wkey, hkk], rfl⟩
  match r, hr with
  | 0, _ => exact wordc 115 [101, 97, 116] rfl (by decide) rfl
  | 1, _ => exact numc [] [53] rfl (.inl rfl) (by decide) (by simp) (by rw [numL_cons, numL_nil]; decide +kernel) (by rw [numL_cons, numL_nil]; decide +kernel)
  | 2, _ => exact numc [45] [51] rfl (.inr rfl) (by decide) (by simp) (by rw [numL_cons, numL_nil]; decide +kernel) (by rw [numL_cons, numL_nil]; decide +kernel)
  | 3, _ => exact wordc 103 [97, 112] rfl (by decide) rfl
  | 4, _ => exact numc [] [48] rfl (.inl rfl) (by decide) (by simp) (by rw [numL_cons, numL_nil]; decide +kernel) (by rw [numL_cons, numL_nil]; decide +kernel)
  | 5, _ => exact wordc 107 [105, 108, 108] rfl (by decide) rfl
  | 6, _ => exact numc [] [50, 49, 52, 55, 52, 56, 51, 54, 52, 55] rfl (.inl rfl) (by decide) (by simp) (by simp only [numL_cons, numL_nil, capN_eq]; decide +kernel) (by simp only [numL_cons, numL_nil, capN_eq]; decide +kernel)
end Go.Proofs.Ytf
