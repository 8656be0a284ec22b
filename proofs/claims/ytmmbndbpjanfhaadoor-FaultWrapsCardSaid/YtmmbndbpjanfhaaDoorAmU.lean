/- The abstract machine, part U: slices of whatever elements, as a caller sees them. -/
import Derived.Test.YtmmbndbpjanfhaaDoorAmR
set_option linter.unusedVariables false
set_option linter.unusedSimpArgs false
set_option linter.unusedSectionVars false
namespace Go.Am
open Go
section
variable {α : Type}
/-- elements in the heap, as a slice of whoever's -/
def SlA (e : TypeId) (enc : α → List Value) (h : Heap) (v : Value) (xs : List α) : Prop := ∃ ad c, v = .slice ad xs.length c ∧ (ad = none → c = 0) ∧
  (xs = [] ∨ ∃ b off w cells rest, ad = some ⟨b, off, none⟩ ∧ h.f b = .row w e cells ∧ cells.drop off = xs.flatMap enc ++ rest ∧ off ≤ cells.length ∧ b < h.n)
/-- elements in the heap, as a slice of one's own -/
def OwA (e : TypeId) (enc : α → List Value) (h0 h : Heap) (v : Value) (xs : List α) : Prop := ∃ ad, v = .slice ad xs.length xs.length ∧
  ((ad = none ∧ xs = []) ∨ ∃ b, ad = some ⟨b, 0, none⟩ ∧ h.f b = .row true e (xs.flatMap enc) ∧ h0.n ≤ b ∧ b < h.n)
variable {e : TypeId} {enc : α → List Value} {h0 h h' : Heap} {v : Value} {xs : List α}
theorem SlA.nil : SlA e enc h (.slice none 0 0) [] := ⟨none, 0, rfl, fun _ => rfl, .inl rfl⟩
theorem SlA.shape (H : SlA e enc h v xs) : ∃ ad c, v = .slice ad xs.length c := by obtain ⟨ad, c, q, _⟩ := H; exact ⟨ad, c, q⟩
theorem SlA.ext (H : SlA e enc h v xs) (E : Ext h h') : SlA e enc h' v xs := by
  obtain ⟨ad, c, q, n, z⟩ := H
  refine ⟨ad, c, q, n, ?_⟩
  rcases z with z | ⟨b, off, w, cells, rest, z1, z2, z3, z4, z5⟩
  · exact .inl z
  · exact .inr ⟨b, off, w, cells, rest, z1, by rw [E.f b z5, z2], z3, z4, Nat.lt_of_lt_of_le z5 E.n⟩
theorem OwA.sl (H : OwA e enc h0 h v xs) : SlA e enc h v xs := by
  obtain ⟨ad, rfl, z⟩ := H
  rcases z with ⟨rfl, rfl⟩ | ⟨b, rfl, z2, z3, z4⟩
  · exact ⟨none, _, rfl, fun _ => rfl, .inl rfl⟩
  · exact ⟨_, _, rfl, fun q => by simp at q, .inr ⟨b, 0, true, _, [], rfl, z2, by simp, by simp, z4⟩⟩
theorem OwA.ext (H : OwA e enc h0 h v xs) (E : Ext h h') : OwA e enc h0 h' v xs := by
  obtain ⟨ad, q, z⟩ := H
  refine ⟨ad, q, ?_⟩
  rcases z with z | ⟨b, z1, z2, z3, z4⟩
  · exact .inl z
  · exact .inr ⟨b, z1, by rw [E.f b z4, z2], z3, Nat.lt_of_lt_of_le z4 E.n⟩
theorem OwA.nil : OwA e enc h0 h (.slice none 0 0) [] := ⟨none, rfl, .inl ⟨rfl, rfl⟩⟩
theorem flatA_len (k : Nat) (hk : ∀ x, (enc x).length = k) (xs : List α) : (xs.flatMap enc).length = xs.length * k := by
  induction xs with
  | nil => simp
  | cons t r ih => rw [List.flatMap_cons, List.length_append, ih, hk, List.length_cons, Nat.succ_mul]; omega
theorem flatA_drop (k : Nat) (hk : ∀ x, (enc x).length = k) (xs : List α) (i : Nat) : (xs.flatMap enc).drop (i * k) = (xs.drop i).flatMap enc := by
  induction xs generalizing i with
  | nil => simp
  | cons t r ih => cases i with
    | zero => simp
    | succ i =>
      rw [List.drop_succ_cons, ← ih i, List.flatMap_cons, List.drop_append]
      rw [List.drop_eq_nil_of_le (by rw [hk, Nat.succ_mul]; omega), List.nil_append, hk]
      congr 1
      rw [Nat.succ_mul]; omega
/-- one element of a slice -/
theorem SlA.at (k : Nat) (hk : ∀ x, (enc x).length = k) {ad : Option Addr} {n c : Nat} (H : SlA e enc h (.slice ad n c) xs) {i : Nat} {t : α} (hi : xs[i]? = some t) :
    n = xs.length ∧ ∃ b off w cells rest, ad = some ⟨b, off, none⟩ ∧ h.f b = .row w e cells ∧ cells.drop (off + i * k) = enc t ++ rest ∧ off + i * k + k ≤ cells.length ∧ b < h.n := by
  obtain ⟨ad', c', q, _, z⟩ := H
  simp only [Value.slice.injEq] at q
  obtain ⟨rfl, rfl, rfl⟩ := q
  have hlt : i < xs.length := by rw [List.getElem?_eq_some_iff] at hi; exact hi.1
  refine ⟨rfl, ?_⟩
  rcases z with rfl | ⟨b, off, w, cells, rest, z1, z2, z3, z4, z5⟩
  · simp at hlt
  · have hd : xs.drop i = t :: xs.drop (i + 1) := by
      rw [List.getElem?_eq_some_iff] at hi
      obtain ⟨h1, h2⟩ := hi
      rw [List.drop_eq_getElem_cons h1, h2]
    have hi2 : i * k ≤ xs.length * k := Nat.mul_le_mul_right k (by omega)
    have e : cells.drop (off + i * k) = enc t ++ ((xs.drop (i + 1)).flatMap enc ++ rest) := by
      rw [← List.drop_drop, z3, List.drop_append, flatA_drop k hk, hd, List.flatMap_cons, flatA_len k hk, List.append_assoc]
      rw [show i * k - xs.length * k = 0 by omega]; rfl
    refine ⟨b, off, w, cells, _, z1, z2, e, ?_, z5⟩
    have hl := congrArg List.length e
    rw [List.length_drop, List.length_append, hk] at hl
    rcases Nat.eq_zero_or_pos k with rfl | hk0
    · simp; omega
    · omega
end
end Go.Am
