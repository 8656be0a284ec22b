import Derived.Test.YthglohpeijfcfaaAmVm
import Derived.Test.YthglohpeijfcfaaAmZ
set_option linter.unusedVariables false
set_option linter.unusedSimpArgs false
set_option linter.unusedSectionVars false
namespace Go.Proofs.Yth
open Go Go.Am
set_option maxRecDepth 20000
def unS : List Int → List SeatR
  | a :: b :: c :: d :: r => ⟨a, b, c, d⟩ :: unS r
  | _ => []
theorem unS_ok : ∀ (n : Nat) (zs : List Int), zs.length = n * 4 → (unS zs).length = n ∧ (unS zs).flatMap seatC = zs.map (Value.int .i64) := by
  intro n
  induction n with
  | zero => intro zs h; have : zs = [] := List.length_eq_zero_iff.1 (by omega); subst this; exact ⟨rfl, rfl⟩
  | succ n ih =>
    intro zs h
    match zs, h with
    | a :: b :: c :: d :: r, h =>
      obtain ⟨i1, i2⟩ := ih r (by simp at h; omega)
      exact ⟨by simp [unS, i1], by simp [unS, i2, seatC]⟩
    | [], h => simp at h
    | [_], h => simp at h; omega
    | [_, _], h => simp at h; omega
    | [_, _, _], h => simp at h; omega
def unP : List Int → List PoleR
  | a :: b :: c :: r => ⟨a, b, c⟩ :: unP r
  | _ => []
theorem unP_ok : ∀ (n : Nat) (zs : List Int), zs.length = n * 3 → (unP zs).length = n ∧ (unP zs).flatMap poleC = zs.map (Value.int .i64) := by
  intro n
  induction n with
  | zero => intro zs h; have : zs = [] := List.length_eq_zero_iff.1 (by omega); subst this; exact ⟨rfl, rfl⟩
  | succ n ih =>
    intro zs h
    match zs, h with
    | a :: b :: c :: r, h =>
      obtain ⟨i1, i2⟩ := ih r (by simp at h; omega)
      exact ⟨by simp [unP, i1], by simp [unP, i2, poleC]⟩
    | [], h => simp at h
    | [_], h => simp at h; omega
    | [_, _], h => simp at h; omega
theorem rowA_sl {α : Type} {e : TypeId} {enc : α → List Value} {h : Heap} {v : Value} {len : Nat} {zs : List Int} {xs : List α} (H : RowA e h v len zs) (hl : xs.length = len) (hx : xs.flatMap enc = zs.map (Value.int .i64)) : SlA e enc h v xs := by
  obtain ⟨ad, c, rfl, hc, z⟩ := H
  refine ⟨ad, c, by rw [hl], hc, ?_⟩
  rcases z with z | ⟨b, cs, rfl, h2, h3⟩
  · exact .inl (List.length_eq_zero_iff.1 (by omega))
  · exact .inr ⟨b, 0, false, _, cs, rfl, h2, by rw [hx]; rfl, by simp, h3⟩
/-- a venue as an argument -/
theorem ven_add {w : World} {ρ : Rho} {h : Heap} (L : Laid PP w ρ h) {a1 a2 a3 : Option Addr} {l1 c1 l2 c2 l3 c3 : Nat} {z1 z2 z3 : List Int} (R1 : RowW w 4 a1 l1 c1 z1) (R2 : RowW w 1 a2 l2 c2 z2) (R3 : RowW w 3 a3 l3 c3 z3) (g r : Int) :
    ∃ h' ρ' v cs, Laid PP w ρ' h' ∧ Ext h h' ∧ (∀ b pl, ρ (false, b) = some pl → ρ' (false, b) = some pl) ∧ VenC h' v cs ∧ VR ρ' (.agg ⟨cs⟩) (.agg #[.slice a1 l1 c1, .int .i64 g, .int .i64 r, .slice a2 l2 c2, .slice a3 l3 c3]) := by
  obtain ⟨h1, v1, ρ1, L1, E1, M1, V1, A1, n1⟩ := glue_add (e := 34) (sz := 4) co34 (by decide) L R1
  obtain ⟨h2, v2, ρ2, L2, E2, M2, V2, A2, n2⟩ := glue_add (e := 3) (sz := 1) co3 (by decide) L1 R2
  obtain ⟨h3, v3, ρ3, L3, E3, M3, V3, A3, n3⟩ := glue_add (e := 39) (sz := 3) co39 (by decide) L2 R3
  obtain ⟨u1, u2⟩ := unS_ok _ _ n1
  obtain ⟨u3, u4⟩ := unP_ok _ _ n3
  have i1 : (z2.take (l2 * 1)).flatMap intC = (z2.take (l2 * 1)).map (Value.int .i64) := int_map _
  refine ⟨h3, ρ3, ⟨unS (z1.take (l1 * 4)), g, r, z2.take (l2 * 1), unP (z3.take (l3 * 3))⟩, [v1, .int .i64 g, .int .i64 r, v2, v3], L3, (E1.trans E2).trans E3, fun b pl q => M3 _ _ (M2 _ _ (M1 _ _ q)),
    ⟨v1, v2, v3, rfl, ((rowA_sl A1 u1 u2).ext E2).ext E3, (rowA_sl A2 (by omega) i1).ext E3, rowA_sl A3 u3 u4⟩, .agg _ _ rfl fun p hp => ?_⟩
  simp only [List.zip_cons_cons, List.zip_nil_right, List.mem_cons, List.not_mem_nil, or_false] at hp
  rcases hp with rfl | rfl | rfl | rfl | rfl
  · exact (V1.mono fun b pl q => M2 _ _ q).mono fun b pl q => M3 _ _ q
  · exact .int _ _
  · exact .int _ _
  · exact V2.mono fun b pl q => M3 _ _ q
  · exact V3
end Go.Proofs.Yth
