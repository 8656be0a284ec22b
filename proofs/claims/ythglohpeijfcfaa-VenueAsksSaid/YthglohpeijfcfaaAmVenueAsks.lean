import Derived.Test.YthglohpeijfcfaaAmVn
import Derived.Test.YthglohpeijfcfaaAmW
set_option linter.unusedVariables false
set_option linter.unusedSimpArgs false
set_option linter.unusedSectionVars false
namespace Go.Proofs.Ythglohpeijfcfaa.AmVenueAsks
open Go Go.Am Go.RowKit
theorem walk {W : World} {a1 a2 a3 : Option Addr} {l1 c1 l2 c2 l3 c3 : Nat} {z1 z2 z3 : List Int} (R1 : RowW W 4 a1 l1 c1 z1) (R2 : RowW W 1 a2 l2 c2 z2) (R3 : RowW W 3 a3 l3 c3 z3) (g r : Int)
    {b1 b2 b3 : Option Addr} {m1 d1 m2 d2 m3 d3 : Nat} {y1 y2 y3 : List Int} (S1 : RowW W 4 b1 m1 d1 y1) (S2 : RowW W 1 b2 m2 d2 y2) (S3 : RowW W 3 b3 m3 d3 y3) (g' r' : Int) :
    Calls Try.prog 3 #[.agg #[.slice a1 l1 c1, .int .i64 g, .int .i64 r, .slice a2 l2 c2, .slice a3 l3 c3], .agg #[.slice b1 m1 d1, .int .i64 g', .int .i64 r', .slice b2 m2 d2, .slice b3 m3 d3]] W
      (fun e w' => e = .returned (.bool true) ∧ Below W.heap.size W w') := by
  rw [← Yth.PP_eq]
  obtain ⟨h1, ρ1, v, cv, L1, E1, M1, Hv, V1⟩ := Yth.ven_add (Laid.start Yth.PP W) R1 R2 R3 g r
  obtain ⟨h2, ρ2, u, cu, L2, E2, M2, Hu, V2⟩ := Yth.ven_add L1 S1 S2 S3 g' r'
  exact law_walk (Yth.asks_ok v u cv cu h2 (Hv.ext E2) Hu) (fun _ _ q => q) L2.box L2.rel ⟨rfl, fun i x hi => by
    match i, hi with
    | 0, hi => simp at hi; subst hi; exact ⟨_, rfl, V1.mono fun b pl q => M2 _ _ q⟩
    | 1, hi => simp at hi; subst hi; exact ⟨_, rfl, V2⟩
    | i + 2, hi => simp at hi⟩ L2.own
end Go.Proofs.Ythglohpeijfcfaa.AmVenueAsks
