/- The statement VenueLess: of two seats one is less, or they stand at one place of one row; proved by walking the program with a machine that is proved sound ahead of it. -/
import Derived.Test.YthglohpeijfcfaaRows
import Derived.Test.YthglohpeijfcfaaAmVenueLess
import Derived.WalkKit
import Derived.ProofKit
import Derived.OpenShut
import Derived.ShutString
import Derived.ChangeOld
import Derived.Below
import Derived.SizedLaws
import Derived.Lib.SmallJoins
set_option linter.unusedVariables false
set_option linter.unusedSimpArgs false
set_option linter.unusedSectionVars false
namespace Go.Proofs.Ythglohpeijfcfaa.venueLess
open Go.ChangeShapes Go.WideShapes Go.ChangeAt Go.RowKit
open Go.ChangeMaps (open_string shut_string)
set_option linter.unusedVariables false
theorem own : ownKnob Try.prog.godebug = none := by kernel_rfl
set_option maxRecDepth 100000 in
theorem lifted (os : Os) (started : os.Started) (H : Type) (enc : TypeId × Value → H) :
    ReturnsInHanded {} Try.checked os 4 .any (Rows.venueLessSpec.pre6 enc Try.prog Try.f4 Rows.venueLessRow.domain false) (Rows.venueLessSpec.post enc Try.prog Try.f4 false true false false) := by
  refine returnsInHanded_of_change_sized (C := Try.checked) own started (by kernel_rfl) Try.func4
    (ChangeSpec.witness6 (enc := enc) (C := Try.checked) false ⟨#[], #[.agg #[.int .i64 0, .int .i64 0, .int .i64 0, .int .i64 0], .agg #[.int .i64 0, .int .i64 0, .int .i64 0, .int .i64 0]], []⟩ 8 (by kernel_rfl) (by kernel_rfl) (by kernel_rfl) (by kernel_rfl)) ?_
  intro W base args ds gs before hval0 hW hcnd hsz0 _
  have hsz : (DataW.weightsEach Try.prog (Try.f4.params.toList ++ Rows.venueLessSpec.plain.varTypes Try.prog) (ds ++ gs)).all (· ≤ reachBytes) = true := hsz0
  have hval : ∀ (j : Nat) t v, Try.f4.params[j]? = some t → args[j]? = some v → Value.okWide Try.prog W .any base t v := hval0
  have hW' := hW
  obtain ⟨p, q, hA0, hV, rfl, hfz, hnd⟩ := hW
  have hA : DataW.TrodAll enc Try.prog W 0 (fun _ => true) true Try.f4.params.toList args.toList ds p := hA0
  rw [Try.params4] at hA hval hsz
  obtain ⟨v0, vs0, d0, ds0, p0, q0, hargs, rfl, rfl, h0, r0⟩ := trodAll_cons hA
  obtain ⟨v1, vs1, d1, ds1, p1, q1, rfl, rfl, rfl, h1, r1⟩ := trodAll_cons r0
  obtain ⟨rfl, rfl, rfl⟩ := trodAll_nil r1
  obtain rfl : args = #[v0, v1] := by cases args; simp_all
  obtain ⟨rfl, rfl⟩ := trodVars_none hV
  obtain ⟨c00, c01, c02, c03, y00, y01, y02, y03, n0, rfl, rfl, rfl, g00, g01, g02, g03⟩ := Go.Joins.open_agg4 Try.underlying34 (by kernel_rfl) (by kernel_rfl) (hval 0 34 v0 rfl rfl) h0
  obtain ⟨a00, e00, z00, w00⟩ := DataW.trod_int Try.underlying3 g00
  simp only [List.cons.injEq, and_true] at e00
  subst e00; subst z00
  obtain ⟨a01, e01, z01, w01⟩ := DataW.trod_int Try.underlying3 g01
  simp only [List.cons.injEq, and_true] at e01
  subst e01; subst z01
  obtain ⟨a02, e02, z02, w02⟩ := DataW.trod_int Try.underlying3 g02
  simp only [List.cons.injEq, and_true] at e02
  subst e02; subst z02
  obtain ⟨a03, e03, z03, w03⟩ := DataW.trod_int Try.underlying3 g03
  simp only [List.cons.injEq, and_true] at e03
  subst e03; subst z03
  obtain ⟨c10, c11, c12, c13, y10, y11, y12, y13, n1, rfl, rfl, rfl, g10, g11, g12, g13⟩ := Go.Joins.open_agg4 Try.underlying34 (by kernel_rfl) (by kernel_rfl) (hval 1 34 v1 rfl rfl) h1
  obtain ⟨a10, e10, z10, w10⟩ := DataW.trod_int Try.underlying3 g10
  simp only [List.cons.injEq, and_true] at e10
  subst e10; subst z10
  obtain ⟨a11, e11, z11, w11⟩ := DataW.trod_int Try.underlying3 g11
  simp only [List.cons.injEq, and_true] at e11
  subst e11; subst z11
  obtain ⟨a12, e12, z12, w12⟩ := DataW.trod_int Try.underlying3 g12
  simp only [List.cons.injEq, and_true] at e12
  subst e12; subst z12
  obtain ⟨a13, e13, z13, w13⟩ := DataW.trod_int Try.underlying3 g13
  simp only [List.cons.injEq, and_true] at e13
  subst e13; subst z13
  clear hA0 hval0 hsz0 hsz
  refine (Go.Proofs.Ythglohpeijfcfaa.AmVenueLess.walk ⟨a00, a01, a02, a03⟩ ⟨a10, a11, a12, a13⟩).mono fun e W' ⟨he, bel⟩ => ?_
  subst he
  exact ⟨_, rfl, _, _, _, [], _, [], hW', trodAll_mk1 (shut_bool Try.underlying4 _), (trodAll_cons_mk (Go.Joins.shut_agg4 Try.underlying34 (by kernel_rfl) (by kernel_rfl) (shut_int Try.underlying3 w00) (shut_int Try.underlying3 w01) (shut_int Try.underlying3 w02) (shut_int Try.underlying3 w03)) (trodAll_cons_mk (Go.Joins.shut_agg4 Try.underlying34 (by kernel_rfl) (by kernel_rfl) (shut_int Try.underlying3 w10) (shut_int Try.underlying3 w11) (shut_int Try.underlying3 w12) (shut_int Try.underlying3 w13)) trodAll_mk0)), rfl, bel.frame _, fun h => by cases h⟩
theorem over : Rows.venueLessRow.holds Try.pinned (OpenSpec.ofChange Rows.venueLessSpec) :=
  OpenClaim.holds_of_wide 4 Try.f4 rfl rfl rfl rfl rfl rfl rfl ⟨rfl, rfl, rfl, rfl, rfl⟩ rfl rfl rfl rfl rfl (by kernel_rfl) Try.func4 (by kernel_rfl)
    (of_decide_eq_true (by kernel_rfl)) (by unfold Func.isWrapper; first | (rw [if_pos (by decide +kernel)]; kernel_rfl) | (rw [if_neg (by decide +kernel)]; exact ⟨rfl, rfl⟩))
    (fun os started H enc _ => lifted os started H enc)
theorem proved : Rows.VenueLessSaid := over
#print axioms proved
end Go.Proofs.Ythglohpeijfcfaa.venueLess
namespace Go.Proofs.Ythglohpeijfcfaa
/-- The row, under a short name, for the claim. -/
theorem venueLess_holds : Rows.VenueLessSaid := venueLess.proved
end Go.Proofs.Ythglohpeijfcfaa

