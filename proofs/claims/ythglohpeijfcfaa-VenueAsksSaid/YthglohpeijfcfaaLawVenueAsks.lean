/- The statement VenueAsks: which venues may be, what is wrong, what comes of sorting, is what the document says; proved by walking the program and the document's answer with a machine that is proved sound ahead of it. -/
import Derived.Test.YthglohpeijfcfaaRows
import Derived.Test.YthglohpeijfcfaaAmVenueAsks
import Derived.WalkKit
import Derived.ProofKit
import Derived.OpenShut
import Derived.ShutString
import Derived.ChangeOld
import Derived.Below
import Derived.SizedLaws
set_option linter.unusedVariables false
set_option linter.unusedSimpArgs false
set_option linter.unusedSectionVars false
namespace Go.Proofs.Ythglohpeijfcfaa.venueAsks
open Go.ChangeShapes Go.WideShapes Go.ChangeAt Go.RowKit
open Go.ChangeMaps (open_string shut_string)
set_option linter.unusedVariables false
theorem own : ownKnob Try.prog.godebug = none := by kernel_rfl
theorem laidOut : laidOutB Try.prog = true := by kernel_rfl
set_option maxRecDepth 100000 in
theorem lifted (os : Os) (started : os.Started) (H : Type) (enc : TypeId × Value → H) :
    ReturnsInHanded {} Try.checked os 3 .any (Rows.venueAsksSpec.pre6 enc Try.prog Try.f3 Rows.venueAsksRow.domain false) (Rows.venueAsksSpec.post enc Try.prog Try.f3 false true false false) := by
  refine returnsInHanded_of_change_sized (C := Try.checked) own started (by kernel_rfl) Try.func3
    (ChangeSpec.witness6 (enc := enc) (C := Try.checked) false ⟨#[], #[.agg #[.slice none 0 0, .int .i64 0, .int .i64 0, .slice none 0 0, .slice none 0 0], .agg #[.slice none 0 0, .int .i64 0, .int .i64 0, .slice none 0 0, .slice none 0 0]], []⟩ 8 (by kernel_rfl) (by kernel_rfl) (by kernel_rfl) (by kernel_rfl)) ?_
  intro W base args ds gs before hval0 hW hcnd hsz0 _
  have hsz : (DataW.weightsEach Try.prog (Try.f3.params.toList ++ Rows.venueAsksSpec.plain.varTypes Try.prog) (ds ++ gs)).all (· ≤ reachBytes) = true := hsz0
  have hval : ∀ (j : Nat) t v, Try.f3.params[j]? = some t → args[j]? = some v → Value.okWide Try.prog W .any base t v := hval0
  have hW' := hW
  obtain ⟨p, q, hA0, hV, rfl, hfz, hnd⟩ := hW
  have hA : DataW.TrodAll enc Try.prog W 0 (fun _ => true) true Try.f3.params.toList args.toList ds p := hA0
  rw [Try.params3] at hA hval hsz
  obtain ⟨v0, vs0, d0, ds0, p0, q0, hargs, rfl, rfl, h0, r0⟩ := trodAll_cons hA
  obtain ⟨v1, vs1, d1, ds1, p1, q1, rfl, rfl, rfl, h1, r1⟩ := trodAll_cons r0
  obtain ⟨rfl, rfl, rfl⟩ := trodAll_nil r1
  obtain rfl : args = #[v0, v1] := by cases args; simp_all
  obtain ⟨rfl, rfl⟩ := trodVars_none hV
  have k0 := h0
  have lt0 : ∀ x ∈ p0, x.block < W.heap.size := by obtain ⟨m, hm⟩ := k0; exact DataW.trod_lt m _ _ _ hm
  obtain ⟨v00, v01, v02, v03, v04, y00, y01, y02, y03, y04, n0, rfl, t00, t01, t02, t03, t04⟩ := Go.Am.open_agg5 Try.underlying26 (by kernel_rfl) (by kernel_rfl) (hval 0 26 v0 rfl rfl) h0
  obtain ⟨a00, l00, c00, z00, e00, R00⟩ := Go.Am.open_rowS Try.underlying22 Try.underlying34 (by kernel_rfl) (by kernel_rfl) rfl (by decide) (by kernel_rfl) t00
  simp only [List.cons.injEq, and_true] at e00
  subst e00
  obtain ⟨a03, l03, c03, z03, e03, R03⟩ := Go.Am.open_rowI Try.underlying23 Try.underlying3 (by kernel_rfl) t03
  simp only [List.cons.injEq, and_true] at e03
  subst e03
  obtain ⟨a04, l04, c04, z04, e04, R04⟩ := Go.Am.open_rowS Try.underlying24 Try.underlying39 (by kernel_rfl) (by kernel_rfl) rfl (by decide) (by kernel_rfl) t04
  simp only [List.cons.injEq, and_true] at e04
  subst e04
  obtain ⟨g01, e01, _, _⟩ := DataW.trod_int Try.underlying3 t01
  simp only [List.cons.injEq, and_true] at e01
  subst e01
  obtain ⟨g02, e02, _, _⟩ := DataW.trod_int Try.underlying3 t02
  simp only [List.cons.injEq, and_true] at e02
  subst e02
  have k1 := h1
  have lt1 : ∀ x ∈ p1, x.block < W.heap.size := by obtain ⟨m, hm⟩ := k1; exact DataW.trod_lt m _ _ _ hm
  obtain ⟨v10, v11, v12, v13, v14, y10, y11, y12, y13, y14, n1, rfl, t10, t11, t12, t13, t14⟩ := Go.Am.open_agg5 Try.underlying26 (by kernel_rfl) (by kernel_rfl) (hval 1 26 v1 rfl rfl) h1
  obtain ⟨a10, l10, c10, z10, e10, R10⟩ := Go.Am.open_rowS Try.underlying22 Try.underlying34 (by kernel_rfl) (by kernel_rfl) rfl (by decide) (by kernel_rfl) t10
  simp only [List.cons.injEq, and_true] at e10
  subst e10
  obtain ⟨a13, l13, c13, z13, e13, R13⟩ := Go.Am.open_rowI Try.underlying23 Try.underlying3 (by kernel_rfl) t13
  simp only [List.cons.injEq, and_true] at e13
  subst e13
  obtain ⟨a14, l14, c14, z14, e14, R14⟩ := Go.Am.open_rowS Try.underlying24 Try.underlying39 (by kernel_rfl) (by kernel_rfl) rfl (by decide) (by kernel_rfl) t14
  simp only [List.cons.injEq, and_true] at e14
  subst e14
  obtain ⟨g11, e11, _, _⟩ := DataW.trod_int Try.underlying3 t11
  simp only [List.cons.injEq, and_true] at e11
  subst e11
  obtain ⟨g12, e12, _, _⟩ := DataW.trod_int Try.underlying3 t12
  simp only [List.cons.injEq, and_true] at e12
  subst e12
  clear hA0 hval0 hsz0 hsz
  refine (Go.Proofs.Ythglohpeijfcfaa.AmVenueAsks.walk R00 R03 R04 g01 g02 R10 R13 R14 g11 g12).mono fun e W' ⟨he, bel⟩ => ?_
  subst he
  exact ⟨_, rfl, _, _, _, [], _, [], hW', trodAll_mk1 (shut_bool Try.underlying4 _), (trodAll_cons_mk (Below.trod laidOut (by kernel_rfl) (of_decide_eq_true (by kernel_rfl)) k0 bel lt0) (trodAll_cons_mk (Below.trod laidOut (by kernel_rfl) (of_decide_eq_true (by kernel_rfl)) k1 bel lt1) trodAll_mk0)), rfl, bel.frame _, fun h => by cases h⟩
theorem over : Rows.venueAsksRow.holds Try.pinned (OpenSpec.ofChange Rows.venueAsksSpec) :=
  OpenClaim.holds_of_wide 3 Try.f3 rfl rfl rfl rfl rfl rfl rfl ⟨rfl, rfl, rfl, rfl, rfl⟩ rfl rfl rfl rfl rfl (by kernel_rfl) Try.func3 (by kernel_rfl)
    (of_decide_eq_true (by kernel_rfl)) (by unfold Func.isWrapper; first | (rw [if_pos (by decide +kernel)]; kernel_rfl) | (rw [if_neg (by decide +kernel)]; exact ⟨rfl, rfl⟩))
    (fun os started H enc _ => lifted os started H enc)
theorem proved : Rows.VenueAsksSaid := over
#print axioms proved
end Go.Proofs.Ythglohpeijfcfaa.venueAsks
namespace Go.Proofs.Ythglohpeijfcfaa
/-- The row, under a short name, for the claim. -/
theorem venueAsks_holds : Rows.VenueAsksSaid := venueAsks.proved
end Go.Proofs.Ythglohpeijfcfaa

