import Derived.Test.YtmmbndbpjanfhaaDoorAmFC
import Derived.Test.YtmmbndbpjanfhaaDoorAmF9
import Derived.Test.YtmmbndbpjanfhaaDoorAmFS
import Derived.ChangeShapes
set_option linter.unusedVariables false
set_option linter.unusedSimpArgs false
set_option linter.unusedSectionVars false
namespace Go.Proofs.YtmmbndbpjanfhaaDoor.AmFaultWraps
open Go Go.Am Go.RowKit
theorem wf_in {n : Int} (h : (Lit.int .i64 n).wf = true) : Flt.InR n := by
  simp only [Lit.wf, Bool.and_eq_true, decide_eq_true_eq] at h
  exact h
theorem walk {W : World} (L : Flt.isLaid W) (n : Int) (wn : (Lit.int .i64 n).wf = true) (a : Int) (wa : (Lit.int .i64 a).wf = true) (b : Int) (wb : (Lit.int .i64 b).wf = true) {ad : Option Addr} {len cap : Nat} {zs : List Int} (wz : IntsW W ad len cap zs ∧ ∀ z ∈ zs, (Lit.int .i64 z).wf = true) (hl : len * 8 ≤ 140737488351232) :
    Calls Tryd.prog 4 #[.int .i64 n, .int .i64 a, .int .i64 b, .slice ad len cap] W (fun e w' => e = .returned (.bool true) ∧ Below W.heap.size W w') := by
  obtain ⟨h, ρ, v, S, V, I, hlen⟩ := Flt.start_ints L wz.1
  rw [← Flt.PP_eq]
  exact Flt.law_walk2 S (Flt.wrapsLaw_ok n a b (wf_in wa) (wf_in wb) v (zs.take len) (fun z q => wf_in (wz.2 z (List.mem_of_mem_take q))) (by omega) h S.glob I) ⟨rfl, fun i u hi => by
    match i, hi with
    | 0, hi => simp at hi; subst hi; exact ⟨_, rfl, .int _ _⟩
    | 1, hi => simp at hi; subst hi; exact ⟨_, rfl, .int _ _⟩
    | 2, hi => simp at hi; subst hi; exact ⟨_, rfl, .int _ _⟩
    | 3, hi => simp at hi; subst hi; exact ⟨_, rfl, V⟩
    | i + 4, hi => simp at hi⟩
end Go.Proofs.YtmmbndbpjanfhaaDoor.AmFaultWraps
