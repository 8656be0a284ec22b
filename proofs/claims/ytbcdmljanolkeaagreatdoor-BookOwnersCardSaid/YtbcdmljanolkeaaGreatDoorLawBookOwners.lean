/- For every list of numbers and every list of commands (each list no longer than a Go int holds), law BookOwners of the program, run on them, ends and answers true. -/
import Derived.Test.YtbcdmljanolkeaaGreatDoorRows
import Derived.Test.YtbcdmljanolkeaaGreatDoorCards
import Derived.Test.YtbcdmljanolkeaaGreatDoorTie
import Derived.Test.YtbcdmljanolkeaaGreatDoorFactsBookOwners
import Derived.Test.YtbcdmljanolkeaaGreatDoorMi
import Derived.WalkKit
import Derived.ProofKit
import Derived.OpenShut
import Derived.ShutString
import Derived.ChangeOld
import Derived.Below
import Derived.SizedLaws
import Derived.ChangeSame
import Derived.ChangeVars
import Derived.JoinedOf
import Derived.RowKit
import Derived.RowKitTokens
import Derived.LaidLaws
import Derived.LaidHandle
import Derived.Stop.Joined
import Derived.SevenTiedAt
set_option linter.unusedVariables false
set_option linter.unusedSimpArgs false
set_option linter.unusedSectionVars false
set_option linter.constructorNameAsVariable false
namespace Go.Proofs.YtbcdmljanolkeaaGreatDoor.bookOwners
open Go.ChangeShapes Go.WideShapes Go.ChangeAt Go.RowKit
open Go.ChangeMaps (open_string shut_string)
set_option linter.unusedVariables false
theorem own : ownKnob Tryz.prog.godebug = none := by kernel_rfl
theorem laidOut : laidOutB Tryz.prog = true := by kernel_rfl
set_option maxRecDepth 100000 in
theorem lifted (os : Os) (started : os.Started) (H : Type) (enc : TypeId × Value → H) :
    ReturnsInHanded {} Tryz.checked os 8 .any (fun w args => (Rows.bookOwnersSpec.pre enc Tryz.prog Tryz.f8 [] false w args ∧ laidMetH Tryz.prog Go.Proofs.YtbcdmljanolkeaaGreatDoor.AmBR.list w) ∧ sizedMet enc Tryz.prog Tryz.f8 (OpenSpec.ofChange Rows.bookOwnersSpec) false w args) (Rows.bookOwnersSpec.post enc Tryz.prog Tryz.f8 false true false false) := by
  refine returnsInHanded_of_change_and (C := Tryz.checked) (X := fun w _ => laidMetH Tryz.prog Go.Proofs.YtbcdmljanolkeaaGreatDoor.AmBR.list w) (fun _ _ _ hh h => h.of_heap hh) own started (by kernel_rfl) Tryz.func8
    (ChangeSpec.witness_at (enc := enc) (C := Tryz.checked) (os := os) (X := fun w _ => laidMetH Tryz.prog Go.Proofs.YtbcdmljanolkeaaGreatDoor.AmBR.list w) false (Go.Proofs.YtbcdmljanolkeaaGreatDoor.AmBR.laidWorld os) #[.slice none 0 0, .slice none 0 0] 8 rfl (by kernel_rfl) (by kernel_rfl) (by kernel_rfl) (by kernel_rfl) (by kernel_rfl) (Go.Proofs.YtbcdmljanolkeaaGreatDoor.AmBR.laidWorld_met os _)) ?_
  intro W base args ds gs before hval0 hW _ hsz0 hL _
  have hsz : (DataW.weightsEach Tryz.prog (Tryz.f8.params.toList ++ Rows.bookOwnersSpec.plain.varTypes Tryz.prog) (ds ++ gs)).all (· ≤ reachBytes) = true := hsz0
  have hval : ∀ (j : Nat) t v, Tryz.f8.params[j]? = some t → args[j]? = some v → Value.okWide Tryz.prog W .any base t v := hval0
  have hW' := hW
  obtain ⟨p, q, hA0, hV, rfl, hfz, hnd⟩ := hW
  have hA : DataW.TrodAll enc Tryz.prog W 0 (fun _ => true) true Tryz.f8.params.toList args.toList ds p := hA0
  rw [Tryz.params8] at hA hval hsz
  obtain ⟨v0, vs0, d0, ds0, p0, q0, hargs, rfl, rfl, h0, r0⟩ := trodAll_cons hA
  obtain ⟨v1, vs1, d1, ds1, p1, q1, rfl, rfl, rfl, h1, r1⟩ := trodAll_cons r0
  obtain ⟨rfl, rfl, rfl⟩ := trodAll_nil r1
  obtain rfl : args = #[v0, v1] := by cases args; simp_all
  obtain ⟨rfl, rfl⟩ := trodVars_none hV
  obtain ⟨a0, len0, cap0, rfl⟩ := okWide_slice Tryz.underlying22 (hval 0 22 v0 rfl rfl)
  have k0 := h0
  have lt0 : ∀ x ∈ p0, x.block < W.heap.size := by obtain ⟨m, hm⟩ := k0; exact DataW.trod_lt m _ _ _ hm
  obtain ⟨z0, w0⟩ : ∃ zs, Go.Am.IntsW W a0 len0 cap0 zs ∧ ∀ z ∈ zs, (Lit.int .i64 z).wf = true := by
    obtain ⟨fuel, hf⟩ := h0
    rcases open_ints Tryz.underlying22 Tryz.underlying3 (by kernel_rfl) hf with ⟨hcs, _⟩ | ⟨x, l, c, zs, hcs, _, hl, hm, hz, _, hcell, hwz⟩
    · simp [Value.cells] at hcs
      obtain ⟨rfl, rfl, rfl⟩ := hcs
      exact ⟨[], .inl ⟨rfl, rfl, rfl, rfl⟩, fun z q => by cases q⟩
    · simp [Value.cells] at hcs
      obtain ⟨rfl, rfl, rfl⟩ := hcs
      exact ⟨zs, .inr ⟨_, rfl, hl, by simpa using hz, hcell⟩, hwz⟩
  have y0 : len0 * 8 ≤ 140737488351232 := Go.Proofs.Ybk.Sized.sized_ints hsz (j := 0) (t := 22) rfl rfl Tryz.underlying22 Tryz.underlying3 (by kernel_rfl) (by kernel_rfl) h0
  obtain ⟨a1, len1, cap1, rfl⟩ := okWide_slice Tryz.underlying23 (hval 1 23 v1 rfl rfl)
  have k1 := h1
  have lt1 : ∀ x ∈ p1, x.block < W.heap.size := by obtain ⟨m, hm⟩ := k1; exact DataW.trod_lt m _ _ _ hm
  obtain ⟨l1, z1⟩ : ∃ l : List Go.Proofs.Ybk.K.CmdR, l.length = cap1 ∧ Go.Am.RowX W 5 a1 len1 cap1 (l.flatMap Go.Proofs.Ybk.K.cmdC) ∧ len1 ≤ maxLen := by
    obtain ⟨fuel, hf⟩ := h1
    obtain ⟨a', len', cap', l, e, z⟩ := Go.Proofs.Ybk.K.open_cmds hf
    simp [Value.cells] at e
    obtain ⟨rfl, rfl, rfl⟩ := e
    exact ⟨l, z⟩
  clear hA0 hval0 hsz0 hsz
  refine (Go.Proofs.YtbcdmljanolkeaaGreatDoor.AmBookOwners.walk (Go.Proofs.YtbcdmljanolkeaaGreatDoor.AmBR.isLaid_of hL) w0 y0 z1).mono fun e W' ⟨he, bel⟩ => ?_
  subst he
  exact ⟨_, rfl, _, _, _, [], _, [], hW', trodAll_mk1 (shut_bool Tryz.underlying4 _), (trodAll_cons_mk (Below.trod laidOut (by kernel_rfl) (of_decide_eq_true (by kernel_rfl)) k0 bel lt0) (trodAll_cons_mk (Below.trod laidOut (by kernel_rfl) (of_decide_eq_true (by kernel_rfl)) k1 bel lt1) trodAll_mk0)), rfl, bel.frame _, fun h => by cases h⟩
theorem over : Rows.bookOwnersRow.holds Tryz.pinned (OpenSpec.ofChange Rows.bookOwnersSpec) :=
  OpenClaim.holds_of_wide 8 Tryz.f8 rfl rfl rfl rfl rfl rfl rfl ⟨rfl, rfl, rfl, rfl, rfl⟩ rfl rfl rfl rfl rfl Go.Proofs.YtbcdmljanolkeaaGreatDoor.bookOwnersFacts.named Tryz.func8 Go.Proofs.YtbcdmljanolkeaaGreatDoor.bookOwnersFacts.joined
    Go.Proofs.YtbcdmljanolkeaaGreatDoor.bookOwnersFacts.inst Go.Proofs.YtbcdmljanolkeaaGreatDoor.bookOwnersFacts.wrap
    (fun os started H enc _ => lifted os started H enc)
theorem card : Rows.BookOwnersCardSaid :=
  Claim7.holds_tied_plain_at .later [] [.data, .data, .data, .handle] true (true, "92cceb011a7524c3abf545b273453f8dc6903859d815d806f1d38f648edfca35") true
    over (fun _ h => by cases h) Go.Proofs.YtbcdmljanolkeaaGreatDoor.bookOwnersFacts.wfText (fun _ h => by cases h) bookOwners_row_tie rfl ⟨rfl, rfl⟩ Go.Proofs.YtbcdmljanolkeaaGreatDoor.bookOwnersFacts.isMain rfl
    (fun f fn hf hfn => by
      obtain rfl : f = 8 := Option.some.inj (Go.Proofs.YtbcdmljanolkeaaGreatDoor.bookOwnersFacts.named.symm.trans hf) |>.symm
      obtain rfl : fn = Tryz.f8 := (Option.some.inj (Tryz.func8.symm.trans hfn)).symm
      exact ⟨Go.Proofs.YtbcdmljanolkeaaGreatDoor.bookOwnersFacts.lookings, fun j t ht => by
        rw [Tryz.params8] at ht
        rcases j with _ | j
        · have e : t = 22 := by simpa using ht.symm
          subst e
          exact Go.Proofs.YtbcdmljanolkeaaGreatDoor.bookOwnersFacts.stand22
        rcases j with _ | j
        · have e : t = 23 := by simpa using ht.symm
          subst e
          exact Go.Proofs.YtbcdmljanolkeaaGreatDoor.bookOwnersFacts.stand23
        · simp at ht⟩)
    Go.Proofs.YtbcdmljanolkeaaGreatDoor.bookOwnersFacts.goes
#print axioms card
end Go.Proofs.YtbcdmljanolkeaaGreatDoor.bookOwners
namespace Go.Proofs.YtbcdmljanolkeaaGreatDoor
/-- The tied card, under a short name, for the claim. -/
theorem bookOwners_holds : Rows.BookOwnersCardSaid := bookOwners.card
end Go.Proofs.YtbcdmljanolkeaaGreatDoor

