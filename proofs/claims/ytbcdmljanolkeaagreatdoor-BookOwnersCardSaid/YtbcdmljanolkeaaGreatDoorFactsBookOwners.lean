/- Closed facts of the program that the statement's card asks. -/
import Derived.Test.YtbcdmljanolkeaaGreatDoorRows
import Derived.Test.YtbcdmljanolkeaaGreatDoorCards
import Derived.Test.YtbcdmljanolkeaaGreatDoorTie
import Derived.WalkKit
import Derived.ProofKit
import Derived.OpenShut
import Derived.ShutString
import Derived.ChangeOld
import Derived.Below
import Derived.SizedLaws
import Derived.ChangeSame
import Derived.ChangeVars
import Derived.JoinedOf
import Derived.RowKit
import Derived.RowKitTokens
import Derived.LaidLaws
import Derived.LaidHandle
import Derived.Stop.Joined
import Derived.SevenTiedAt
namespace Go.Proofs.YtbcdmljanolkeaaGreatDoor.bookOwnersFacts
open Go Go.ChangeShapes Go.WideShapes Go.ChangeAt Go.RowKit
set_option maxHeartbeats 8000000
theorem named : Tryz.pinned.checked.prog.funcNamed Rows.bookOwnersRow.func = some 8 := by kernel_rfl
theorem and2 {a b : Bool} (h : a = true) (g : b = true) : (a && b) = true := by rw [h, g]; rfl
theorem joined : joinedFacts Tryz.pinned.checked.prog 8 Tryz.f8 Rows.bookOwnersSpec Rows.bookOwnersRow = true := by
  unfold joinedFacts
  repeat' with_reducible refine and2 ?_ ?_
  all_goals as_aux_lemma => kernel_rfl
theorem inst : Func.isInstance Tryz.pinned.checked.prog Tryz.f8 Rows.bookOwnersRow.origin Rows.bookOwnersRow.targs := of_decide_eq_true (by kernel_rfl)
theorem wrap : Func.isWrapper Tryz.pinned.checked.prog Tryz.f8 Rows.bookOwnersRow.wrapper Rows.bookOwnersRow.mainSum := by unfold Func.isWrapper; first | (rw [if_pos (by decide +kernel)]; kernel_rfl) | (rw [if_neg (by decide +kernel)]; exact ⟨rfl, rfl⟩)
theorem wfText : OpenClaim.wfByText (OpenSpec.ofChange Rows.bookOwnersSpec) Rows.bookOwnersRow = true := by kernel_rfl
theorem isMain : Tryz.pinned.checked.prog.mainIs = some (true, "92cceb011a7524c3abf545b273453f8dc6903859d815d806f1d38f648edfca35".toList) := by kernel_rfl
theorem lookings : true = Tryz.pinned.checked.prog.looks [] := by kernel_rfl
theorem goes : false = Rows.bookOwnersRow.goesBy Tryz.pinned.checked.prog := by kernel_rfl
theorem stand22 : Tryz.pinned.checked.prog.wantsStandIn 22 = false := by kernel_rfl
theorem stand23 : Tryz.pinned.checked.prog.wantsStandIn 23 = false := by kernel_rfl
end Go.Proofs.YtbcdmljanolkeaaGreatDoor.bookOwnersFacts
