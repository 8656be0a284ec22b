/-
  DERIVED. GIVEN WITH THE SEED: THE CARDS: each row of YtmmbndbpjanfhaaDoorRows.lean that lists a variable, with what it lists TIED to the program's text (the seventh form; the later family's looks); each row that meets fmt, with fmt's text TOLD by the authors' own Lean function (tested against real Go, not proved from fmt's source: count such statements apart). THE CARD IS WHAT COUNTS. Prove the row's statement (the work); the ties are given (YtmmbndbpjanfhaaDoorTie.lean); close each card by the builder's one call (the guide's Derived/Test/ToyasCard.lean, 'card_holds'). Laid BY PROGRAM, IN A SANDBOX (cutbox-door.mjs). By AI agents, Wed Nov 11 2026. No macro, syntax, notation, axiom, sorry.
-/
import Derived.Test.YtmmbndbpjanfhaaDoorRows
import GoSem.ClaimSeven
namespace Go.Proofs.YtmmbndbpjanfhaaDoor
namespace Rows

/-- THE TIED CARD OF 'parterrelaw1.FaultNew'. -/
def faultNewCard : Claim7 := { stood := { row := faultNewRow, standIns := [], harness := (true, "bb14b546994674fc38f3fdfe6f768e9d015d9d31a9859b67790c12b05d670f09"), looks := true }, kinds := [], alts := [], laidByText := true, laidKinds := [.data, .data, .data, .handle], laidTests := true, laidLooks := .later }
def FaultNewCardSaid : Prop := Claim7.holds Tryd.pinned (.plain (OpenSpec.ofChange faultNewSpec)) faultNewCard

/-- THE TIED CARD OF 'parterrelaw1.FaultWraps'. -/
def faultWrapsCard : Claim7 := { stood := { row := faultWrapsRow, standIns := [], harness := (true, "bb14b546994674fc38f3fdfe6f768e9d015d9d31a9859b67790c12b05d670f09"), looks := true }, kinds := [], alts := [], laidByText := true, laidKinds := [.data, .data, .data, .handle], laidTests := true, laidLooks := .later }
def FaultWrapsCardSaid : Prop := Claim7.holds Tryd.pinned (.plain (OpenSpec.ofChange faultWrapsSpec)) faultWrapsCard

/-- THE TIED CARD OF 'parterrelaw1.FaultNone'. -/
def faultNoneCard : Claim7 := { stood := { row := faultNoneRow, standIns := [], harness := (true, "bb14b546994674fc38f3fdfe6f768e9d015d9d31a9859b67790c12b05d670f09"), looks := true }, kinds := [], alts := [], laidByText := true, laidKinds := [.data, .data, .data, .handle], laidTests := true, laidLooks := .later }
def FaultNoneCardSaid : Prop := Claim7.holds Tryd.pinned (.plain (OpenSpec.ofChange faultNoneSpec)) faultNoneCard

/-- THE TIED CARD OF 'parterrelaw1.FaultDepth'. -/
def faultDepthCard : Claim7 := { stood := { row := faultDepthRow, standIns := [], harness := (true, "bb14b546994674fc38f3fdfe6f768e9d015d9d31a9859b67790c12b05d670f09"), looks := true }, kinds := [], alts := [], laidByText := true, laidKinds := [.data, .data, .data, .handle], laidTests := true, laidLooks := .later }
def FaultDepthCardSaid : Prop := Claim7.holds Tryd.pinned (.plain (OpenSpec.ofChange faultDepthSpec)) faultDepthCard

/-- THE SECOND FORM's CARD OF 'parterrelaw1.FaultNew'. -/
def faultNewUptoCard : Claim7 := { stood := { row := faultNewUptoRow, standIns := [], harness := (true, "bb14b546994674fc38f3fdfe6f768e9d015d9d31a9859b67790c12b05d670f09"), looks := true }, kinds := [], alts := [], laidByText := true, laidKinds := [.data, .data, .data, .handle], laidTests := true, laidLooks := .later }
def FaultNewUptoCardSaid : Prop := Claim7.holds Tryd.pinned (.plain (OpenSpec.upto faultNewSpec)) faultNewUptoCard

/-- THE SECOND FORM's CARD OF 'parterrelaw1.FaultWraps'. -/
def faultWrapsUptoCard : Claim7 := { stood := { row := faultWrapsUptoRow, standIns := [], harness := (true, "bb14b546994674fc38f3fdfe6f768e9d015d9d31a9859b67790c12b05d670f09"), looks := true }, kinds := [], alts := [], laidByText := true, laidKinds := [.data, .data, .data, .handle], laidTests := true, laidLooks := .later }
def FaultWrapsUptoCardSaid : Prop := Claim7.holds Tryd.pinned (.plain (OpenSpec.upto faultWrapsSpec)) faultWrapsUptoCard

/-- THE SECOND FORM's CARD OF 'parterrelaw1.FaultNone'. -/
def faultNoneUptoCard : Claim7 := { stood := { row := faultNoneUptoRow, standIns := [], harness := (true, "bb14b546994674fc38f3fdfe6f768e9d015d9d31a9859b67790c12b05d670f09"), looks := true }, kinds := [], alts := [], laidByText := true, laidKinds := [.data, .data, .data, .handle], laidTests := true, laidLooks := .later }
def FaultNoneUptoCardSaid : Prop := Claim7.holds Tryd.pinned (.plain (OpenSpec.upto faultNoneSpec)) faultNoneUptoCard

/-- THE SECOND FORM's CARD OF 'parterrelaw1.FaultDepth'. -/
def faultDepthUptoCard : Claim7 := { stood := { row := faultDepthUptoRow, standIns := [], harness := (true, "bb14b546994674fc38f3fdfe6f768e9d015d9d31a9859b67790c12b05d670f09"), looks := true }, kinds := [], alts := [], laidByText := true, laidKinds := [.data, .data, .data, .handle], laidTests := true, laidLooks := .later }
def FaultDepthUptoCardSaid : Prop := Claim7.holds Tryd.pinned (.plain (OpenSpec.upto faultDepthSpec)) faultDepthUptoCard
end Rows
end Go.Proofs.YtmmbndbpjanfhaaDoor
