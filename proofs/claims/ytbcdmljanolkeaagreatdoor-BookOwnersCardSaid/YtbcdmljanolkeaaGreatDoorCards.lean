/-
  DERIVED. GIVEN WITH THE SEED: THE CARDS: each row of YtbcdmljanolkeaaGreatDoorRows.lean that lists a variable, with what it lists TIED to the program's text (the seventh form; the later family's looks); each row that meets fmt, with fmt's text TOLD by the authors' own Lean function (tested against real Go, not proved from fmt's source: count such statements apart). THE CARD IS WHAT COUNTS. Prove the row's statement (the work); the ties are given (YtbcdmljanolkeaaGreatDoorTie.lean); close each card by the builder's one call (the guide's Derived/Test/ToyasCard.lean, 'card_holds'). Laid BY PROGRAM, IN A SANDBOX (cutbox-door.mjs). By AI agents, Wed Nov 11 2026. No macro, syntax, notation, axiom, sorry.
-/
import Derived.Test.YtbcdmljanolkeaaGreatDoorRows
import GoSem.ClaimSeven
namespace Go.Proofs.YtbcdmljanolkeaaGreatDoor
namespace Rows

/-- THE TIED CARD OF 'parterrelaw23.BookIds'. -/
def bookIdsCard : Claim7 := { stood := { row := bookIdsRow, standIns := [], harness := (true, "92cceb011a7524c3abf545b273453f8dc6903859d815d806f1d38f648edfca35"), looks := true }, kinds := [], alts := [], laidByText := true, laidKinds := [.data, .data, .data, .handle], laidTests := true, laidLooks := .later }
def BookIdsCardSaid : Prop := Claim7.holds Tryz.pinned (.plain (OpenSpec.ofChange bookIdsSpec)) bookIdsCard

/-- THE TIED CARD OF 'parterrelaw23.BookRecords'. -/
def bookRecordsCard : Claim7 := { stood := { row := bookRecordsRow, standIns := [], harness := (true, "92cceb011a7524c3abf545b273453f8dc6903859d815d806f1d38f648edfca35"), looks := true }, kinds := [], alts := [], laidByText := true, laidKinds := [.data, .data, .data, .handle], laidTests := true, laidLooks := .later }
def BookRecordsCardSaid : Prop := Claim7.holds Tryz.pinned (.plain (OpenSpec.ofChange bookRecordsSpec)) bookRecordsCard

/-- THE TIED CARD OF 'parterrelaw23.BookTicks'. -/
def bookTicksCard : Claim7 := { stood := { row := bookTicksRow, standIns := [], harness := (true, "92cceb011a7524c3abf545b273453f8dc6903859d815d806f1d38f648edfca35"), looks := true }, kinds := [], alts := [], laidByText := true, laidKinds := [.data, .data, .data, .handle], laidTests := true, laidLooks := .later }
def BookTicksCardSaid : Prop := Claim7.holds Tryz.pinned (.plain (OpenSpec.ofChange bookTicksSpec)) bookTicksCard

/-- THE TIED CARD OF 'parterrelaw23.BookQuiet'. -/
def bookQuietCard : Claim7 := { stood := { row := bookQuietRow, standIns := [], harness := (true, "92cceb011a7524c3abf545b273453f8dc6903859d815d806f1d38f648edfca35"), looks := true }, kinds := [], alts := [], laidByText := true, laidKinds := [.data, .data, .data, .handle], laidTests := true, laidLooks := .later }
def BookQuietCardSaid : Prop := Claim7.holds Tryz.pinned (.plain (OpenSpec.ofChange bookQuietSpec)) bookQuietCard

/-- THE TIED CARD OF 'parterrelaw23.BookPlays'. -/
def bookPlaysCard : Claim7 := { stood := { row := bookPlaysRow, standIns := [], harness := (true, "92cceb011a7524c3abf545b273453f8dc6903859d815d806f1d38f648edfca35"), looks := true }, kinds := [], alts := [], laidByText := true, laidKinds := [.data, .data, .data, .handle], laidTests := true, laidLooks := .later }
def BookPlaysCardSaid : Prop := Claim7.holds Tryz.pinned (.plain (OpenSpec.ofChange bookPlaysSpec)) bookPlaysCard

/-- THE TIED CARD OF 'parterrelaw23.BookOwners'. -/
def bookOwnersCard : Claim7 := { stood := { row := bookOwnersRow, standIns := [], harness := (true, "92cceb011a7524c3abf545b273453f8dc6903859d815d806f1d38f648edfca35"), looks := true }, kinds := [], alts := [], laidByText := true, laidKinds := [.data, .data, .data, .handle], laidTests := true, laidLooks := .later }
def BookOwnersCardSaid : Prop := Claim7.holds Tryz.pinned (.plain (OpenSpec.ofChange bookOwnersSpec)) bookOwnersCard

/-- THE TIED CARD OF 'parterrelaw23.BookApply'. -/
def bookApplyCard : Claim7 := { stood := { row := bookApplyRow, standIns := [], harness := (true, "92cceb011a7524c3abf545b273453f8dc6903859d815d806f1d38f648edfca35"), looks := true }, kinds := [], alts := [], laidByText := true, laidKinds := [.data, .data, .data, .handle], laidTests := true, laidLooks := .later }
def BookApplyCardSaid : Prop := Claim7.holds Tryz.pinned (.plain (OpenSpec.ofChange bookApplySpec)) bookApplyCard

/-- THE SECOND FORM's CARD OF 'parterrelaw23.BookIds'. -/
def bookIdsUptoCard : Claim7 := { stood := { row := bookIdsUptoRow, standIns := [], harness := (true, "92cceb011a7524c3abf545b273453f8dc6903859d815d806f1d38f648edfca35"), looks := true }, kinds := [], alts := [], laidByText := true, laidKinds := [.data, .data, .data, .handle], laidTests := true, laidLooks := .later }
def BookIdsUptoCardSaid : Prop := Claim7.holds Tryz.pinned (.plain (OpenSpec.upto bookIdsSpec)) bookIdsUptoCard

/-- THE SECOND FORM's CARD OF 'parterrelaw23.BookRecords'. -/
def bookRecordsUptoCard : Claim7 := { stood := { row := bookRecordsUptoRow, standIns := [], harness := (true, "92cceb011a7524c3abf545b273453f8dc6903859d815d806f1d38f648edfca35"), looks := true }, kinds := [], alts := [], laidByText := true, laidKinds := [.data, .data, .data, .handle], laidTests := true, laidLooks := .later }
def BookRecordsUptoCardSaid : Prop := Claim7.holds Tryz.pinned (.plain (OpenSpec.upto bookRecordsSpec)) bookRecordsUptoCard

/-- THE SECOND FORM's CARD OF 'parterrelaw23.BookTicks'. -/
def bookTicksUptoCard : Claim7 := { stood := { row := bookTicksUptoRow, standIns := [], harness := (true, "92cceb011a7524c3abf545b273453f8dc6903859d815d806f1d38f648edfca35"), looks := true }, kinds := [], alts := [], laidByText := true, laidKinds := [.data, .data, .data, .handle], laidTests := true, laidLooks := .later }
def BookTicksUptoCardSaid : Prop := Claim7.holds Tryz.pinned (.plain (OpenSpec.upto bookTicksSpec)) bookTicksUptoCard

/-- THE SECOND FORM's CARD OF 'parterrelaw23.BookQuiet'. -/
def bookQuietUptoCard : Claim7 := { stood := { row := bookQuietUptoRow, standIns := [], harness := (true, "92cceb011a7524c3abf545b273453f8dc6903859d815d806f1d38f648edfca35"), looks := true }, kinds := [], alts := [], laidByText := true, laidKinds := [.data, .data, .data, .handle], laidTests := true, laidLooks := .later }
def BookQuietUptoCardSaid : Prop := Claim7.holds Tryz.pinned (.plain (OpenSpec.upto bookQuietSpec)) bookQuietUptoCard

/-- THE SECOND FORM's CARD OF 'parterrelaw23.BookPlays'. -/
def bookPlaysUptoCard : Claim7 := { stood := { row := bookPlaysUptoRow, standIns := [], harness := (true, "92cceb011a7524c3abf545b273453f8dc6903859d815d806f1d38f648edfca35"), looks := true }, kinds := [], alts := [], laidByText := true, laidKinds := [.data, .data, .data, .handle], laidTests := true, laidLooks := .later }
def BookPlaysUptoCardSaid : Prop := Claim7.holds Tryz.pinned (.plain (OpenSpec.upto bookPlaysSpec)) bookPlaysUptoCard

/-- THE SECOND FORM's CARD OF 'parterrelaw23.BookOwners'. -/
def bookOwnersUptoCard : Claim7 := { stood := { row := bookOwnersUptoRow, standIns := [], harness := (true, "92cceb011a7524c3abf545b273453f8dc6903859d815d806f1d38f648edfca35"), looks := true }, kinds := [], alts := [], laidByText := true, laidKinds := [.data, .data, .data, .handle], laidTests := true, laidLooks := .later }
def BookOwnersUptoCardSaid : Prop := Claim7.holds Tryz.pinned (.plain (OpenSpec.upto bookOwnersSpec)) bookOwnersUptoCard

/-- THE SECOND FORM's CARD OF 'parterrelaw23.BookApply'. -/
def bookApplyUptoCard : Claim7 := { stood := { row := bookApplyUptoRow, standIns := [], harness := (true, "92cceb011a7524c3abf545b273453f8dc6903859d815d806f1d38f648edfca35"), looks := true }, kinds := [], alts := [], laidByText := true, laidKinds := [.data, .data, .data, .handle], laidTests := true, laidLooks := .later }
def BookApplyUptoCardSaid : Prop := Claim7.holds Tryz.pinned (.plain (OpenSpec.upto bookApplySpec)) bookApplyUptoCard
end Rows
end Go.Proofs.YtbcdmljanolkeaaGreatDoor
