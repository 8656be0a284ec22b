/-
  DERIVED. GIVEN WITH THE SEED: THE CARDS: each row of YthglohpeijfcfaaGreatDoorRows.lean that lists a variable, with what it lists TIED to the program's text (the seventh form; the later family's looks); each row that meets fmt, with fmt's text TOLD by the authors' own Lean function (tested against real Go, not proved from fmt's source: count such statements apart). THE CARD IS WHAT COUNTS. Prove the row's statement (the work); the ties are given (YthglohpeijfcfaaGreatDoorTie.lean); close each card by the builder's one call (the guide's Derived/Test/ToyasCard.lean, 'card_holds'). Laid BY PROGRAM, IN A SANDBOX (cutbox-door.mjs). By AI agents, Wed Nov 11 2026. No macro, syntax, notation, axiom, sorry.
-/
import Derived.Test.YthglohpeijfcfaaGreatDoorRows
import GoSem.ClaimSeven
namespace Go.Proofs.YthglohpeijfcfaaGreatDoor
namespace Rows

/-- THE TIED CARD OF 'parterrelaw4.ParseAsks'. -/
def parseAsksCard : Claim7 := { stood := { row := parseAsksRow, standIns := [], harness := (true, "3dc6fd6ccc5217ae943639b1398298a5b6f3e7ba8177beeeaf31b7a7450baec4"), looks := true }, kinds := [], alts := [], laidByText := true, laidKinds := [.handle], laidTests := true, laidLooks := .later }
def ParseAsksCardSaid : Prop := Claim7.holds Tryz.pinned (.plain (OpenSpec.ofChange parseAsksSpec)) parseAsksCard

/-- THE TIED CARD OF 'parterrelaw4.ParseMay'. -/
def parseMayCard : Claim7 := { stood := { row := parseMayRow, standIns := [], harness := (true, "3dc6fd6ccc5217ae943639b1398298a5b6f3e7ba8177beeeaf31b7a7450baec4"), looks := true }, kinds := [], alts := [], laidByText := true, laidKinds := [.handle], laidTests := true, laidLooks := .later }
def ParseMayCardSaid : Prop := Claim7.holds Tryz.pinned (.plain (OpenSpec.ofChange parseMaySpec)) parseMayCard

/-- THE TIED CARD OF 'parterrelaw4.ParseBack'. -/
def parseBackCard : Claim7 := { stood := { row := parseBackRow, standIns := [], harness := (true, "3dc6fd6ccc5217ae943639b1398298a5b6f3e7ba8177beeeaf31b7a7450baec4"), looks := true }, kinds := [], alts := [], laidByText := true, laidKinds := [.handle], laidTests := true, laidLooks := .later }
def ParseBackCardSaid : Prop := Claim7.holds Tryz.pinned (.plain (OpenSpec.ofChange parseBackSpec)) parseBackCard

/-- THE TIED CARD OF 'parterrelaw4.ParseLarge'. -/
def parseLargeCard : Claim7 := { stood := { row := parseLargeRow, standIns := [], harness := (true, "3dc6fd6ccc5217ae943639b1398298a5b6f3e7ba8177beeeaf31b7a7450baec4"), looks := true }, kinds := [], alts := [], laidByText := true, laidKinds := [.handle], laidTests := true, laidLooks := .later }
def ParseLargeCardSaid : Prop := Claim7.holds Tryz.pinned (.plain (OpenSpec.ofChange parseLargeSpec)) parseLargeCard

/-- THE TIED CARD OF 'parterrelaw4.ParseFirst'. -/
def parseFirstCard : Claim7 := { stood := { row := parseFirstRow, standIns := [], harness := (true, "3dc6fd6ccc5217ae943639b1398298a5b6f3e7ba8177beeeaf31b7a7450baec4"), looks := true }, kinds := [], alts := [], laidByText := true, laidKinds := [.handle], laidTests := true, laidLooks := .later }
def ParseFirstCardSaid : Prop := Claim7.holds Tryz.pinned (.plain (OpenSpec.ofChange parseFirstSpec)) parseFirstCard

/-- THE TIED CARD OF 'parterrelaw4.ParseKills'. -/
def parseKillsCard : Claim7 := { stood := { row := parseKillsRow, standIns := [], harness := (true, "3dc6fd6ccc5217ae943639b1398298a5b6f3e7ba8177beeeaf31b7a7450baec4"), looks := true }, kinds := [], alts := [], laidByText := true, laidKinds := [.handle], laidTests := true, laidLooks := .later }
def ParseKillsCardSaid : Prop := Claim7.holds Tryz.pinned (.plain (OpenSpec.ofChange parseKillsSpec)) parseKillsCard

/-- THE SECOND FORM's CARD OF 'parterrelaw4.ParseAsks'. -/
def parseAsksUptoCard : Claim7 := { stood := { row := parseAsksUptoRow, standIns := [], harness := (true, "3dc6fd6ccc5217ae943639b1398298a5b6f3e7ba8177beeeaf31b7a7450baec4"), looks := true }, kinds := [], alts := [], laidByText := true, laidKinds := [.handle], laidTests := true, laidLooks := .later }
def ParseAsksUptoCardSaid : Prop := Claim7.holds Tryz.pinned (.plain (OpenSpec.upto parseAsksSpec)) parseAsksUptoCard

/-- THE SECOND FORM's CARD OF 'parterrelaw4.ParseMay'. -/
def parseMayUptoCard : Claim7 := { stood := { row := parseMayUptoRow, standIns := [], harness := (true, "3dc6fd6ccc5217ae943639b1398298a5b6f3e7ba8177beeeaf31b7a7450baec4"), looks := true }, kinds := [], alts := [], laidByText := true, laidKinds := [.handle], laidTests := true, laidLooks := .later }
def ParseMayUptoCardSaid : Prop := Claim7.holds Tryz.pinned (.plain (OpenSpec.upto parseMaySpec)) parseMayUptoCard

/-- THE SECOND FORM's CARD OF 'parterrelaw4.ParseBack'. -/
def parseBackUptoCard : Claim7 := { stood := { row := parseBackUptoRow, standIns := [], harness := (true, "3dc6fd6ccc5217ae943639b1398298a5b6f3e7ba8177beeeaf31b7a7450baec4"), looks := true }, kinds := [], alts := [], laidByText := true, laidKinds := [.handle], laidTests := true, laidLooks := .later }
def ParseBackUptoCardSaid : Prop := Claim7.holds Tryz.pinned (.plain (OpenSpec.upto parseBackSpec)) parseBackUptoCard

/-- THE SECOND FORM's CARD OF 'parterrelaw4.ParseLarge'. -/
def parseLargeUptoCard : Claim7 := { stood := { row := parseLargeUptoRow, standIns := [], harness := (true, "3dc6fd6ccc5217ae943639b1398298a5b6f3e7ba8177beeeaf31b7a7450baec4"), looks := true }, kinds := [], alts := [], laidByText := true, laidKinds := [.handle], laidTests := true, laidLooks := .later }
def ParseLargeUptoCardSaid : Prop := Claim7.holds Tryz.pinned (.plain (OpenSpec.upto parseLargeSpec)) parseLargeUptoCard

/-- THE SECOND FORM's CARD OF 'parterrelaw4.ParseFirst'. -/
def parseFirstUptoCard : Claim7 := { stood := { row := parseFirstUptoRow, standIns := [], harness := (true, "3dc6fd6ccc5217ae943639b1398298a5b6f3e7ba8177beeeaf31b7a7450baec4"), looks := true }, kinds := [], alts := [], laidByText := true, laidKinds := [.handle], laidTests := true, laidLooks := .later }
def ParseFirstUptoCardSaid : Prop := Claim7.holds Tryz.pinned (.plain (OpenSpec.upto parseFirstSpec)) parseFirstUptoCard

/-- THE SECOND FORM's CARD OF 'parterrelaw4.ParseKills'. -/
def parseKillsUptoCard : Claim7 := { stood := { row := parseKillsUptoRow, standIns := [], harness := (true, "3dc6fd6ccc5217ae943639b1398298a5b6f3e7ba8177beeeaf31b7a7450baec4"), looks := true }, kinds := [], alts := [], laidByText := true, laidKinds := [.handle], laidTests := true, laidLooks := .later }
def ParseKillsUptoCardSaid : Prop := Claim7.holds Tryz.pinned (.plain (OpenSpec.upto parseKillsSpec)) parseKillsUptoCard
end Rows
end Go.Proofs.YthglohpeijfcfaaGreatDoor
