/-
  No cell of these rows narrows 'for every input' (looked for: loops, veiled, ifaces, maps, wideKeys, modest, calm, conditions, laid).
  DERIVED. THE GIVEN ROWS OF THIS SEAT. 5 by the template 'for every input the law returns true; each argument reads behind the call as it read before'; 0 by the template 'total and deterministic' (their statements: YtfcllalhfcmfdaaTotals.lean).
  GIVEN WITH THE SEED: the statements are not yours to turn. If you find one false, say at which input.
  Laid BY PROGRAM, IN A SANDBOX (cutbox-rows.mjs): the forced cells as the released guide's own fill.sh prints them over the translation 80a93b633df42812… (all of the seat's roots in one cut). By AI agents, Wed Nov 11 2026. No macro, syntax, notation, axiom, sorry.
-/
import Derived.Test.YtfcllalhfcmfdaaChecked
import GoSem.Claim
import GoSem.ClaimJoined
import GoSem.ClaimMapViews
import Derived.JoinedTies
import Derived.KernelRfl
namespace Go.Proofs.Ytfcllalhfcmfdaa
/- THE CELL 'sum', in the pinned program and in every row, IS THE sha256 OF THE DUMP (.gsa) THAT YtfcllalhfcmfdaaProg.lean LOADS. Nothing in Lean hashes anything: it is a label: what it is worth is what the hold of that sum in a sandbox is worth. -/
noncomputable def Try.pinned : Pinned := { name := "ytfcllalhfcmfdaa", sum := "80a93b633df428128e293d143387d59f6a08f06e24a728ec428e0917e10f9a50", checked := Try.checked }
namespace Rows
def none {H : Type} : Left H := { results := [], args := [] }

/-- 'parterrelaw2.TokenAsks': WHATEVER THE INPUT: true; the input reads as it did. -/
def tokenAsksSpec : ChangeSpec := { name := "tokenAsks", fn := fun _ => fun
  | [d1, d2, d3, d4, d5] => { results := [.lit (.bool true)], args := [d1, d2, d3, d4, d5] }
  | _ => none }
def tokenAsksRow : OpenClaim := { program := "ytfcllalhfcmfdaa", sum := "80a93b633df428128e293d143387d59f6a08f06e24a728ec428e0917e10f9a50", func := "parterre/parterrelaw2.TokenAsks", spec := "tokenAsks", unfollowed := true, recurses := true, apart := false }
def TokenAsksSaid : Prop := tokenAsksRow.holds Try.pinned (OpenSpec.ofChange tokenAsksSpec)

/-- ITS FALSE NEIGHBOUR: 'it returns false'. Refute it at one input. -/
def tokenAsksWrong : ChangeSpec := { name := "tokenAsks", fn := fun _ => fun
  | [d1, d2, d3, d4, d5] => { results := [.lit (.bool false)], args := [d1, d2, d3, d4, d5] }
  | _ => none }
def TokenAsksWrongFalsely : Prop := tokenAsksRow.holds Try.pinned (OpenSpec.ofChange tokenAsksWrong)

/-- 'parterrelaw2.TokenNumbers': WHATEVER THE INPUT: true; the input reads as it did. -/
def tokenNumbersSpec : ChangeSpec := { name := "tokenNumbers", fn := fun _ => fun
  | [d1, d2] => { results := [.lit (.bool true)], args := [d1, d2] }
  | _ => none }
def tokenNumbersRow : OpenClaim := { program := "ytfcllalhfcmfdaa", sum := "80a93b633df428128e293d143387d59f6a08f06e24a728ec428e0917e10f9a50", func := "parterre/parterrelaw2.TokenNumbers", spec := "tokenNumbers", unfollowed := true, recurses := true, apart := false }
def TokenNumbersSaid : Prop := tokenNumbersRow.holds Try.pinned (OpenSpec.ofChange tokenNumbersSpec)

/-- ITS FALSE NEIGHBOUR: 'it returns false'. Refute it at one input. -/
def tokenNumbersWrong : ChangeSpec := { name := "tokenNumbers", fn := fun _ => fun
  | [d1, d2] => { results := [.lit (.bool false)], args := [d1, d2] }
  | _ => none }
def TokenNumbersWrongFalsely : Prop := tokenNumbersRow.holds Try.pinned (OpenSpec.ofChange tokenNumbersWrong)

/-- 'parterrelaw2.TokenLines': WHATEVER THE INPUT: true; the input reads as it did. -/
def tokenLinesSpec : ChangeSpec := { name := "tokenLines", fn := fun _ => fun
  | [d] => { results := [.lit (.bool true)], args := [d] }
  | _ => none }
def tokenLinesRow : OpenClaim := { program := "ytfcllalhfcmfdaa", sum := "80a93b633df428128e293d143387d59f6a08f06e24a728ec428e0917e10f9a50", func := "parterre/parterrelaw2.TokenLines", spec := "tokenLines", unfollowed := true, recurses := true, apart := false }
def TokenLinesSaid : Prop := tokenLinesRow.holds Try.pinned (OpenSpec.ofChange tokenLinesSpec)

/-- ITS FALSE NEIGHBOUR: 'it returns false'. Refute it at one input. -/
def tokenLinesWrong : ChangeSpec := { name := "tokenLines", fn := fun _ => fun
  | [d] => { results := [.lit (.bool false)], args := [d] }
  | _ => none }
def TokenLinesWrongFalsely : Prop := tokenLinesRow.holds Try.pinned (OpenSpec.ofChange tokenLinesWrong)

/-- 'parterrelaw2.TokenSpots': WHATEVER THE INPUT: true; the input reads as it did. -/
def tokenSpotsSpec : ChangeSpec := { name := "tokenSpots", fn := fun _ => fun
  | [d] => { results := [.lit (.bool true)], args := [d] }
  | _ => none }
def tokenSpotsRow : OpenClaim := { program := "ytfcllalhfcmfdaa", sum := "80a93b633df428128e293d143387d59f6a08f06e24a728ec428e0917e10f9a50", func := "parterre/parterrelaw2.TokenSpots", spec := "tokenSpots", unfollowed := true, recurses := true, apart := false }
def TokenSpotsSaid : Prop := tokenSpotsRow.holds Try.pinned (OpenSpec.ofChange tokenSpotsSpec)

/-- ITS FALSE NEIGHBOUR: 'it returns false'. Refute it at one input. -/
def tokenSpotsWrong : ChangeSpec := { name := "tokenSpots", fn := fun _ => fun
  | [d] => { results := [.lit (.bool false)], args := [d] }
  | _ => none }
def TokenSpotsWrongFalsely : Prop := tokenSpotsRow.holds Try.pinned (OpenSpec.ofChange tokenSpotsWrong)

/-- 'parterrelaw2.TokenApart': WHATEVER THE INPUT: true; the input reads as it did. -/
def tokenApartSpec : ChangeSpec := { name := "tokenApart", fn := fun _ => fun
  | [d1, d2] => { results := [.lit (.bool true)], args := [d1, d2] }
  | _ => none }
def tokenApartRow : OpenClaim := { program := "ytfcllalhfcmfdaa", sum := "80a93b633df428128e293d143387d59f6a08f06e24a728ec428e0917e10f9a50", func := "parterre/parterrelaw2.TokenApart", spec := "tokenApart", unfollowed := true, recurses := true, apart := false }
def TokenApartSaid : Prop := tokenApartRow.holds Try.pinned (OpenSpec.ofChange tokenApartSpec)

/-- ITS FALSE NEIGHBOUR: 'it returns false'. Refute it at one input. -/
def tokenApartWrong : ChangeSpec := { name := "tokenApart", fn := fun _ => fun
  | [d1, d2] => { results := [.lit (.bool false)], args := [d1, d2] }
  | _ => none }
def TokenApartWrongFalsely : Prop := tokenApartRow.holds Try.pinned (OpenSpec.ofChange tokenApartWrong)

/- THE SECOND FORM. 'bulk': how many values and letters a reading holds, each counted each time it is reached (what is shared counts as often as it is met; a slice's spare places count too). A statement '..UptoSaid' is the law's where the arguments, and the package variables that the reading takes, are together of bulk at most 1048576: NARROWER than '..Said'. Prove '..Said' where nothing that the law and all that it calls make is longer than what came in: it says more and counts as full. Else prove '..UptoSaid'. A law counts once. -/
mutual
def uptoBulk {H : Type} : DataW H → Nat
  | .lit (.string bytes) => bytes.length + 1
  | .lit _ => 1
  | .nil => 1
  | .ptr d => uptoBulk d + 1
  | .slice elems spare => uptoBulkAll elems + uptoBulkAll spare + 1
  | .agg parts => uptoBulkAll parts + 1
  | .iface _ d => uptoBulk d + 1
  | .map entries => uptoBulkEntries entries + 1
  | .held _ => 1
def uptoBulkAll {H : Type} : List (DataW H) → Nat
  | [] => 0
  | d :: r => uptoBulk d + uptoBulkAll r
def uptoBulkEntries {H : Type} : List (Lit × DataW H) → Nat
  | [] => 0
  | x :: r => uptoBulkEntry x + uptoBulkEntries r
def uptoBulkEntry {H : Type} : Lit × DataW H → Nat
  | (.string bytes, d) => bytes.length + uptoBulk d + 1
  | (_, d) => uptoBulk d + 1
 end
def uptoSmall : (H : Type) → List (DataW H) → Bool := fun _ ds => decide (uptoBulkAll ds ≤ 1048576)
def OpenSpec.upto (s : _root_.Go.ChangeSpec) : _root_.Go.OpenSpec := { _root_.Go.OpenSpec.ofChange s with cond := some uptoSmall }

/-- 'parterrelaw2.TokenAsks', WHERE WHAT IT READS IS OF BULK AT MOST 1048576: true; the input reads as it did. -/
def tokenAsksUptoRow : OpenClaim := { program := "ytfcllalhfcmfdaa", sum := "80a93b633df428128e293d143387d59f6a08f06e24a728ec428e0917e10f9a50", func := "parterre/parterrelaw2.TokenAsks", spec := "tokenAsks", unfollowed := true, recurses := true, apart := false, narrowed := true }
def TokenAsksUptoSaid : Prop := tokenAsksUptoRow.holds Try.pinned (OpenSpec.upto tokenAsksSpec)

/-- 'parterrelaw2.TokenNumbers', WHERE WHAT IT READS IS OF BULK AT MOST 1048576: true; the input reads as it did. -/
def tokenNumbersUptoRow : OpenClaim := { program := "ytfcllalhfcmfdaa", sum := "80a93b633df428128e293d143387d59f6a08f06e24a728ec428e0917e10f9a50", func := "parterre/parterrelaw2.TokenNumbers", spec := "tokenNumbers", unfollowed := true, recurses := true, apart := false, narrowed := true }
def TokenNumbersUptoSaid : Prop := tokenNumbersUptoRow.holds Try.pinned (OpenSpec.upto tokenNumbersSpec)

/-- 'parterrelaw2.TokenLines', WHERE WHAT IT READS IS OF BULK AT MOST 1048576: true; the input reads as it did. -/
def tokenLinesUptoRow : OpenClaim := { program := "ytfcllalhfcmfdaa", sum := "80a93b633df428128e293d143387d59f6a08f06e24a728ec428e0917e10f9a50", func := "parterre/parterrelaw2.TokenLines", spec := "tokenLines", unfollowed := true, recurses := true, apart := false, narrowed := true }
def TokenLinesUptoSaid : Prop := tokenLinesUptoRow.holds Try.pinned (OpenSpec.upto tokenLinesSpec)

/-- 'parterrelaw2.TokenSpots', WHERE WHAT IT READS IS OF BULK AT MOST 1048576: true; the input reads as it did. -/
def tokenSpotsUptoRow : OpenClaim := { program := "ytfcllalhfcmfdaa", sum := "80a93b633df428128e293d143387d59f6a08f06e24a728ec428e0917e10f9a50", func := "parterre/parterrelaw2.TokenSpots", spec := "tokenSpots", unfollowed := true, recurses := true, apart := false, narrowed := true }
def TokenSpotsUptoSaid : Prop := tokenSpotsUptoRow.holds Try.pinned (OpenSpec.upto tokenSpotsSpec)

/-- 'parterrelaw2.TokenApart', WHERE WHAT IT READS IS OF BULK AT MOST 1048576: true; the input reads as it did. -/
def tokenApartUptoRow : OpenClaim := { program := "ytfcllalhfcmfdaa", sum := "80a93b633df428128e293d143387d59f6a08f06e24a728ec428e0917e10f9a50", func := "parterre/parterrelaw2.TokenApart", spec := "tokenApart", unfollowed := true, recurses := true, apart := false, narrowed := true }
def TokenApartUptoSaid : Prop := tokenApartUptoRow.holds Try.pinned (OpenSpec.upto tokenApartSpec)

end Rows
end Go.Proofs.Ytfcllalhfcmfdaa
