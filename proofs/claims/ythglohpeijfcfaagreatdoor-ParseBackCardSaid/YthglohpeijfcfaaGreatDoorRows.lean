/-
  NARROWER THAN 'FOR EVERY INPUT', by the rows' own cells (each row's printed sentence says how): ParseAsks: laid · ParseMay: laid · ParseBack: laid · ParseLarge: laid · ParseFirst: laid · ParseKills: laid.
  DERIVED. THE GIVEN ROWS OF THIS SEAT. 6 by the template 'for every input the law returns true; each argument reads behind the call as it read before'; 0 by the template 'total and deterministic' (their statements: YthglohpeijfcfaaGreatDoorTotals.lean).
  GIVEN WITH THE SEED: the statements are not yours to turn. If you find one false, say at which input.
  Laid BY PROGRAM, IN A SANDBOX (cutbox-rows.mjs): the forced cells as the released guide's own fill.sh prints them over the translation 0cef52282dce141f… (all of the seat's roots in one cut). By AI agents, Wed Nov 11 2026. No macro, syntax, notation, axiom, sorry.
-/
import Derived.Test.YthglohpeijfcfaaGreatDoorChecked
import GoSem.Claim
import GoSem.ClaimJoined
import GoSem.ClaimMapViews
import Derived.JoinedTies
import Derived.KernelRfl
namespace Go.Proofs.YthglohpeijfcfaaGreatDoor
/- THE CELL 'sum', in the pinned program and in every row, IS THE sha256 OF THE DUMP (.gsa) THAT YthglohpeijfcfaaGreatDoorProg.lean LOADS. Nothing in Lean hashes anything: it is a label: what it is worth is what the hold of that sum in a sandbox is worth. -/
noncomputable def Tryz.pinned : Pinned := { name := "ythglohpeijfcfaagreatdoor", sum := "0cef52282dce141f41d8e1734fdfcaa618e73161f0f52ed9bc3b9fab5fe30f56", checked := Tryz.checked }
namespace Rows
def none {H : Type} : Left H := { results := [], args := [] }

/- WHAT THE LISTED PACKAGE-LEVEL VARIABLES READ AS WHEN THE CALL BEGINS. Each datum BY PROGRAM (the guide's laid-datum.mjs) off the statement by which the dump's own 'gosem.cut.vars' lays the variable. In a bare row this is a premise. The card (YthglohpeijfcfaaGreatDoorCards.lean) ties it to the program's text. -/
def laid_errors_errorType {H : Type} : DataW H := .iface "internal/reflectlite.rtype" (.agg [.ptr (.lit (.string [101, 114, 114, 111, 114]))])

/-- 'parterrelaw4.ParseAsks': WHATEVER THE INPUT: true; the input reads as it did. -/
def parseAsksSpec : ChangeSpec := { name := "parseAsks", fn := fun _ => fun
  | [d1, d2, d3] => { results := [.lit (.bool true)], args := [d1, d2, d3] }
  | _ => none }
def parseAsksRow : OpenClaim := { program := "ythglohpeijfcfaagreatdoor", sum := "0cef52282dce141f41d8e1734fdfcaa618e73161f0f52ed9bc3b9fab5fe30f56", func := "parterre/parterrelaw4.ParseAsks", spec := "parseAsks", inPlace := ["internal/reflectlite.ValueOf", "(internal/reflectlite.Value).Type", "(internal/reflectlite.Value).IsNil", "internal/reflectlite.TypeOf", "(internal/reflectlite.Value).Elem", "(internal/reflectlite.Value).Set"], unfollowed := true, recurses := true, named := ["errors.errorType"], plainKeys := false, apart := false, laid := [("errors.errorType", laid_errors_errorType)] }
def ParseAsksSaid : Prop := parseAsksRow.holds Tryz.pinned (OpenSpec.ofChange parseAsksSpec)

/-- ITS FALSE NEIGHBOUR: 'it returns false'. Refute it at one input. -/
def parseAsksWrong : ChangeSpec := { name := "parseAsks", fn := fun _ => fun
  | [d1, d2, d3] => { results := [.lit (.bool false)], args := [d1, d2, d3] }
  | _ => none }
def ParseAsksWrongFalsely : Prop := parseAsksRow.holds Tryz.pinned (OpenSpec.ofChange parseAsksWrong)

/-- 'parterrelaw4.ParseMay': WHATEVER THE INPUT: true; the input reads as it did. -/
def parseMaySpec : ChangeSpec := { name := "parseMay", fn := fun _ => fun
  | [d1, d2] => { results := [.lit (.bool true)], args := [d1, d2] }
  | _ => none }
def parseMayRow : OpenClaim := { program := "ythglohpeijfcfaagreatdoor", sum := "0cef52282dce141f41d8e1734fdfcaa618e73161f0f52ed9bc3b9fab5fe30f56", func := "parterre/parterrelaw4.ParseMay", spec := "parseMay", inPlace := ["internal/reflectlite.ValueOf", "(internal/reflectlite.Value).Type", "(internal/reflectlite.Value).IsNil", "internal/reflectlite.TypeOf", "(internal/reflectlite.Value).Elem", "(internal/reflectlite.Value).Set"], unfollowed := true, recurses := true, named := ["errors.errorType"], plainKeys := false, apart := false, laid := [("errors.errorType", laid_errors_errorType)] }
def ParseMaySaid : Prop := parseMayRow.holds Tryz.pinned (OpenSpec.ofChange parseMaySpec)

/-- ITS FALSE NEIGHBOUR: 'it returns false'. Refute it at one input. -/
def parseMayWrong : ChangeSpec := { name := "parseMay", fn := fun _ => fun
  | [d1, d2] => { results := [.lit (.bool false)], args := [d1, d2] }
  | _ => none }
def ParseMayWrongFalsely : Prop := parseMayRow.holds Tryz.pinned (OpenSpec.ofChange parseMayWrong)

/-- 'parterrelaw4.ParseBack': WHATEVER THE INPUT: true; the input reads as it did. -/
def parseBackSpec : ChangeSpec := { name := "parseBack", fn := fun _ => fun
  | [d1, d2] => { results := [.lit (.bool true)], args := [d1, d2] }
  | _ => none }
def parseBackRow : OpenClaim := { program := "ythglohpeijfcfaagreatdoor", sum := "0cef52282dce141f41d8e1734fdfcaa618e73161f0f52ed9bc3b9fab5fe30f56", func := "parterre/parterrelaw4.ParseBack", spec := "parseBack", inPlace := ["internal/reflectlite.ValueOf", "(internal/reflectlite.Value).Type", "(internal/reflectlite.Value).IsNil", "internal/reflectlite.TypeOf", "(internal/reflectlite.Value).Elem", "(internal/reflectlite.Value).Set"], unfollowed := true, recurses := true, named := ["errors.errorType"], plainKeys := false, apart := false, laid := [("errors.errorType", laid_errors_errorType)] }
def ParseBackSaid : Prop := parseBackRow.holds Tryz.pinned (OpenSpec.ofChange parseBackSpec)

/-- ITS FALSE NEIGHBOUR: 'it returns false'. Refute it at one input. -/
def parseBackWrong : ChangeSpec := { name := "parseBack", fn := fun _ => fun
  | [d1, d2] => { results := [.lit (.bool false)], args := [d1, d2] }
  | _ => none }
def ParseBackWrongFalsely : Prop := parseBackRow.holds Tryz.pinned (OpenSpec.ofChange parseBackWrong)

/-- 'parterrelaw4.ParseLarge': WHATEVER THE INPUT: true; the input reads as it did. -/
def parseLargeSpec : ChangeSpec := { name := "parseLarge", fn := fun _ => fun
  | [d] => { results := [.lit (.bool true)], args := [d] }
  | _ => none }
def parseLargeRow : OpenClaim := { program := "ythglohpeijfcfaagreatdoor", sum := "0cef52282dce141f41d8e1734fdfcaa618e73161f0f52ed9bc3b9fab5fe30f56", func := "parterre/parterrelaw4.ParseLarge", spec := "parseLarge", inPlace := ["internal/reflectlite.ValueOf", "(internal/reflectlite.Value).Type", "(internal/reflectlite.Value).IsNil", "internal/reflectlite.TypeOf", "(internal/reflectlite.Value).Elem", "(internal/reflectlite.Value).Set"], unfollowed := true, recurses := true, named := ["errors.errorType"], plainKeys := false, apart := false, laid := [("errors.errorType", laid_errors_errorType)] }
def ParseLargeSaid : Prop := parseLargeRow.holds Tryz.pinned (OpenSpec.ofChange parseLargeSpec)

/-- ITS FALSE NEIGHBOUR: 'it returns false'. Refute it at one input. -/
def parseLargeWrong : ChangeSpec := { name := "parseLarge", fn := fun _ => fun
  | [d] => { results := [.lit (.bool false)], args := [d] }
  | _ => none }
def ParseLargeWrongFalsely : Prop := parseLargeRow.holds Tryz.pinned (OpenSpec.ofChange parseLargeWrong)

/-- 'parterrelaw4.ParseFirst': WHATEVER THE INPUT: true; the input reads as it did. -/
def parseFirstSpec : ChangeSpec := { name := "parseFirst", fn := fun _ => fun
  | [d1, d2, d3] => { results := [.lit (.bool true)], args := [d1, d2, d3] }
  | _ => none }
def parseFirstRow : OpenClaim := { program := "ythglohpeijfcfaagreatdoor", sum := "0cef52282dce141f41d8e1734fdfcaa618e73161f0f52ed9bc3b9fab5fe30f56", func := "parterre/parterrelaw4.ParseFirst", spec := "parseFirst", inPlace := ["internal/reflectlite.ValueOf", "(internal/reflectlite.Value).Type", "(internal/reflectlite.Value).IsNil", "internal/reflectlite.TypeOf", "(internal/reflectlite.Value).Elem", "(internal/reflectlite.Value).Set"], unfollowed := true, recurses := true, named := ["errors.errorType"], plainKeys := false, apart := false, laid := [("errors.errorType", laid_errors_errorType)] }
def ParseFirstSaid : Prop := parseFirstRow.holds Tryz.pinned (OpenSpec.ofChange parseFirstSpec)

/-- ITS FALSE NEIGHBOUR: 'it returns false'. Refute it at one input. -/
def parseFirstWrong : ChangeSpec := { name := "parseFirst", fn := fun _ => fun
  | [d1, d2, d3] => { results := [.lit (.bool false)], args := [d1, d2, d3] }
  | _ => none }
def ParseFirstWrongFalsely : Prop := parseFirstRow.holds Tryz.pinned (OpenSpec.ofChange parseFirstWrong)

/-- 'parterrelaw4.ParseKills': WHATEVER THE INPUT: true; the input reads as it did. -/
def parseKillsSpec : ChangeSpec := { name := "parseKills", fn := fun _ => fun
  | [d1, d2] => { results := [.lit (.bool true)], args := [d1, d2] }
  | _ => none }
def parseKillsRow : OpenClaim := { program := "ythglohpeijfcfaagreatdoor", sum := "0cef52282dce141f41d8e1734fdfcaa618e73161f0f52ed9bc3b9fab5fe30f56", func := "parterre/parterrelaw4.ParseKills", spec := "parseKills", inPlace := ["internal/reflectlite.ValueOf", "(internal/reflectlite.Value).Type", "(internal/reflectlite.Value).IsNil", "internal/reflectlite.TypeOf", "(internal/reflectlite.Value).Elem", "(internal/reflectlite.Value).Set"], unfollowed := true, recurses := true, named := ["errors.errorType"], plainKeys := false, apart := false, laid := [("errors.errorType", laid_errors_errorType)] }
def ParseKillsSaid : Prop := parseKillsRow.holds Tryz.pinned (OpenSpec.ofChange parseKillsSpec)

/-- ITS FALSE NEIGHBOUR: 'it returns false'. Refute it at one input. -/
def parseKillsWrong : ChangeSpec := { name := "parseKills", fn := fun _ => fun
  | [d1, d2] => { results := [.lit (.bool false)], args := [d1, d2] }
  | _ => none }
def ParseKillsWrongFalsely : Prop := parseKillsRow.holds Tryz.pinned (OpenSpec.ofChange parseKillsWrong)

/- THE SECOND FORM. 'bulk': how many values and letters a reading holds, each counted each time it is reached (what is shared counts as often as it is met; a slice's spare places count too). A statement '..UptoSaid' is the law's where the arguments, and the package variables that the reading takes, are together of bulk at most 1048576: NARROWER than '..Said'. Prove '..Said' where nothing that the law and all that it calls make is longer than what came in: it says more and counts as full. Else prove '..UptoSaid'. A law counts once. -/
mutual
def uptoBulk {H : Type} : DataW H → Nat
  | .lit (.string bytes) => bytes.length + 1
  | .lit _ => 1
  | .nil => 1
  | .ptr d => uptoBulk d + 1
  | .slice elems spare => uptoBulkAll elems + uptoBulkAll spare + 1
  | .agg parts => uptoBulkAll parts + 1
  | .iface _ d => uptoBulk d + 1
  | .map entries => uptoBulkEntries entries + 1
  | .held _ => 1
def uptoBulkAll {H : Type} : List (DataW H) → Nat
  | [] => 0
  | d :: r => uptoBulk d + uptoBulkAll r
def uptoBulkEntries {H : Type} : List (Lit × DataW H) → Nat
  | [] => 0
  | x :: r => uptoBulkEntry x + uptoBulkEntries r
def uptoBulkEntry {H : Type} : Lit × DataW H → Nat
  | (.string bytes, d) => bytes.length + uptoBulk d + 1
  | (_, d) => uptoBulk d + 1
 end
def uptoSmall : (H : Type) → List (DataW H) → Bool := fun _ ds => decide (uptoBulkAll ds ≤ 1048576)
def OpenSpec.upto (s : _root_.Go.ChangeSpec) : _root_.Go.OpenSpec := { _root_.Go.OpenSpec.ofChange s with cond := some uptoSmall }

/-- 'parterrelaw4.ParseAsks', WHERE WHAT IT READS IS OF BULK AT MOST 1048576: true; the input reads as it did. -/
def parseAsksUptoRow : OpenClaim := { program := "ythglohpeijfcfaagreatdoor", sum := "0cef52282dce141f41d8e1734fdfcaa618e73161f0f52ed9bc3b9fab5fe30f56", func := "parterre/parterrelaw4.ParseAsks", spec := "parseAsks", inPlace := ["internal/reflectlite.ValueOf", "(internal/reflectlite.Value).Type", "(internal/reflectlite.Value).IsNil", "internal/reflectlite.TypeOf", "(internal/reflectlite.Value).Elem", "(internal/reflectlite.Value).Set"], unfollowed := true, recurses := true, named := ["errors.errorType"], plainKeys := false, apart := false, laid := [("errors.errorType", laid_errors_errorType)], narrowed := true }
def ParseAsksUptoSaid : Prop := parseAsksUptoRow.holds Tryz.pinned (OpenSpec.upto parseAsksSpec)

/-- 'parterrelaw4.ParseMay', WHERE WHAT IT READS IS OF BULK AT MOST 1048576: true; the input reads as it did. -/
def parseMayUptoRow : OpenClaim := { program := "ythglohpeijfcfaagreatdoor", sum := "0cef52282dce141f41d8e1734fdfcaa618e73161f0f52ed9bc3b9fab5fe30f56", func := "parterre/parterrelaw4.ParseMay", spec := "parseMay", inPlace := ["internal/reflectlite.ValueOf", "(internal/reflectlite.Value).Type", "(internal/reflectlite.Value).IsNil", "internal/reflectlite.TypeOf", "(internal/reflectlite.Value).Elem", "(internal/reflectlite.Value).Set"], unfollowed := true, recurses := true, named := ["errors.errorType"], plainKeys := false, apart := false, laid := [("errors.errorType", laid_errors_errorType)], narrowed := true }
def ParseMayUptoSaid : Prop := parseMayUptoRow.holds Tryz.pinned (OpenSpec.upto parseMaySpec)

/-- 'parterrelaw4.ParseBack', WHERE WHAT IT READS IS OF BULK AT MOST 1048576: true; the input reads as it did. -/
def parseBackUptoRow : OpenClaim := { program := "ythglohpeijfcfaagreatdoor", sum := "0cef52282dce141f41d8e1734fdfcaa618e73161f0f52ed9bc3b9fab5fe30f56", func := "parterre/parterrelaw4.ParseBack", spec := "parseBack", inPlace := ["internal/reflectlite.ValueOf", "(internal/reflectlite.Value).Type", "(internal/reflectlite.Value).IsNil", "internal/reflectlite.TypeOf", "(internal/reflectlite.Value).Elem", "(internal/reflectlite.Value).Set"], unfollowed := true, recurses := true, named := ["errors.errorType"], plainKeys := false, apart := false, laid := [("errors.errorType", laid_errors_errorType)], narrowed := true }
def ParseBackUptoSaid : Prop := parseBackUptoRow.holds Tryz.pinned (OpenSpec.upto parseBackSpec)

/-- 'parterrelaw4.ParseLarge', WHERE WHAT IT READS IS OF BULK AT MOST 1048576: true; the input reads as it did. -/
def parseLargeUptoRow : OpenClaim := { program := "ythglohpeijfcfaagreatdoor", sum := "0cef52282dce141f41d8e1734fdfcaa618e73161f0f52ed9bc3b9fab5fe30f56", func := "parterre/parterrelaw4.ParseLarge", spec := "parseLarge", inPlace := ["internal/reflectlite.ValueOf", "(internal/reflectlite.Value).Type", "(internal/reflectlite.Value).IsNil", "internal/reflectlite.TypeOf", "(internal/reflectlite.Value).Elem", "(internal/reflectlite.Value).Set"], unfollowed := true, recurses := true, named := ["errors.errorType"], plainKeys := false, apart := false, laid := [("errors.errorType", laid_errors_errorType)], narrowed := true }
def ParseLargeUptoSaid : Prop := parseLargeUptoRow.holds Tryz.pinned (OpenSpec.upto parseLargeSpec)

/-- 'parterrelaw4.ParseFirst', WHERE WHAT IT READS IS OF BULK AT MOST 1048576: true; the input reads as it did. -/
def parseFirstUptoRow : OpenClaim := { program := "ythglohpeijfcfaagreatdoor", sum := "0cef52282dce141f41d8e1734fdfcaa618e73161f0f52ed9bc3b9fab5fe30f56", func := "parterre/parterrelaw4.ParseFirst", spec := "parseFirst", inPlace := ["internal/reflectlite.ValueOf", "(internal/reflectlite.Value).Type", "(internal/reflectlite.Value).IsNil", "internal/reflectlite.TypeOf", "(internal/reflectlite.Value).Elem", "(internal/reflectlite.Value).Set"], unfollowed := true, recurses := true, named := ["errors.errorType"], plainKeys := false, apart := false, laid := [("errors.errorType", laid_errors_errorType)], narrowed := true }
def ParseFirstUptoSaid : Prop := parseFirstUptoRow.holds Tryz.pinned (OpenSpec.upto parseFirstSpec)

/-- 'parterrelaw4.ParseKills', WHERE WHAT IT READS IS OF BULK AT MOST 1048576: true; the input reads as it did. -/
def parseKillsUptoRow : OpenClaim := { program := "ythglohpeijfcfaagreatdoor", sum := "0cef52282dce141f41d8e1734fdfcaa618e73161f0f52ed9bc3b9fab5fe30f56", func := "parterre/parterrelaw4.ParseKills", spec := "parseKills", inPlace := ["internal/reflectlite.ValueOf", "(internal/reflectlite.Value).Type", "(internal/reflectlite.Value).IsNil", "internal/reflectlite.TypeOf", "(internal/reflectlite.Value).Elem", "(internal/reflectlite.Value).Set"], unfollowed := true, recurses := true, named := ["errors.errorType"], plainKeys := false, apart := false, laid := [("errors.errorType", laid_errors_errorType)], narrowed := true }
def ParseKillsUptoSaid : Prop := parseKillsUptoRow.holds Tryz.pinned (OpenSpec.upto parseKillsSpec)

end Rows
end Go.Proofs.YthglohpeijfcfaaGreatDoor
