/-
  No cell of these rows narrows 'for every input' (looked for: loops, veiled, ifaces, maps, wideKeys, modest, calm, conditions, laid).
  DERIVED. THE GIVEN ROWS OF THIS SEAT. 6 by the template 'for every input the law returns true; each argument reads behind the call as it read before'; 0 by the template 'total and deterministic' (their statements: YthglohpeijfcfaaTotals.lean).
  GIVEN WITH THE SEED: the statements are not yours to turn. If you find one false, say at which input.
  Laid BY PROGRAM, IN A SANDBOX (cutbox-rows.mjs): the forced cells as the released guide's own fill.sh prints them over the translation 2d9073e2b3dc5a22… (all of the seat's roots in one cut). By AI agents, Wed Nov 11 2026. No macro, syntax, notation, axiom, sorry.
-/
import Derived.Test.YthglohpeijfcfaaChecked
import GoSem.Claim
import GoSem.ClaimJoined
import GoSem.ClaimMapViews
import Derived.JoinedTies
import Derived.KernelRfl
namespace Go.Proofs.Ythglohpeijfcfaa
/- THE CELL 'sum', in the pinned program and in every row, IS THE sha256 OF THE DUMP (.gsa) THAT YthglohpeijfcfaaProg.lean LOADS. Nothing in Lean hashes anything: it is a label: what it is worth is what the hold of that sum in a sandbox is worth. -/
noncomputable def Try.pinned : Pinned := { name := "ythglohpeijfcfaa", sum := "2d9073e2b3dc5a22e12dbd33db8a68f48095952d126630e83f334177601421e5", checked := Try.checked }
namespace Rows
def none {H : Type} : Left H := { results := [], args := [] }

/-- 'parterrelaw3.VenueAsks': WHATEVER THE INPUT: true; the input reads as it did. -/
def venueAsksSpec : ChangeSpec := { name := "venueAsks", fn := fun _ => fun
  | [d1, d2] => { results := [.lit (.bool true)], args := [d1, d2] }
  | _ => none }
def venueAsksRow : OpenClaim := { program := "ythglohpeijfcfaa", sum := "2d9073e2b3dc5a22e12dbd33db8a68f48095952d126630e83f334177601421e5", func := "parterre/parterrelaw3.VenueAsks", spec := "venueAsks", unfollowed := true, recurses := true, apart := false }
def VenueAsksSaid : Prop := venueAsksRow.holds Try.pinned (OpenSpec.ofChange venueAsksSpec)

/-- ITS FALSE NEIGHBOUR: 'it returns false'. Refute it at one input. -/
def venueAsksWrong : ChangeSpec := { name := "venueAsks", fn := fun _ => fun
  | [d1, d2] => { results := [.lit (.bool false)], args := [d1, d2] }
  | _ => none }
def VenueAsksWrongFalsely : Prop := venueAsksRow.holds Try.pinned (OpenSpec.ofChange venueAsksWrong)

/-- 'parterrelaw3.VenueLess': WHATEVER THE INPUT: true; the input reads as it did. -/
def venueLessSpec : ChangeSpec := { name := "venueLess", fn := fun _ => fun
  | [d1, d2] => { results := [.lit (.bool true)], args := [d1, d2] }
  | _ => none }
def venueLessRow : OpenClaim := { program := "ythglohpeijfcfaa", sum := "2d9073e2b3dc5a22e12dbd33db8a68f48095952d126630e83f334177601421e5", func := "parterre/parterrelaw3.VenueLess", spec := "venueLess", unfollowed := true, recurses := true, apart := false }
def VenueLessSaid : Prop := venueLessRow.holds Try.pinned (OpenSpec.ofChange venueLessSpec)

/-- ITS FALSE NEIGHBOUR: 'it returns false'. Refute it at one input. -/
def venueLessWrong : ChangeSpec := { name := "venueLess", fn := fun _ => fun
  | [d1, d2] => { results := [.lit (.bool false)], args := [d1, d2] }
  | _ => none }
def VenueLessWrongFalsely : Prop := venueLessRow.holds Try.pinned (OpenSpec.ofChange venueLessWrong)

/-- 'parterrelaw3.VenueEdges': WHATEVER THE INPUT: true; the input reads as it did. -/
def venueEdgesSpec : ChangeSpec := { name := "venueEdges", fn := fun _ => fun
  | [d1, d2] => { results := [.lit (.bool true)], args := [d1, d2] }
  | _ => none }
def venueEdgesRow : OpenClaim := { program := "ythglohpeijfcfaa", sum := "2d9073e2b3dc5a22e12dbd33db8a68f48095952d126630e83f334177601421e5", func := "parterre/parterrelaw3.VenueEdges", spec := "venueEdges", unfollowed := true, recurses := true, apart := false }
def VenueEdgesSaid : Prop := venueEdgesRow.holds Try.pinned (OpenSpec.ofChange venueEdgesSpec)

/-- ITS FALSE NEIGHBOUR: 'it returns false'. Refute it at one input. -/
def venueEdgesWrong : ChangeSpec := { name := "venueEdges", fn := fun _ => fun
  | [d1, d2] => { results := [.lit (.bool false)], args := [d1, d2] }
  | _ => none }
def VenueEdgesWrongFalsely : Prop := venueEdgesRow.holds Try.pinned (OpenSpec.ofChange venueEdgesWrong)

/-- 'parterrelaw3.VenueNorm': WHATEVER THE INPUT: true; the input reads as it did. -/
def venueNormSpec : ChangeSpec := { name := "venueNorm", fn := fun _ => fun
  | [d1, d2] => { results := [.lit (.bool true)], args := [d1, d2] }
  | _ => none }
def venueNormRow : OpenClaim := { program := "ythglohpeijfcfaa", sum := "2d9073e2b3dc5a22e12dbd33db8a68f48095952d126630e83f334177601421e5", func := "parterre/parterrelaw3.VenueNorm", spec := "venueNorm", unfollowed := true, recurses := true, apart := false }
def VenueNormSaid : Prop := venueNormRow.holds Try.pinned (OpenSpec.ofChange venueNormSpec)

/-- ITS FALSE NEIGHBOUR: 'it returns false'. Refute it at one input. -/
def venueNormWrong : ChangeSpec := { name := "venueNorm", fn := fun _ => fun
  | [d1, d2] => { results := [.lit (.bool false)], args := [d1, d2] }
  | _ => none }
def VenueNormWrongFalsely : Prop := venueNormRow.holds Try.pinned (OpenSpec.ofChange venueNormWrong)

/-- 'parterrelaw3.VenueMany': WHATEVER THE INPUT: true; the input reads as it did. -/
def venueManySpec : ChangeSpec := { name := "venueMany", fn := fun _ => fun
  | [d] => { results := [.lit (.bool true)], args := [d] }
  | _ => none }
def venueManyRow : OpenClaim := { program := "ythglohpeijfcfaa", sum := "2d9073e2b3dc5a22e12dbd33db8a68f48095952d126630e83f334177601421e5", func := "parterre/parterrelaw3.VenueMany", spec := "venueMany", unfollowed := true, recurses := true, apart := false }
def VenueManySaid : Prop := venueManyRow.holds Try.pinned (OpenSpec.ofChange venueManySpec)

/-- ITS FALSE NEIGHBOUR: 'it returns false'. Refute it at one input. -/
def venueManyWrong : ChangeSpec := { name := "venueMany", fn := fun _ => fun
  | [d] => { results := [.lit (.bool false)], args := [d] }
  | _ => none }
def VenueManyWrongFalsely : Prop := venueManyRow.holds Try.pinned (OpenSpec.ofChange venueManyWrong)

/-- 'parterrelaw3.VenueTwo': WHATEVER THE INPUT: true; the input reads as it did. -/
def venueTwoSpec : ChangeSpec := { name := "venueTwo", fn := fun _ => fun
  | [d1, d2, d3, d4] => { results := [.lit (.bool true)], args := [d1, d2, d3, d4] }
  | _ => none }
def venueTwoRow : OpenClaim := { program := "ythglohpeijfcfaa", sum := "2d9073e2b3dc5a22e12dbd33db8a68f48095952d126630e83f334177601421e5", func := "parterre/parterrelaw3.VenueTwo", spec := "venueTwo", unfollowed := true, recurses := true, apart := false }
def VenueTwoSaid : Prop := venueTwoRow.holds Try.pinned (OpenSpec.ofChange venueTwoSpec)

/-- ITS FALSE NEIGHBOUR: 'it returns false'. Refute it at one input. -/
def venueTwoWrong : ChangeSpec := { name := "venueTwo", fn := fun _ => fun
  | [d1, d2, d3, d4] => { results := [.lit (.bool false)], args := [d1, d2, d3, d4] }
  | _ => none }
def VenueTwoWrongFalsely : Prop := venueTwoRow.holds Try.pinned (OpenSpec.ofChange venueTwoWrong)

/- THE SECOND FORM. 'bulk': how many values and letters a reading holds, each counted each time it is reached (what is shared counts as often as it is met; a slice's spare places count too). A statement '..UptoSaid' is the law's where the arguments, and the package variables that the reading takes, are together of bulk at most 1048576: NARROWER than '..Said'. Prove '..Said' where nothing that the law and all that it calls make is longer than what came in: it says more and counts as full. Else prove '..UptoSaid'. A law counts once. -/
mutual
def uptoBulk {H : Type} : DataW H → Nat
  | .lit (.string bytes) => bytes.length + 1
  | .lit _ => 1
  | .nil => 1
  | .ptr d => uptoBulk d + 1
  | .slice elems spare => uptoBulkAll elems + uptoBulkAll spare + 1
  | .agg parts => uptoBulkAll parts + 1
  | .iface _ d => uptoBulk d + 1
  | .map entries => uptoBulkEntries entries + 1
  | .held _ => 1
def uptoBulkAll {H : Type} : List (DataW H) → Nat
  | [] => 0
  | d :: r => uptoBulk d + uptoBulkAll r
def uptoBulkEntries {H : Type} : List (Lit × DataW H) → Nat
  | [] => 0
  | x :: r => uptoBulkEntry x + uptoBulkEntries r
def uptoBulkEntry {H : Type} : Lit × DataW H → Nat
  | (.string bytes, d) => bytes.length + uptoBulk d + 1
  | (_, d) => uptoBulk d + 1
 end
def uptoSmall : (H : Type) → List (DataW H) → Bool := fun _ ds => decide (uptoBulkAll ds ≤ 1048576)
def OpenSpec.upto (s : _root_.Go.ChangeSpec) : _root_.Go.OpenSpec := { _root_.Go.OpenSpec.ofChange s with cond := some uptoSmall }

/-- 'parterrelaw3.VenueAsks', WHERE WHAT IT READS IS OF BULK AT MOST 1048576: true; the input reads as it did. -/
def venueAsksUptoRow : OpenClaim := { program := "ythglohpeijfcfaa", sum := "2d9073e2b3dc5a22e12dbd33db8a68f48095952d126630e83f334177601421e5", func := "parterre/parterrelaw3.VenueAsks", spec := "venueAsks", unfollowed := true, recurses := true, apart := false, narrowed := true }
def VenueAsksUptoSaid : Prop := venueAsksUptoRow.holds Try.pinned (OpenSpec.upto venueAsksSpec)

/-- 'parterrelaw3.VenueLess', WHERE WHAT IT READS IS OF BULK AT MOST 1048576: true; the input reads as it did. -/
def venueLessUptoRow : OpenClaim := { program := "ythglohpeijfcfaa", sum := "2d9073e2b3dc5a22e12dbd33db8a68f48095952d126630e83f334177601421e5", func := "parterre/parterrelaw3.VenueLess", spec := "venueLess", unfollowed := true, recurses := true, apart := false, narrowed := true }
def VenueLessUptoSaid : Prop := venueLessUptoRow.holds Try.pinned (OpenSpec.upto venueLessSpec)

/-- 'parterrelaw3.VenueEdges', WHERE WHAT IT READS IS OF BULK AT MOST 1048576: true; the input reads as it did. -/
def venueEdgesUptoRow : OpenClaim := { program := "ythglohpeijfcfaa", sum := "2d9073e2b3dc5a22e12dbd33db8a68f48095952d126630e83f334177601421e5", func := "parterre/parterrelaw3.VenueEdges", spec := "venueEdges", unfollowed := true, recurses := true, apart := false, narrowed := true }
def VenueEdgesUptoSaid : Prop := venueEdgesUptoRow.holds Try.pinned (OpenSpec.upto venueEdgesSpec)

/-- 'parterrelaw3.VenueNorm', WHERE WHAT IT READS IS OF BULK AT MOST 1048576: true; the input reads as it did. -/
def venueNormUptoRow : OpenClaim := { program := "ythglohpeijfcfaa", sum := "2d9073e2b3dc5a22e12dbd33db8a68f48095952d126630e83f334177601421e5", func := "parterre/parterrelaw3.VenueNorm", spec := "venueNorm", unfollowed := true, recurses := true, apart := false, narrowed := true }
def VenueNormUptoSaid : Prop := venueNormUptoRow.holds Try.pinned (OpenSpec.upto venueNormSpec)

/-- 'parterrelaw3.VenueMany', WHERE WHAT IT READS IS OF BULK AT MOST 1048576: true; the input reads as it did. -/
def venueManyUptoRow : OpenClaim := { program := "ythglohpeijfcfaa", sum := "2d9073e2b3dc5a22e12dbd33db8a68f48095952d126630e83f334177601421e5", func := "parterre/parterrelaw3.VenueMany", spec := "venueMany", unfollowed := true, recurses := true, apart := false, narrowed := true }
def VenueManyUptoSaid : Prop := venueManyUptoRow.holds Try.pinned (OpenSpec.upto venueManySpec)

/-- 'parterrelaw3.VenueTwo', WHERE WHAT IT READS IS OF BULK AT MOST 1048576: true; the input reads as it did. -/
def venueTwoUptoRow : OpenClaim := { program := "ythglohpeijfcfaa", sum := "2d9073e2b3dc5a22e12dbd33db8a68f48095952d126630e83f334177601421e5", func := "parterre/parterrelaw3.VenueTwo", spec := "venueTwo", unfollowed := true, recurses := true, apart := false, narrowed := true }
def VenueTwoUptoSaid : Prop := venueTwoUptoRow.holds Try.pinned (OpenSpec.upto venueTwoSpec)

end Rows
end Go.Proofs.Ythglohpeijfcfaa
