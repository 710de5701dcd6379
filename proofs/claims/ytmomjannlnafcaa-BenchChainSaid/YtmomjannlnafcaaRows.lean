/-
  No cell of these rows narrows 'for every input' (looked for: loops, veiled, ifaces, maps, wideKeys, modest, calm, conditions, laid).
  DERIVED. THE GIVEN ROWS OF THIS SEAT. 17 by the template 'for every input the law returns true; each argument reads behind the call as it read before'; 0 by the template 'total and deterministic' (their statements: YtmomjannlnafcaaTotals.lean).
  GIVEN WITH THE SEED: the statements are not yours to turn. If you find one false, say at which input.
  Laid BY PROGRAM, IN A SANDBOX (cutbox-rows.mjs): the forced cells as the released guide's own fill.sh prints them over the translation f3fdd8745bd53cdd… (all of the seat's roots in one cut). By AI agents, Wed Nov 11 2026. No macro, syntax, notation, axiom, sorry.
-/
import Derived.Test.YtmomjannlnafcaaChecked
import GoSem.Claim
import GoSem.ClaimJoined
import GoSem.ClaimMapViews
import Derived.JoinedTies
import Derived.KernelRfl
namespace Go.Proofs.Ytmomjannlnafcaa
/- THE CELL 'sum', in the pinned program and in every row, IS THE sha256 OF THE DUMP (.gsa) THAT YtmomjannlnafcaaProg.lean LOADS. Nothing in Lean hashes anything: it is a label: what it is worth is what the hold of that sum in a sandbox is worth. -/
noncomputable def Try.pinned : Pinned := { name := "ytmomjannlnafcaa", sum := "f3fdd8745bd53cdd8ad75bc1ac282195ba79cde933d578a5aacbee065aec87e9", checked := Try.checked }
namespace Rows
def none {H : Type} : Left H := { results := [], args := [] }

/-- 'tranklaw08.BenchJohnson': WHATEVER THE INPUT: true; the input reads as it did. -/
def benchJohnsonSpec : ChangeSpec := { name := "benchJohnson", fn := fun _ => fun
  | [d] => { results := [.lit (.bool true)], args := [d] }
  | _ => none }
def benchJohnsonRow : OpenClaim := { program := "ytmomjannlnafcaa", sum := "f3fdd8745bd53cdd8ad75bc1ac282195ba79cde933d578a5aacbee065aec87e9", func := "trank/tranklaw08.BenchJohnson", spec := "benchJohnson", unfollowed := true, recurses := true, apart := false }
def BenchJohnsonSaid : Prop := benchJohnsonRow.holds Try.pinned (OpenSpec.ofChange benchJohnsonSpec)

/-- ITS FALSE NEIGHBOUR: 'it returns false'. Refute it at one input. -/
def benchJohnsonWrong : ChangeSpec := { name := "benchJohnson", fn := fun _ => fun
  | [d] => { results := [.lit (.bool false)], args := [d] }
  | _ => none }
def BenchJohnsonWrongFalsely : Prop := benchJohnsonRow.holds Try.pinned (OpenSpec.ofChange benchJohnsonWrong)

/-- 'tranklaw08.BenchWrap': WHATEVER THE INPUT: true; the input reads as it did. -/
def benchWrapSpec : ChangeSpec := { name := "benchWrap", fn := fun _ => fun
  | [d1, d2] => { results := [.lit (.bool true)], args := [d1, d2] }
  | _ => none }
def benchWrapRow : OpenClaim := { program := "ytmomjannlnafcaa", sum := "f3fdd8745bd53cdd8ad75bc1ac282195ba79cde933d578a5aacbee065aec87e9", func := "trank/tranklaw08.BenchWrap", spec := "benchWrap", unfollowed := true, recurses := true, apart := false }
def BenchWrapSaid : Prop := benchWrapRow.holds Try.pinned (OpenSpec.ofChange benchWrapSpec)

/-- ITS FALSE NEIGHBOUR: 'it returns false'. Refute it at one input. -/
def benchWrapWrong : ChangeSpec := { name := "benchWrap", fn := fun _ => fun
  | [d1, d2] => { results := [.lit (.bool false)], args := [d1, d2] }
  | _ => none }
def BenchWrapWrongFalsely : Prop := benchWrapRow.holds Try.pinned (OpenSpec.ofChange benchWrapWrong)

/-- 'tranklaw08.BenchApart': WHATEVER THE INPUT: true; the input reads as it did. -/
def benchApartSpec : ChangeSpec := { name := "benchApart", fn := fun _ => fun
  | [d1, d2] => { results := [.lit (.bool true)], args := [d1, d2] }
  | _ => none }
def benchApartRow : OpenClaim := { program := "ytmomjannlnafcaa", sum := "f3fdd8745bd53cdd8ad75bc1ac282195ba79cde933d578a5aacbee065aec87e9", func := "trank/tranklaw08.BenchApart", spec := "benchApart", unfollowed := true, recurses := true, apart := false }
def BenchApartSaid : Prop := benchApartRow.holds Try.pinned (OpenSpec.ofChange benchApartSpec)

/-- ITS FALSE NEIGHBOUR: 'it returns false'. Refute it at one input. -/
def benchApartWrong : ChangeSpec := { name := "benchApart", fn := fun _ => fun
  | [d1, d2] => { results := [.lit (.bool false)], args := [d1, d2] }
  | _ => none }
def BenchApartWrongFalsely : Prop := benchApartRow.holds Try.pinned (OpenSpec.ofChange benchApartWrong)

/-- 'tranklaw08.BenchLong': WHATEVER THE INPUT: true; the input reads as it did. -/
def benchLongSpec : ChangeSpec := { name := "benchLong", fn := fun _ => fun
  | [d1, d2] => { results := [.lit (.bool true)], args := [d1, d2] }
  | _ => none }
def benchLongRow : OpenClaim := { program := "ytmomjannlnafcaa", sum := "f3fdd8745bd53cdd8ad75bc1ac282195ba79cde933d578a5aacbee065aec87e9", func := "trank/tranklaw08.BenchLong", spec := "benchLong", unfollowed := true, recurses := true, apart := false }
def BenchLongSaid : Prop := benchLongRow.holds Try.pinned (OpenSpec.ofChange benchLongSpec)

/-- ITS FALSE NEIGHBOUR: 'it returns false'. Refute it at one input. -/
def benchLongWrong : ChangeSpec := { name := "benchLong", fn := fun _ => fun
  | [d1, d2] => { results := [.lit (.bool false)], args := [d1, d2] }
  | _ => none }
def BenchLongWrongFalsely : Prop := benchLongRow.holds Try.pinned (OpenSpec.ofChange benchLongWrong)

/-- 'tranklaw08.BenchGraham': WHATEVER THE INPUT: true; the input reads as it did. -/
def benchGrahamSpec : ChangeSpec := { name := "benchGraham", fn := fun _ => fun
  | [d1, d2, d3] => { results := [.lit (.bool true)], args := [d1, d2, d3] }
  | _ => none }
def benchGrahamRow : OpenClaim := { program := "ytmomjannlnafcaa", sum := "f3fdd8745bd53cdd8ad75bc1ac282195ba79cde933d578a5aacbee065aec87e9", func := "trank/tranklaw08.BenchGraham", spec := "benchGraham", unfollowed := true, recurses := true, apart := false }
def BenchGrahamSaid : Prop := benchGrahamRow.holds Try.pinned (OpenSpec.ofChange benchGrahamSpec)

/-- ITS FALSE NEIGHBOUR: 'it returns false'. Refute it at one input. -/
def benchGrahamWrong : ChangeSpec := { name := "benchGraham", fn := fun _ => fun
  | [d1, d2, d3] => { results := [.lit (.bool false)], args := [d1, d2, d3] }
  | _ => none }
def BenchGrahamWrongFalsely : Prop := benchGrahamRow.holds Try.pinned (OpenSpec.ofChange benchGrahamWrong)

/-- 'tranklaw08.BenchEarly': WHATEVER THE INPUT: true; the input reads as it did. -/
def benchEarlySpec : ChangeSpec := { name := "benchEarly", fn := fun _ => fun
  | [d] => { results := [.lit (.bool true)], args := [d] }
  | _ => none }
def benchEarlyRow : OpenClaim := { program := "ytmomjannlnafcaa", sum := "f3fdd8745bd53cdd8ad75bc1ac282195ba79cde933d578a5aacbee065aec87e9", func := "trank/tranklaw08.BenchEarly", spec := "benchEarly", unfollowed := true, recurses := true, apart := false }
def BenchEarlySaid : Prop := benchEarlyRow.holds Try.pinned (OpenSpec.ofChange benchEarlySpec)

/-- ITS FALSE NEIGHBOUR: 'it returns false'. Refute it at one input. -/
def benchEarlyWrong : ChangeSpec := { name := "benchEarly", fn := fun _ => fun
  | [d] => { results := [.lit (.bool false)], args := [d] }
  | _ => none }
def BenchEarlyWrongFalsely : Prop := benchEarlyRow.holds Try.pinned (OpenSpec.ofChange benchEarlyWrong)

/-- 'tranklaw08.BenchProof': WHATEVER THE INPUT: true; the input reads as it did. -/
def benchProofSpec : ChangeSpec := { name := "benchProof", fn := fun _ => fun
  | [d] => { results := [.lit (.bool true)], args := [d] }
  | _ => none }
def benchProofRow : OpenClaim := { program := "ytmomjannlnafcaa", sum := "f3fdd8745bd53cdd8ad75bc1ac282195ba79cde933d578a5aacbee065aec87e9", func := "trank/tranklaw08.BenchProof", spec := "benchProof", unfollowed := true, recurses := true, apart := false }
def BenchProofSaid : Prop := benchProofRow.holds Try.pinned (OpenSpec.ofChange benchProofSpec)

/-- ITS FALSE NEIGHBOUR: 'it returns false'. Refute it at one input. -/
def benchProofWrong : ChangeSpec := { name := "benchProof", fn := fun _ => fun
  | [d] => { results := [.lit (.bool false)], args := [d] }
  | _ => none }
def BenchProofWrongFalsely : Prop := benchProofRow.holds Try.pinned (OpenSpec.ofChange benchProofWrong)

/-- 'tranklaw08.BenchChain': WHATEVER THE INPUT: true; the input reads as it did. -/
def benchChainSpec : ChangeSpec := { name := "benchChain", fn := fun _ => fun
  | [d] => { results := [.lit (.bool true)], args := [d] }
  | _ => none }
def benchChainRow : OpenClaim := { program := "ytmomjannlnafcaa", sum := "f3fdd8745bd53cdd8ad75bc1ac282195ba79cde933d578a5aacbee065aec87e9", func := "trank/tranklaw08.BenchChain", spec := "benchChain", unfollowed := true, recurses := true, apart := false }
def BenchChainSaid : Prop := benchChainRow.holds Try.pinned (OpenSpec.ofChange benchChainSpec)

/-- ITS FALSE NEIGHBOUR: 'it returns false'. Refute it at one input. -/
def benchChainWrong : ChangeSpec := { name := "benchChain", fn := fun _ => fun
  | [d] => { results := [.lit (.bool false)], args := [d] }
  | _ => none }
def BenchChainWrongFalsely : Prop := benchChainRow.holds Try.pinned (OpenSpec.ofChange benchChainWrong)

/-- 'tranklaw08.BenchLawler': WHATEVER THE INPUT: true; the input reads as it did. -/
def benchLawlerSpec : ChangeSpec := { name := "benchLawler", fn := fun _ => fun
  | [d] => { results := [.lit (.bool true)], args := [d] }
  | _ => none }
def benchLawlerRow : OpenClaim := { program := "ytmomjannlnafcaa", sum := "f3fdd8745bd53cdd8ad75bc1ac282195ba79cde933d578a5aacbee065aec87e9", func := "trank/tranklaw08.BenchLawler", spec := "benchLawler", unfollowed := true, recurses := true, apart := false }
def BenchLawlerSaid : Prop := benchLawlerRow.holds Try.pinned (OpenSpec.ofChange benchLawlerSpec)

/-- ITS FALSE NEIGHBOUR: 'it returns false'. Refute it at one input. -/
def benchLawlerWrong : ChangeSpec := { name := "benchLawler", fn := fun _ => fun
  | [d] => { results := [.lit (.bool false)], args := [d] }
  | _ => none }
def BenchLawlerWrongFalsely : Prop := benchLawlerRow.holds Try.pinned (OpenSpec.ofChange benchLawlerWrong)

/-- 'tranklaw08.BenchBound': WHATEVER THE INPUT: true; the input reads as it did. -/
def benchBoundSpec : ChangeSpec := { name := "benchBound", fn := fun _ => fun
  | [d1, d2] => { results := [.lit (.bool true)], args := [d1, d2] }
  | _ => none }
def benchBoundRow : OpenClaim := { program := "ytmomjannlnafcaa", sum := "f3fdd8745bd53cdd8ad75bc1ac282195ba79cde933d578a5aacbee065aec87e9", func := "trank/tranklaw08.BenchBound", spec := "benchBound", unfollowed := true, recurses := true, apart := false }
def BenchBoundSaid : Prop := benchBoundRow.holds Try.pinned (OpenSpec.ofChange benchBoundSpec)

/-- ITS FALSE NEIGHBOUR: 'it returns false'. Refute it at one input. -/
def benchBoundWrong : ChangeSpec := { name := "benchBound", fn := fun _ => fun
  | [d1, d2] => { results := [.lit (.bool false)], args := [d1, d2] }
  | _ => none }
def BenchBoundWrongFalsely : Prop := benchBoundRow.holds Try.pinned (OpenSpec.ofChange benchBoundWrong)

/-- 'tranklaw08.BenchFirst': WHATEVER THE INPUT: true; the input reads as it did. -/
def benchFirstSpec : ChangeSpec := { name := "benchFirst", fn := fun _ => fun
  | [d1, d2] => { results := [.lit (.bool true)], args := [d1, d2] }
  | _ => none }
def benchFirstRow : OpenClaim := { program := "ytmomjannlnafcaa", sum := "f3fdd8745bd53cdd8ad75bc1ac282195ba79cde933d578a5aacbee065aec87e9", func := "trank/tranklaw08.BenchFirst", spec := "benchFirst", unfollowed := true, recurses := true, apart := false }
def BenchFirstSaid : Prop := benchFirstRow.holds Try.pinned (OpenSpec.ofChange benchFirstSpec)

/-- ITS FALSE NEIGHBOUR: 'it returns false'. Refute it at one input. -/
def benchFirstWrong : ChangeSpec := { name := "benchFirst", fn := fun _ => fun
  | [d1, d2] => { results := [.lit (.bool false)], args := [d1, d2] }
  | _ => none }
def BenchFirstWrongFalsely : Prop := benchFirstRow.holds Try.pinned (OpenSpec.ofChange benchFirstWrong)

/-- 'tranklaw08.BenchSpan': WHATEVER THE INPUT: true; the input reads as it did. -/
def benchSpanSpec : ChangeSpec := { name := "benchSpan", fn := fun _ => fun
  | [d1, d2] => { results := [.lit (.bool true)], args := [d1, d2] }
  | _ => none }
def benchSpanRow : OpenClaim := { program := "ytmomjannlnafcaa", sum := "f3fdd8745bd53cdd8ad75bc1ac282195ba79cde933d578a5aacbee065aec87e9", func := "trank/tranklaw08.BenchSpan", spec := "benchSpan", unfollowed := true, recurses := true, apart := false }
def BenchSpanSaid : Prop := benchSpanRow.holds Try.pinned (OpenSpec.ofChange benchSpanSpec)

/-- ITS FALSE NEIGHBOUR: 'it returns false'. Refute it at one input. -/
def benchSpanWrong : ChangeSpec := { name := "benchSpan", fn := fun _ => fun
  | [d1, d2] => { results := [.lit (.bool false)], args := [d1, d2] }
  | _ => none }
def BenchSpanWrongFalsely : Prop := benchSpanRow.holds Try.pinned (OpenSpec.ofChange benchSpanWrong)

/-- 'tranklaw08.BenchTurns': WHATEVER THE INPUT: true; the input reads as it did. -/
def benchTurnsSpec : ChangeSpec := { name := "benchTurns", fn := fun _ => fun
  | [d1, d2] => { results := [.lit (.bool true)], args := [d1, d2] }
  | _ => none }
def benchTurnsRow : OpenClaim := { program := "ytmomjannlnafcaa", sum := "f3fdd8745bd53cdd8ad75bc1ac282195ba79cde933d578a5aacbee065aec87e9", func := "trank/tranklaw08.BenchTurns", spec := "benchTurns", unfollowed := true, recurses := true, apart := false }
def BenchTurnsSaid : Prop := benchTurnsRow.holds Try.pinned (OpenSpec.ofChange benchTurnsSpec)

/-- ITS FALSE NEIGHBOUR: 'it returns false'. Refute it at one input. -/
def benchTurnsWrong : ChangeSpec := { name := "benchTurns", fn := fun _ => fun
  | [d1, d2] => { results := [.lit (.bool false)], args := [d1, d2] }
  | _ => none }
def BenchTurnsWrongFalsely : Prop := benchTurnsRow.holds Try.pinned (OpenSpec.ofChange benchTurnsWrong)

/-- 'tranklaw08.BenchEnds': WHATEVER THE INPUT: true; the input reads as it did. -/
def benchEndsSpec : ChangeSpec := { name := "benchEnds", fn := fun _ => fun
  | [d1, d2] => { results := [.lit (.bool true)], args := [d1, d2] }
  | _ => none }
def benchEndsRow : OpenClaim := { program := "ytmomjannlnafcaa", sum := "f3fdd8745bd53cdd8ad75bc1ac282195ba79cde933d578a5aacbee065aec87e9", func := "trank/tranklaw08.BenchEnds", spec := "benchEnds", unfollowed := true, recurses := true, apart := false }
def BenchEndsSaid : Prop := benchEndsRow.holds Try.pinned (OpenSpec.ofChange benchEndsSpec)

/-- ITS FALSE NEIGHBOUR: 'it returns false'. Refute it at one input. -/
def benchEndsWrong : ChangeSpec := { name := "benchEnds", fn := fun _ => fun
  | [d1, d2] => { results := [.lit (.bool false)], args := [d1, d2] }
  | _ => none }
def BenchEndsWrongFalsely : Prop := benchEndsRow.holds Try.pinned (OpenSpec.ofChange benchEndsWrong)

/-- 'tranklaw08.BenchMoore': WHATEVER THE INPUT: true; the input reads as it did. -/
def benchMooreSpec : ChangeSpec := { name := "benchMoore", fn := fun _ => fun
  | [d] => { results := [.lit (.bool true)], args := [d] }
  | _ => none }
def benchMooreRow : OpenClaim := { program := "ytmomjannlnafcaa", sum := "f3fdd8745bd53cdd8ad75bc1ac282195ba79cde933d578a5aacbee065aec87e9", func := "trank/tranklaw08.BenchMoore", spec := "benchMoore", unfollowed := true, recurses := true, apart := false }
def BenchMooreSaid : Prop := benchMooreRow.holds Try.pinned (OpenSpec.ofChange benchMooreSpec)

/-- ITS FALSE NEIGHBOUR: 'it returns false'. Refute it at one input. -/
def benchMooreWrong : ChangeSpec := { name := "benchMoore", fn := fun _ => fun
  | [d] => { results := [.lit (.bool false)], args := [d] }
  | _ => none }
def BenchMooreWrongFalsely : Prop := benchMooreRow.holds Try.pinned (OpenSpec.ofChange benchMooreWrong)

/-- 'tranklaw08.BenchPunctual': WHATEVER THE INPUT: true; the input reads as it did. -/
def benchPunctualSpec : ChangeSpec := { name := "benchPunctual", fn := fun _ => fun
  | [d1, d2] => { results := [.lit (.bool true)], args := [d1, d2] }
  | _ => none }
def benchPunctualRow : OpenClaim := { program := "ytmomjannlnafcaa", sum := "f3fdd8745bd53cdd8ad75bc1ac282195ba79cde933d578a5aacbee065aec87e9", func := "trank/tranklaw08.BenchPunctual", spec := "benchPunctual", unfollowed := true, recurses := true, apart := false }
def BenchPunctualSaid : Prop := benchPunctualRow.holds Try.pinned (OpenSpec.ofChange benchPunctualSpec)

/-- ITS FALSE NEIGHBOUR: 'it returns false'. Refute it at one input. -/
def benchPunctualWrong : ChangeSpec := { name := "benchPunctual", fn := fun _ => fun
  | [d1, d2] => { results := [.lit (.bool false)], args := [d1, d2] }
  | _ => none }
def BenchPunctualWrongFalsely : Prop := benchPunctualRow.holds Try.pinned (OpenSpec.ofChange benchPunctualWrong)

/-- 'tranklaw08.BenchWorst': WHATEVER THE INPUT: true; the input reads as it did. -/
def benchWorstSpec : ChangeSpec := { name := "benchWorst", fn := fun _ => fun
  | [d1, d2] => { results := [.lit (.bool true)], args := [d1, d2] }
  | _ => none }
def benchWorstRow : OpenClaim := { program := "ytmomjannlnafcaa", sum := "f3fdd8745bd53cdd8ad75bc1ac282195ba79cde933d578a5aacbee065aec87e9", func := "trank/tranklaw08.BenchWorst", spec := "benchWorst", unfollowed := true, recurses := true, apart := false }
def BenchWorstSaid : Prop := benchWorstRow.holds Try.pinned (OpenSpec.ofChange benchWorstSpec)

/-- ITS FALSE NEIGHBOUR: 'it returns false'. Refute it at one input. -/
def benchWorstWrong : ChangeSpec := { name := "benchWorst", fn := fun _ => fun
  | [d1, d2] => { results := [.lit (.bool false)], args := [d1, d2] }
  | _ => none }
def BenchWorstWrongFalsely : Prop := benchWorstRow.holds Try.pinned (OpenSpec.ofChange benchWorstWrong)

/- THE SECOND FORM. 'bulk': how many values and letters a reading holds, each counted each time it is reached (what is shared counts as often as it is met; a slice's spare places count too). A statement '..UptoSaid' is the law's where the arguments, and the package variables that the reading takes, are together of bulk at most 1048576: NARROWER than '..Said'. Prove '..Said' where nothing that the law and all that it calls make is longer than what came in: it says more and counts as full. Else prove '..UptoSaid'. A law counts once. -/
mutual
def uptoBulk {H : Type} : DataW H → Nat
  | .lit (.string bytes) => bytes.length + 1
  | .lit _ => 1
  | .nil => 1
  | .ptr d => uptoBulk d + 1
  | .slice elems spare => uptoBulkAll elems + uptoBulkAll spare + 1
  | .agg parts => uptoBulkAll parts + 1
  | .iface _ d => uptoBulk d + 1
  | .map entries => uptoBulkEntries entries + 1
  | .held _ => 1
def uptoBulkAll {H : Type} : List (DataW H) → Nat
  | [] => 0
  | d :: r => uptoBulk d + uptoBulkAll r
def uptoBulkEntries {H : Type} : List (Lit × DataW H) → Nat
  | [] => 0
  | x :: r => uptoBulkEntry x + uptoBulkEntries r
def uptoBulkEntry {H : Type} : Lit × DataW H → Nat
  | (.string bytes, d) => bytes.length + uptoBulk d + 1
  | (_, d) => uptoBulk d + 1
 end
def uptoSmall : (H : Type) → List (DataW H) → Bool := fun _ ds => decide (uptoBulkAll ds ≤ 1048576)
def OpenSpec.upto (s : _root_.Go.ChangeSpec) : _root_.Go.OpenSpec := { _root_.Go.OpenSpec.ofChange s with cond := some uptoSmall }

/-- 'tranklaw08.BenchJohnson', WHERE WHAT IT READS IS OF BULK AT MOST 1048576: true; the input reads as it did. -/
def benchJohnsonUptoRow : OpenClaim := { program := "ytmomjannlnafcaa", sum := "f3fdd8745bd53cdd8ad75bc1ac282195ba79cde933d578a5aacbee065aec87e9", func := "trank/tranklaw08.BenchJohnson", spec := "benchJohnson", unfollowed := true, recurses := true, apart := false, narrowed := true }
def BenchJohnsonUptoSaid : Prop := benchJohnsonUptoRow.holds Try.pinned (OpenSpec.upto benchJohnsonSpec)

/-- 'tranklaw08.BenchWrap', WHERE WHAT IT READS IS OF BULK AT MOST 1048576: true; the input reads as it did. -/
def benchWrapUptoRow : OpenClaim := { program := "ytmomjannlnafcaa", sum := "f3fdd8745bd53cdd8ad75bc1ac282195ba79cde933d578a5aacbee065aec87e9", func := "trank/tranklaw08.BenchWrap", spec := "benchWrap", unfollowed := true, recurses := true, apart := false, narrowed := true }
def BenchWrapUptoSaid : Prop := benchWrapUptoRow.holds Try.pinned (OpenSpec.upto benchWrapSpec)

/-- 'tranklaw08.BenchApart', WHERE WHAT IT READS IS OF BULK AT MOST 1048576: true; the input reads as it did. -/
def benchApartUptoRow : OpenClaim := { program := "ytmomjannlnafcaa", sum := "f3fdd8745bd53cdd8ad75bc1ac282195ba79cde933d578a5aacbee065aec87e9", func := "trank/tranklaw08.BenchApart", spec := "benchApart", unfollowed := true, recurses := true, apart := false, narrowed := true }
def BenchApartUptoSaid : Prop := benchApartUptoRow.holds Try.pinned (OpenSpec.upto benchApartSpec)

/-- 'tranklaw08.BenchLong', WHERE WHAT IT READS IS OF BULK AT MOST 1048576: true; the input reads as it did. -/
def benchLongUptoRow : OpenClaim := { program := "ytmomjannlnafcaa", sum := "f3fdd8745bd53cdd8ad75bc1ac282195ba79cde933d578a5aacbee065aec87e9", func := "trank/tranklaw08.BenchLong", spec := "benchLong", unfollowed := true, recurses := true, apart := false, narrowed := true }
def BenchLongUptoSaid : Prop := benchLongUptoRow.holds Try.pinned (OpenSpec.upto benchLongSpec)

/-- 'tranklaw08.BenchGraham', WHERE WHAT IT READS IS OF BULK AT MOST 1048576: true; the input reads as it did. -/
def benchGrahamUptoRow : OpenClaim := { program := "ytmomjannlnafcaa", sum := "f3fdd8745bd53cdd8ad75bc1ac282195ba79cde933d578a5aacbee065aec87e9", func := "trank/tranklaw08.BenchGraham", spec := "benchGraham", unfollowed := true, recurses := true, apart := false, narrowed := true }
def BenchGrahamUptoSaid : Prop := benchGrahamUptoRow.holds Try.pinned (OpenSpec.upto benchGrahamSpec)

/-- 'tranklaw08.BenchEarly', WHERE WHAT IT READS IS OF BULK AT MOST 1048576: true; the input reads as it did. -/
def benchEarlyUptoRow : OpenClaim := { program := "ytmomjannlnafcaa", sum := "f3fdd8745bd53cdd8ad75bc1ac282195ba79cde933d578a5aacbee065aec87e9", func := "trank/tranklaw08.BenchEarly", spec := "benchEarly", unfollowed := true, recurses := true, apart := false, narrowed := true }
def BenchEarlyUptoSaid : Prop := benchEarlyUptoRow.holds Try.pinned (OpenSpec.upto benchEarlySpec)

/-- 'tranklaw08.BenchProof', WHERE WHAT IT READS IS OF BULK AT MOST 1048576: true; the input reads as it did. -/
def benchProofUptoRow : OpenClaim := { program := "ytmomjannlnafcaa", sum := "f3fdd8745bd53cdd8ad75bc1ac282195ba79cde933d578a5aacbee065aec87e9", func := "trank/tranklaw08.BenchProof", spec := "benchProof", unfollowed := true, recurses := true, apart := false, narrowed := true }
def BenchProofUptoSaid : Prop := benchProofUptoRow.holds Try.pinned (OpenSpec.upto benchProofSpec)

/-- 'tranklaw08.BenchChain', WHERE WHAT IT READS IS OF BULK AT MOST 1048576: true; the input reads as it did. -/
def benchChainUptoRow : OpenClaim := { program := "ytmomjannlnafcaa", sum := "f3fdd8745bd53cdd8ad75bc1ac282195ba79cde933d578a5aacbee065aec87e9", func := "trank/tranklaw08.BenchChain", spec := "benchChain", unfollowed := true, recurses := true, apart := false, narrowed := true }
def BenchChainUptoSaid : Prop := benchChainUptoRow.holds Try.pinned (OpenSpec.upto benchChainSpec)

/-- 'tranklaw08.BenchLawler', WHERE WHAT IT READS IS OF BULK AT MOST 1048576: true; the input reads as it did. -/
def benchLawlerUptoRow : OpenClaim := { program := "ytmomjannlnafcaa", sum := "f3fdd8745bd53cdd8ad75bc1ac282195ba79cde933d578a5aacbee065aec87e9", func := "trank/tranklaw08.BenchLawler", spec := "benchLawler", unfollowed := true, recurses := true, apart := false, narrowed := true }
def BenchLawlerUptoSaid : Prop := benchLawlerUptoRow.holds Try.pinned (OpenSpec.upto benchLawlerSpec)

/-- 'tranklaw08.BenchBound', WHERE WHAT IT READS IS OF BULK AT MOST 1048576: true; the input reads as it did. -/
def benchBoundUptoRow : OpenClaim := { program := "ytmomjannlnafcaa", sum := "f3fdd8745bd53cdd8ad75bc1ac282195ba79cde933d578a5aacbee065aec87e9", func := "trank/tranklaw08.BenchBound", spec := "benchBound", unfollowed := true, recurses := true, apart := false, narrowed := true }
def BenchBoundUptoSaid : Prop := benchBoundUptoRow.holds Try.pinned (OpenSpec.upto benchBoundSpec)

/-- 'tranklaw08.BenchFirst', WHERE WHAT IT READS IS OF BULK AT MOST 1048576: true; the input reads as it did. -/
def benchFirstUptoRow : OpenClaim := { program := "ytmomjannlnafcaa", sum := "f3fdd8745bd53cdd8ad75bc1ac282195ba79cde933d578a5aacbee065aec87e9", func := "trank/tranklaw08.BenchFirst", spec := "benchFirst", unfollowed := true, recurses := true, apart := false, narrowed := true }
def BenchFirstUptoSaid : Prop := benchFirstUptoRow.holds Try.pinned (OpenSpec.upto benchFirstSpec)

/-- 'tranklaw08.BenchSpan', WHERE WHAT IT READS IS OF BULK AT MOST 1048576: true; the input reads as it did. -/
def benchSpanUptoRow : OpenClaim := { program := "ytmomjannlnafcaa", sum := "f3fdd8745bd53cdd8ad75bc1ac282195ba79cde933d578a5aacbee065aec87e9", func := "trank/tranklaw08.BenchSpan", spec := "benchSpan", unfollowed := true, recurses := true, apart := false, narrowed := true }
def BenchSpanUptoSaid : Prop := benchSpanUptoRow.holds Try.pinned (OpenSpec.upto benchSpanSpec)

/-- 'tranklaw08.BenchTurns', WHERE WHAT IT READS IS OF BULK AT MOST 1048576: true; the input reads as it did. -/
def benchTurnsUptoRow : OpenClaim := { program := "ytmomjannlnafcaa", sum := "f3fdd8745bd53cdd8ad75bc1ac282195ba79cde933d578a5aacbee065aec87e9", func := "trank/tranklaw08.BenchTurns", spec := "benchTurns", unfollowed := true, recurses := true, apart := false, narrowed := true }
def BenchTurnsUptoSaid : Prop := benchTurnsUptoRow.holds Try.pinned (OpenSpec.upto benchTurnsSpec)

/-- 'tranklaw08.BenchEnds', WHERE WHAT IT READS IS OF BULK AT MOST 1048576: true; the input reads as it did. -/
def benchEndsUptoRow : OpenClaim := { program := "ytmomjannlnafcaa", sum := "f3fdd8745bd53cdd8ad75bc1ac282195ba79cde933d578a5aacbee065aec87e9", func := "trank/tranklaw08.BenchEnds", spec := "benchEnds", unfollowed := true, recurses := true, apart := false, narrowed := true }
def BenchEndsUptoSaid : Prop := benchEndsUptoRow.holds Try.pinned (OpenSpec.upto benchEndsSpec)

/-- 'tranklaw08.BenchMoore', WHERE WHAT IT READS IS OF BULK AT MOST 1048576: true; the input reads as it did. -/
def benchMooreUptoRow : OpenClaim := { program := "ytmomjannlnafcaa", sum := "f3fdd8745bd53cdd8ad75bc1ac282195ba79cde933d578a5aacbee065aec87e9", func := "trank/tranklaw08.BenchMoore", spec := "benchMoore", unfollowed := true, recurses := true, apart := false, narrowed := true }
def BenchMooreUptoSaid : Prop := benchMooreUptoRow.holds Try.pinned (OpenSpec.upto benchMooreSpec)

/-- 'tranklaw08.BenchPunctual', WHERE WHAT IT READS IS OF BULK AT MOST 1048576: true; the input reads as it did. -/
def benchPunctualUptoRow : OpenClaim := { program := "ytmomjannlnafcaa", sum := "f3fdd8745bd53cdd8ad75bc1ac282195ba79cde933d578a5aacbee065aec87e9", func := "trank/tranklaw08.BenchPunctual", spec := "benchPunctual", unfollowed := true, recurses := true, apart := false, narrowed := true }
def BenchPunctualUptoSaid : Prop := benchPunctualUptoRow.holds Try.pinned (OpenSpec.upto benchPunctualSpec)

/-- 'tranklaw08.BenchWorst', WHERE WHAT IT READS IS OF BULK AT MOST 1048576: true; the input reads as it did. -/
def benchWorstUptoRow : OpenClaim := { program := "ytmomjannlnafcaa", sum := "f3fdd8745bd53cdd8ad75bc1ac282195ba79cde933d578a5aacbee065aec87e9", func := "trank/tranklaw08.BenchWorst", spec := "benchWorst", unfollowed := true, recurses := true, apart := false, narrowed := true }
def BenchWorstUptoSaid : Prop := benchWorstUptoRow.holds Try.pinned (OpenSpec.upto benchWorstSpec)

end Rows
end Go.Proofs.Ytmomjannlnafcaa
