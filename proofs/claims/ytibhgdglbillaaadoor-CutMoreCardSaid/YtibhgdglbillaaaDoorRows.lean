/-
  NARROWER THAN 'FOR EVERY INPUT', by the rows' own cells (each row's printed sentence says how): CutRects: laid · CutMore: laid · CutStrict: laid · CutTurns: laid · CutChecks: laid · CutProves: laid · CutBest: laid · CutFill: laid · CutBounds: laid · CutBins: laid · CutReads: laid · CutPlans: laid · CutFits: laid · CutStrips: laid.
  DERIVED. THE GIVEN ROWS OF THIS SEAT. 14 by the template 'for every input the law returns true; each argument reads behind the call as it read before'; 0 by the template 'total and deterministic' (their statements: YtibhgdglbillaaaDoorTotals.lean).
  GIVEN WITH THE SEED: the statements are not yours to turn. If you find one false, say at which input.
  Laid BY PROGRAM, IN A SANDBOX (cutbox-rows.mjs): the forced cells as the released guide's own fill.sh prints them over the translation 6c66963c30405f75… (all of the seat's roots in one cut). By AI agents, Wed Nov 11 2026. No macro, syntax, notation, axiom, sorry.
-/
import Derived.Test.YtibhgdglbillaaaDoorChecked
import GoSem.PinnedTables
import GoSem.Claim
import GoSem.ClaimJoined
import GoSem.ClaimMapViews
import Derived.JoinedTies
import Derived.KernelRfl
namespace Go.Proofs.YtibhgdglbillaaaDoor
/- THE CELL 'sum', in the pinned program and in every row, IS THE sha256 OF THE DUMP (.gsa) THAT YtibhgdglbillaaaDoorProg.lean LOADS. Nothing in Lean hashes anything: it is a label: what it is worth is what the hold of that sum in a sandbox is worth. -/
noncomputable def Tryd.pinned : Pinned := { name := "ytibhgdglbillaaadoor", sum := "6c66963c30405f75551a1416ed908dc556b2cffc80967f32b9daa915cf3e3417", checked := Tryd.checked }
namespace Rows
def none {H : Type} : Left H := { results := [], args := [] }

/- WHAT THE LISTED PACKAGE-LEVEL VARIABLES READ AS WHEN THE CALL BEGINS. Each datum BY PROGRAM (the guide's laid-datum.mjs) off the statement by which the dump's own 'gosem.cut.vars' lays the variable. In a bare row this is a premise. The card (YtibhgdglbillaaaDoorCards.lean) ties it to the program's text. -/
def laid_unicode_utf8_acceptRanges {H : Type} : DataW H := .agg [.agg [.lit (.int .u8 128), .lit (.int .u8 191)], .agg [.lit (.int .u8 160), .lit (.int .u8 191)], .agg [.lit (.int .u8 128), .lit (.int .u8 159)], .agg [.lit (.int .u8 144), .lit (.int .u8 191)], .agg [.lit (.int .u8 128), .lit (.int .u8 143)], .agg [.lit (.int .u8 0), .lit (.int .u8 0)], .agg [.lit (.int .u8 0), .lit (.int .u8 0)], .agg [.lit (.int .u8 0), .lit (.int .u8 0)], .agg [.lit (.int .u8 0), .lit (.int .u8 0)], .agg [.lit (.int .u8 0), .lit (.int .u8 0)], .agg [.lit (.int .u8 0), .lit (.int .u8 0)], .agg [.lit (.int .u8 0), .lit (.int .u8 0)], .agg [.lit (.int .u8 0), .lit (.int .u8 0)], .agg [.lit (.int .u8 0), .lit (.int .u8 0)], .agg [.lit (.int .u8 0), .lit (.int .u8 0)], .agg [.lit (.int .u8 0), .lit (.int .u8 0)]]
/-- One of Go's own tables, pinned by name: the form's constant. -/
def laid_unicode_utf8_first : DataW Unit := Go.Pinned.utf8First

/-- 'tranklaw05.CutRects': WHATEVER THE INPUT: true; the input reads as it did. -/
def cutRectsSpec : ChangeSpec := { name := "cutRects", fn := fun _ => fun
  | [d1, d2, d3] => { results := [.lit (.bool true)], args := [d1, d2, d3] }
  | _ => none }
def cutRectsRow : OpenClaim := { program := "ytibhgdglbillaaadoor", sum := "6c66963c30405f75551a1416ed908dc556b2cffc80967f32b9daa915cf3e3417", func := "trank/tranklaw05.CutRects", spec := "cutRects", inPlace := ["internal/bytealg.IndexByteString", "internal/bytealg.IndexString"], unfollowed := true, recurses := true, named := ["unicode/utf8.first", "unicode/utf8.acceptRanges", "internal/bytealg.MaxLen"], apart := false, laid := [("unicode/utf8.acceptRanges", laid_unicode_utf8_acceptRanges), ("unicode/utf8.first", laid_unicode_utf8_first)] }
def CutRectsSaid : Prop := cutRectsRow.holds Tryd.pinned (OpenSpec.ofChange cutRectsSpec)

/-- ITS FALSE NEIGHBOUR: 'it returns false'. Refute it at one input. -/
def cutRectsWrong : ChangeSpec := { name := "cutRects", fn := fun _ => fun
  | [d1, d2, d3] => { results := [.lit (.bool false)], args := [d1, d2, d3] }
  | _ => none }
def CutRectsWrongFalsely : Prop := cutRectsRow.holds Tryd.pinned (OpenSpec.ofChange cutRectsWrong)

/-- 'tranklaw05.CutMore': WHATEVER THE INPUT: true; the input reads as it did. -/
def cutMoreSpec : ChangeSpec := { name := "cutMore", fn := fun _ => fun
  | [d1, d2, d3, d4, d5] => { results := [.lit (.bool true)], args := [d1, d2, d3, d4, d5] }
  | _ => none }
def cutMoreRow : OpenClaim := { program := "ytibhgdglbillaaadoor", sum := "6c66963c30405f75551a1416ed908dc556b2cffc80967f32b9daa915cf3e3417", func := "trank/tranklaw05.CutMore", spec := "cutMore", inPlace := ["internal/bytealg.IndexByteString", "internal/bytealg.IndexString"], unfollowed := true, recurses := true, named := ["unicode/utf8.first", "unicode/utf8.acceptRanges", "internal/bytealg.MaxLen"], apart := false, laid := [("unicode/utf8.acceptRanges", laid_unicode_utf8_acceptRanges), ("unicode/utf8.first", laid_unicode_utf8_first)] }
def CutMoreSaid : Prop := cutMoreRow.holds Tryd.pinned (OpenSpec.ofChange cutMoreSpec)

/-- ITS FALSE NEIGHBOUR: 'it returns false'. Refute it at one input. -/
def cutMoreWrong : ChangeSpec := { name := "cutMore", fn := fun _ => fun
  | [d1, d2, d3, d4, d5] => { results := [.lit (.bool false)], args := [d1, d2, d3, d4, d5] }
  | _ => none }
def CutMoreWrongFalsely : Prop := cutMoreRow.holds Tryd.pinned (OpenSpec.ofChange cutMoreWrong)

/-- 'tranklaw05.CutStrict': WHATEVER THE INPUT: true; the input reads as it did. -/
def cutStrictSpec : ChangeSpec := { name := "cutStrict", fn := fun _ => fun
  | [d1, d2, d3] => { results := [.lit (.bool true)], args := [d1, d2, d3] }
  | _ => none }
def cutStrictRow : OpenClaim := { program := "ytibhgdglbillaaadoor", sum := "6c66963c30405f75551a1416ed908dc556b2cffc80967f32b9daa915cf3e3417", func := "trank/tranklaw05.CutStrict", spec := "cutStrict", inPlace := ["internal/bytealg.IndexByteString", "internal/bytealg.IndexString"], unfollowed := true, recurses := true, named := ["unicode/utf8.first", "unicode/utf8.acceptRanges", "internal/bytealg.MaxLen"], apart := false, laid := [("unicode/utf8.acceptRanges", laid_unicode_utf8_acceptRanges), ("unicode/utf8.first", laid_unicode_utf8_first)] }
def CutStrictSaid : Prop := cutStrictRow.holds Tryd.pinned (OpenSpec.ofChange cutStrictSpec)

/-- ITS FALSE NEIGHBOUR: 'it returns false'. Refute it at one input. -/
def cutStrictWrong : ChangeSpec := { name := "cutStrict", fn := fun _ => fun
  | [d1, d2, d3] => { results := [.lit (.bool false)], args := [d1, d2, d3] }
  | _ => none }
def CutStrictWrongFalsely : Prop := cutStrictRow.holds Tryd.pinned (OpenSpec.ofChange cutStrictWrong)

/-- 'tranklaw05.CutTurns': WHATEVER THE INPUT: true; the input reads as it did. -/
def cutTurnsSpec : ChangeSpec := { name := "cutTurns", fn := fun _ => fun
  | [d1, d2, d3] => { results := [.lit (.bool true)], args := [d1, d2, d3] }
  | _ => none }
def cutTurnsRow : OpenClaim := { program := "ytibhgdglbillaaadoor", sum := "6c66963c30405f75551a1416ed908dc556b2cffc80967f32b9daa915cf3e3417", func := "trank/tranklaw05.CutTurns", spec := "cutTurns", inPlace := ["internal/bytealg.IndexByteString", "internal/bytealg.IndexString"], unfollowed := true, recurses := true, named := ["unicode/utf8.first", "unicode/utf8.acceptRanges", "internal/bytealg.MaxLen"], apart := false, laid := [("unicode/utf8.acceptRanges", laid_unicode_utf8_acceptRanges), ("unicode/utf8.first", laid_unicode_utf8_first)] }
def CutTurnsSaid : Prop := cutTurnsRow.holds Tryd.pinned (OpenSpec.ofChange cutTurnsSpec)

/-- ITS FALSE NEIGHBOUR: 'it returns false'. Refute it at one input. -/
def cutTurnsWrong : ChangeSpec := { name := "cutTurns", fn := fun _ => fun
  | [d1, d2, d3] => { results := [.lit (.bool false)], args := [d1, d2, d3] }
  | _ => none }
def CutTurnsWrongFalsely : Prop := cutTurnsRow.holds Tryd.pinned (OpenSpec.ofChange cutTurnsWrong)

/-- 'tranklaw05.CutChecks': WHATEVER THE INPUT: true; the input reads as it did. -/
def cutChecksSpec : ChangeSpec := { name := "cutChecks", fn := fun _ => fun
  | [d1, d2, d3] => { results := [.lit (.bool true)], args := [d1, d2, d3] }
  | _ => none }
def cutChecksRow : OpenClaim := { program := "ytibhgdglbillaaadoor", sum := "6c66963c30405f75551a1416ed908dc556b2cffc80967f32b9daa915cf3e3417", func := "trank/tranklaw05.CutChecks", spec := "cutChecks", inPlace := ["internal/bytealg.IndexByteString", "internal/bytealg.IndexString"], unfollowed := true, recurses := true, named := ["unicode/utf8.first", "unicode/utf8.acceptRanges", "internal/bytealg.MaxLen"], apart := false, laid := [("unicode/utf8.acceptRanges", laid_unicode_utf8_acceptRanges), ("unicode/utf8.first", laid_unicode_utf8_first)] }
def CutChecksSaid : Prop := cutChecksRow.holds Tryd.pinned (OpenSpec.ofChange cutChecksSpec)

/-- ITS FALSE NEIGHBOUR: 'it returns false'. Refute it at one input. -/
def cutChecksWrong : ChangeSpec := { name := "cutChecks", fn := fun _ => fun
  | [d1, d2, d3] => { results := [.lit (.bool false)], args := [d1, d2, d3] }
  | _ => none }
def CutChecksWrongFalsely : Prop := cutChecksRow.holds Tryd.pinned (OpenSpec.ofChange cutChecksWrong)

/-- 'tranklaw05.CutProves': WHATEVER THE INPUT: true; the input reads as it did. -/
def cutProvesSpec : ChangeSpec := { name := "cutProves", fn := fun _ => fun
  | [d1, d2] => { results := [.lit (.bool true)], args := [d1, d2] }
  | _ => none }
def cutProvesRow : OpenClaim := { program := "ytibhgdglbillaaadoor", sum := "6c66963c30405f75551a1416ed908dc556b2cffc80967f32b9daa915cf3e3417", func := "trank/tranklaw05.CutProves", spec := "cutProves", inPlace := ["internal/bytealg.IndexByteString", "internal/bytealg.IndexString"], unfollowed := true, recurses := true, named := ["unicode/utf8.first", "unicode/utf8.acceptRanges", "internal/bytealg.MaxLen"], apart := false, laid := [("unicode/utf8.acceptRanges", laid_unicode_utf8_acceptRanges), ("unicode/utf8.first", laid_unicode_utf8_first)] }
def CutProvesSaid : Prop := cutProvesRow.holds Tryd.pinned (OpenSpec.ofChange cutProvesSpec)

/-- ITS FALSE NEIGHBOUR: 'it returns false'. Refute it at one input. -/
def cutProvesWrong : ChangeSpec := { name := "cutProves", fn := fun _ => fun
  | [d1, d2] => { results := [.lit (.bool false)], args := [d1, d2] }
  | _ => none }
def CutProvesWrongFalsely : Prop := cutProvesRow.holds Tryd.pinned (OpenSpec.ofChange cutProvesWrong)

/-- 'tranklaw05.CutBest': WHATEVER THE INPUT: true; the input reads as it did. -/
def cutBestSpec : ChangeSpec := { name := "cutBest", fn := fun _ => fun
  | [d1, d2] => { results := [.lit (.bool true)], args := [d1, d2] }
  | _ => none }
def cutBestRow : OpenClaim := { program := "ytibhgdglbillaaadoor", sum := "6c66963c30405f75551a1416ed908dc556b2cffc80967f32b9daa915cf3e3417", func := "trank/tranklaw05.CutBest", spec := "cutBest", inPlace := ["internal/bytealg.IndexByteString", "internal/bytealg.IndexString"], unfollowed := true, recurses := true, named := ["unicode/utf8.first", "unicode/utf8.acceptRanges", "internal/bytealg.MaxLen"], apart := false, laid := [("unicode/utf8.acceptRanges", laid_unicode_utf8_acceptRanges), ("unicode/utf8.first", laid_unicode_utf8_first)] }
def CutBestSaid : Prop := cutBestRow.holds Tryd.pinned (OpenSpec.ofChange cutBestSpec)

/-- ITS FALSE NEIGHBOUR: 'it returns false'. Refute it at one input. -/
def cutBestWrong : ChangeSpec := { name := "cutBest", fn := fun _ => fun
  | [d1, d2] => { results := [.lit (.bool false)], args := [d1, d2] }
  | _ => none }
def CutBestWrongFalsely : Prop := cutBestRow.holds Tryd.pinned (OpenSpec.ofChange cutBestWrong)

/-- 'tranklaw05.CutFill': WHATEVER THE INPUT: true; the input reads as it did. -/
def cutFillSpec : ChangeSpec := { name := "cutFill", fn := fun _ => fun
  | [d1, d2, d3] => { results := [.lit (.bool true)], args := [d1, d2, d3] }
  | _ => none }
def cutFillRow : OpenClaim := { program := "ytibhgdglbillaaadoor", sum := "6c66963c30405f75551a1416ed908dc556b2cffc80967f32b9daa915cf3e3417", func := "trank/tranklaw05.CutFill", spec := "cutFill", inPlace := ["internal/bytealg.IndexByteString", "internal/bytealg.IndexString"], unfollowed := true, recurses := true, named := ["unicode/utf8.first", "unicode/utf8.acceptRanges", "internal/bytealg.MaxLen"], apart := false, laid := [("unicode/utf8.acceptRanges", laid_unicode_utf8_acceptRanges), ("unicode/utf8.first", laid_unicode_utf8_first)] }
def CutFillSaid : Prop := cutFillRow.holds Tryd.pinned (OpenSpec.ofChange cutFillSpec)

/-- ITS FALSE NEIGHBOUR: 'it returns false'. Refute it at one input. -/
def cutFillWrong : ChangeSpec := { name := "cutFill", fn := fun _ => fun
  | [d1, d2, d3] => { results := [.lit (.bool false)], args := [d1, d2, d3] }
  | _ => none }
def CutFillWrongFalsely : Prop := cutFillRow.holds Tryd.pinned (OpenSpec.ofChange cutFillWrong)

/-- 'tranklaw05.CutBounds': WHATEVER THE INPUT: true; the input reads as it did. -/
def cutBoundsSpec : ChangeSpec := { name := "cutBounds", fn := fun _ => fun
  | [d1, d2, d3, d4] => { results := [.lit (.bool true)], args := [d1, d2, d3, d4] }
  | _ => none }
def cutBoundsRow : OpenClaim := { program := "ytibhgdglbillaaadoor", sum := "6c66963c30405f75551a1416ed908dc556b2cffc80967f32b9daa915cf3e3417", func := "trank/tranklaw05.CutBounds", spec := "cutBounds", inPlace := ["internal/bytealg.IndexByteString", "internal/bytealg.IndexString"], unfollowed := true, recurses := true, named := ["unicode/utf8.first", "unicode/utf8.acceptRanges", "internal/bytealg.MaxLen"], apart := false, laid := [("unicode/utf8.acceptRanges", laid_unicode_utf8_acceptRanges), ("unicode/utf8.first", laid_unicode_utf8_first)] }
def CutBoundsSaid : Prop := cutBoundsRow.holds Tryd.pinned (OpenSpec.ofChange cutBoundsSpec)

/-- ITS FALSE NEIGHBOUR: 'it returns false'. Refute it at one input. -/
def cutBoundsWrong : ChangeSpec := { name := "cutBounds", fn := fun _ => fun
  | [d1, d2, d3, d4] => { results := [.lit (.bool false)], args := [d1, d2, d3, d4] }
  | _ => none }
def CutBoundsWrongFalsely : Prop := cutBoundsRow.holds Tryd.pinned (OpenSpec.ofChange cutBoundsWrong)

/-- 'tranklaw05.CutBins': WHATEVER THE INPUT: true; the input reads as it did. -/
def cutBinsSpec : ChangeSpec := { name := "cutBins", fn := fun _ => fun
  | [d1, d2] => { results := [.lit (.bool true)], args := [d1, d2] }
  | _ => none }
def cutBinsRow : OpenClaim := { program := "ytibhgdglbillaaadoor", sum := "6c66963c30405f75551a1416ed908dc556b2cffc80967f32b9daa915cf3e3417", func := "trank/tranklaw05.CutBins", spec := "cutBins", inPlace := ["internal/bytealg.IndexByteString", "internal/bytealg.IndexString"], unfollowed := true, recurses := true, named := ["unicode/utf8.first", "unicode/utf8.acceptRanges", "internal/bytealg.MaxLen"], apart := false, laid := [("unicode/utf8.acceptRanges", laid_unicode_utf8_acceptRanges), ("unicode/utf8.first", laid_unicode_utf8_first)] }
def CutBinsSaid : Prop := cutBinsRow.holds Tryd.pinned (OpenSpec.ofChange cutBinsSpec)

/-- ITS FALSE NEIGHBOUR: 'it returns false'. Refute it at one input. -/
def cutBinsWrong : ChangeSpec := { name := "cutBins", fn := fun _ => fun
  | [d1, d2] => { results := [.lit (.bool false)], args := [d1, d2] }
  | _ => none }
def CutBinsWrongFalsely : Prop := cutBinsRow.holds Tryd.pinned (OpenSpec.ofChange cutBinsWrong)

/-- 'tranklaw05.CutReads': WHATEVER THE INPUT: true; the input reads as it did. -/
def cutReadsSpec : ChangeSpec := { name := "cutReads", fn := fun _ => fun
  | [d1, d2, d3] => { results := [.lit (.bool true)], args := [d1, d2, d3] }
  | _ => none }
def cutReadsRow : OpenClaim := { program := "ytibhgdglbillaaadoor", sum := "6c66963c30405f75551a1416ed908dc556b2cffc80967f32b9daa915cf3e3417", func := "trank/tranklaw05.CutReads", spec := "cutReads", inPlace := ["internal/bytealg.IndexByteString", "internal/bytealg.IndexString"], unfollowed := true, recurses := true, named := ["unicode/utf8.first", "unicode/utf8.acceptRanges", "internal/bytealg.MaxLen"], apart := false, laid := [("unicode/utf8.acceptRanges", laid_unicode_utf8_acceptRanges), ("unicode/utf8.first", laid_unicode_utf8_first)] }
def CutReadsSaid : Prop := cutReadsRow.holds Tryd.pinned (OpenSpec.ofChange cutReadsSpec)

/-- ITS FALSE NEIGHBOUR: 'it returns false'. Refute it at one input. -/
def cutReadsWrong : ChangeSpec := { name := "cutReads", fn := fun _ => fun
  | [d1, d2, d3] => { results := [.lit (.bool false)], args := [d1, d2, d3] }
  | _ => none }
def CutReadsWrongFalsely : Prop := cutReadsRow.holds Tryd.pinned (OpenSpec.ofChange cutReadsWrong)

/-- 'tranklaw05.CutPlans': WHATEVER THE INPUT: true; the input reads as it did. -/
def cutPlansSpec : ChangeSpec := { name := "cutPlans", fn := fun _ => fun
  | [d1, d2] => { results := [.lit (.bool true)], args := [d1, d2] }
  | _ => none }
def cutPlansRow : OpenClaim := { program := "ytibhgdglbillaaadoor", sum := "6c66963c30405f75551a1416ed908dc556b2cffc80967f32b9daa915cf3e3417", func := "trank/tranklaw05.CutPlans", spec := "cutPlans", inPlace := ["internal/bytealg.IndexByteString", "internal/bytealg.IndexString"], unfollowed := true, recurses := true, named := ["unicode/utf8.first", "unicode/utf8.acceptRanges", "internal/bytealg.MaxLen"], apart := false, laid := [("unicode/utf8.acceptRanges", laid_unicode_utf8_acceptRanges), ("unicode/utf8.first", laid_unicode_utf8_first)] }
def CutPlansSaid : Prop := cutPlansRow.holds Tryd.pinned (OpenSpec.ofChange cutPlansSpec)

/-- ITS FALSE NEIGHBOUR: 'it returns false'. Refute it at one input. -/
def cutPlansWrong : ChangeSpec := { name := "cutPlans", fn := fun _ => fun
  | [d1, d2] => { results := [.lit (.bool false)], args := [d1, d2] }
  | _ => none }
def CutPlansWrongFalsely : Prop := cutPlansRow.holds Tryd.pinned (OpenSpec.ofChange cutPlansWrong)

/-- 'tranklaw05.CutFits': WHATEVER THE INPUT: true; the input reads as it did. -/
def cutFitsSpec : ChangeSpec := { name := "cutFits", fn := fun _ => fun
  | [d1, d2] => { results := [.lit (.bool true)], args := [d1, d2] }
  | _ => none }
def cutFitsRow : OpenClaim := { program := "ytibhgdglbillaaadoor", sum := "6c66963c30405f75551a1416ed908dc556b2cffc80967f32b9daa915cf3e3417", func := "trank/tranklaw05.CutFits", spec := "cutFits", inPlace := ["internal/bytealg.IndexByteString", "internal/bytealg.IndexString"], unfollowed := true, recurses := true, named := ["unicode/utf8.first", "unicode/utf8.acceptRanges", "internal/bytealg.MaxLen"], apart := false, laid := [("unicode/utf8.acceptRanges", laid_unicode_utf8_acceptRanges), ("unicode/utf8.first", laid_unicode_utf8_first)] }
def CutFitsSaid : Prop := cutFitsRow.holds Tryd.pinned (OpenSpec.ofChange cutFitsSpec)

/-- ITS FALSE NEIGHBOUR: 'it returns false'. Refute it at one input. -/
def cutFitsWrong : ChangeSpec := { name := "cutFits", fn := fun _ => fun
  | [d1, d2] => { results := [.lit (.bool false)], args := [d1, d2] }
  | _ => none }
def CutFitsWrongFalsely : Prop := cutFitsRow.holds Tryd.pinned (OpenSpec.ofChange cutFitsWrong)

/-- 'tranklaw05.CutStrips': WHATEVER THE INPUT: true; the input reads as it did. -/
def cutStripsSpec : ChangeSpec := { name := "cutStrips", fn := fun _ => fun
  | [d1, d2] => { results := [.lit (.bool true)], args := [d1, d2] }
  | _ => none }
def cutStripsRow : OpenClaim := { program := "ytibhgdglbillaaadoor", sum := "6c66963c30405f75551a1416ed908dc556b2cffc80967f32b9daa915cf3e3417", func := "trank/tranklaw05.CutStrips", spec := "cutStrips", inPlace := ["internal/bytealg.IndexByteString", "internal/bytealg.IndexString"], unfollowed := true, recurses := true, named := ["unicode/utf8.first", "unicode/utf8.acceptRanges", "internal/bytealg.MaxLen"], apart := false, laid := [("unicode/utf8.acceptRanges", laid_unicode_utf8_acceptRanges), ("unicode/utf8.first", laid_unicode_utf8_first)] }
def CutStripsSaid : Prop := cutStripsRow.holds Tryd.pinned (OpenSpec.ofChange cutStripsSpec)

/-- ITS FALSE NEIGHBOUR: 'it returns false'. Refute it at one input. -/
def cutStripsWrong : ChangeSpec := { name := "cutStrips", fn := fun _ => fun
  | [d1, d2] => { results := [.lit (.bool false)], args := [d1, d2] }
  | _ => none }
def CutStripsWrongFalsely : Prop := cutStripsRow.holds Tryd.pinned (OpenSpec.ofChange cutStripsWrong)

/- THE SECOND FORM. 'bulk': how many values and letters a reading holds, each counted each time it is reached (what is shared counts as often as it is met; a slice's spare places count too). A statement '..UptoSaid' is the law's where the arguments, and the package variables that the reading takes, are together of bulk at most 1048576: NARROWER than '..Said'. Prove '..Said' where nothing that the law and all that it calls make is longer than what came in: it says more and counts as full. Else prove '..UptoSaid'. A law counts once. -/
mutual
def uptoBulk {H : Type} : DataW H → Nat
  | .lit (.string bytes) => bytes.length + 1
  | .lit _ => 1
  | .nil => 1
  | .ptr d => uptoBulk d + 1
  | .slice elems spare => uptoBulkAll elems + uptoBulkAll spare + 1
  | .agg parts => uptoBulkAll parts + 1
  | .iface _ d => uptoBulk d + 1
  | .map entries => uptoBulkEntries entries + 1
  | .held _ => 1
def uptoBulkAll {H : Type} : List (DataW H) → Nat
  | [] => 0
  | d :: r => uptoBulk d + uptoBulkAll r
def uptoBulkEntries {H : Type} : List (Lit × DataW H) → Nat
  | [] => 0
  | x :: r => uptoBulkEntry x + uptoBulkEntries r
def uptoBulkEntry {H : Type} : Lit × DataW H → Nat
  | (.string bytes, d) => bytes.length + uptoBulk d + 1
  | (_, d) => uptoBulk d + 1
 end
def uptoSmall : (H : Type) → List (DataW H) → Bool := fun _ ds => decide (uptoBulkAll ds ≤ 1048576)
def OpenSpec.upto (s : _root_.Go.ChangeSpec) : _root_.Go.OpenSpec := { _root_.Go.OpenSpec.ofChange s with cond := some uptoSmall }

/-- 'tranklaw05.CutRects', WHERE WHAT IT READS IS OF BULK AT MOST 1048576: true; the input reads as it did. -/
def cutRectsUptoRow : OpenClaim := { program := "ytibhgdglbillaaadoor", sum := "6c66963c30405f75551a1416ed908dc556b2cffc80967f32b9daa915cf3e3417", func := "trank/tranklaw05.CutRects", spec := "cutRects", inPlace := ["internal/bytealg.IndexByteString", "internal/bytealg.IndexString"], unfollowed := true, recurses := true, named := ["unicode/utf8.first", "unicode/utf8.acceptRanges", "internal/bytealg.MaxLen"], apart := false, laid := [("unicode/utf8.acceptRanges", laid_unicode_utf8_acceptRanges), ("unicode/utf8.first", laid_unicode_utf8_first)], narrowed := true }
def CutRectsUptoSaid : Prop := cutRectsUptoRow.holds Tryd.pinned (OpenSpec.upto cutRectsSpec)

/-- 'tranklaw05.CutMore', WHERE WHAT IT READS IS OF BULK AT MOST 1048576: true; the input reads as it did. -/
def cutMoreUptoRow : OpenClaim := { program := "ytibhgdglbillaaadoor", sum := "6c66963c30405f75551a1416ed908dc556b2cffc80967f32b9daa915cf3e3417", func := "trank/tranklaw05.CutMore", spec := "cutMore", inPlace := ["internal/bytealg.IndexByteString", "internal/bytealg.IndexString"], unfollowed := true, recurses := true, named := ["unicode/utf8.first", "unicode/utf8.acceptRanges", "internal/bytealg.MaxLen"], apart := false, laid := [("unicode/utf8.acceptRanges", laid_unicode_utf8_acceptRanges), ("unicode/utf8.first", laid_unicode_utf8_first)], narrowed := true }
def CutMoreUptoSaid : Prop := cutMoreUptoRow.holds Tryd.pinned (OpenSpec.upto cutMoreSpec)

/-- 'tranklaw05.CutStrict', WHERE WHAT IT READS IS OF BULK AT MOST 1048576: true; the input reads as it did. -/
def cutStrictUptoRow : OpenClaim := { program := "ytibhgdglbillaaadoor", sum := "6c66963c30405f75551a1416ed908dc556b2cffc80967f32b9daa915cf3e3417", func := "trank/tranklaw05.CutStrict", spec := "cutStrict", inPlace := ["internal/bytealg.IndexByteString", "internal/bytealg.IndexString"], unfollowed := true, recurses := true, named := ["unicode/utf8.first", "unicode/utf8.acceptRanges", "internal/bytealg.MaxLen"], apart := false, laid := [("unicode/utf8.acceptRanges", laid_unicode_utf8_acceptRanges), ("unicode/utf8.first", laid_unicode_utf8_first)], narrowed := true }
def CutStrictUptoSaid : Prop := cutStrictUptoRow.holds Tryd.pinned (OpenSpec.upto cutStrictSpec)

/-- 'tranklaw05.CutTurns', WHERE WHAT IT READS IS OF BULK AT MOST 1048576: true; the input reads as it did. -/
def cutTurnsUptoRow : OpenClaim := { program := "ytibhgdglbillaaadoor", sum := "6c66963c30405f75551a1416ed908dc556b2cffc80967f32b9daa915cf3e3417", func := "trank/tranklaw05.CutTurns", spec := "cutTurns", inPlace := ["internal/bytealg.IndexByteString", "internal/bytealg.IndexString"], unfollowed := true, recurses := true, named := ["unicode/utf8.first", "unicode/utf8.acceptRanges", "internal/bytealg.MaxLen"], apart := false, laid := [("unicode/utf8.acceptRanges", laid_unicode_utf8_acceptRanges), ("unicode/utf8.first", laid_unicode_utf8_first)], narrowed := true }
def CutTurnsUptoSaid : Prop := cutTurnsUptoRow.holds Tryd.pinned (OpenSpec.upto cutTurnsSpec)

/-- 'tranklaw05.CutChecks', WHERE WHAT IT READS IS OF BULK AT MOST 1048576: true; the input reads as it did. -/
def cutChecksUptoRow : OpenClaim := { program := "ytibhgdglbillaaadoor", sum := "6c66963c30405f75551a1416ed908dc556b2cffc80967f32b9daa915cf3e3417", func := "trank/tranklaw05.CutChecks", spec := "cutChecks", inPlace := ["internal/bytealg.IndexByteString", "internal/bytealg.IndexString"], unfollowed := true, recurses := true, named := ["unicode/utf8.first", "unicode/utf8.acceptRanges", "internal/bytealg.MaxLen"], apart := false, laid := [("unicode/utf8.acceptRanges", laid_unicode_utf8_acceptRanges), ("unicode/utf8.first", laid_unicode_utf8_first)], narrowed := true }
def CutChecksUptoSaid : Prop := cutChecksUptoRow.holds Tryd.pinned (OpenSpec.upto cutChecksSpec)

/-- 'tranklaw05.CutProves', WHERE WHAT IT READS IS OF BULK AT MOST 1048576: true; the input reads as it did. -/
def cutProvesUptoRow : OpenClaim := { program := "ytibhgdglbillaaadoor", sum := "6c66963c30405f75551a1416ed908dc556b2cffc80967f32b9daa915cf3e3417", func := "trank/tranklaw05.CutProves", spec := "cutProves", inPlace := ["internal/bytealg.IndexByteString", "internal/bytealg.IndexString"], unfollowed := true, recurses := true, named := ["unicode/utf8.first", "unicode/utf8.acceptRanges", "internal/bytealg.MaxLen"], apart := false, laid := [("unicode/utf8.acceptRanges", laid_unicode_utf8_acceptRanges), ("unicode/utf8.first", laid_unicode_utf8_first)], narrowed := true }
def CutProvesUptoSaid : Prop := cutProvesUptoRow.holds Tryd.pinned (OpenSpec.upto cutProvesSpec)

/-- 'tranklaw05.CutBest', WHERE WHAT IT READS IS OF BULK AT MOST 1048576: true; the input reads as it did. -/
def cutBestUptoRow : OpenClaim := { program := "ytibhgdglbillaaadoor", sum := "6c66963c30405f75551a1416ed908dc556b2cffc80967f32b9daa915cf3e3417", func := "trank/tranklaw05.CutBest", spec := "cutBest", inPlace := ["internal/bytealg.IndexByteString", "internal/bytealg.IndexString"], unfollowed := true, recurses := true, named := ["unicode/utf8.first", "unicode/utf8.acceptRanges", "internal/bytealg.MaxLen"], apart := false, laid := [("unicode/utf8.acceptRanges", laid_unicode_utf8_acceptRanges), ("unicode/utf8.first", laid_unicode_utf8_first)], narrowed := true }
def CutBestUptoSaid : Prop := cutBestUptoRow.holds Tryd.pinned (OpenSpec.upto cutBestSpec)

/-- 'tranklaw05.CutFill', WHERE WHAT IT READS IS OF BULK AT MOST 1048576: true; the input reads as it did. -/
def cutFillUptoRow : OpenClaim := { program := "ytibhgdglbillaaadoor", sum := "6c66963c30405f75551a1416ed908dc556b2cffc80967f32b9daa915cf3e3417", func := "trank/tranklaw05.CutFill", spec := "cutFill", inPlace := ["internal/bytealg.IndexByteString", "internal/bytealg.IndexString"], unfollowed := true, recurses := true, named := ["unicode/utf8.first", "unicode/utf8.acceptRanges", "internal/bytealg.MaxLen"], apart := false, laid := [("unicode/utf8.acceptRanges", laid_unicode_utf8_acceptRanges), ("unicode/utf8.first", laid_unicode_utf8_first)], narrowed := true }
def CutFillUptoSaid : Prop := cutFillUptoRow.holds Tryd.pinned (OpenSpec.upto cutFillSpec)

/-- 'tranklaw05.CutBounds', WHERE WHAT IT READS IS OF BULK AT MOST 1048576: true; the input reads as it did. -/
def cutBoundsUptoRow : OpenClaim := { program := "ytibhgdglbillaaadoor", sum := "6c66963c30405f75551a1416ed908dc556b2cffc80967f32b9daa915cf3e3417", func := "trank/tranklaw05.CutBounds", spec := "cutBounds", inPlace := ["internal/bytealg.IndexByteString", "internal/bytealg.IndexString"], unfollowed := true, recurses := true, named := ["unicode/utf8.first", "unicode/utf8.acceptRanges", "internal/bytealg.MaxLen"], apart := false, laid := [("unicode/utf8.acceptRanges", laid_unicode_utf8_acceptRanges), ("unicode/utf8.first", laid_unicode_utf8_first)], narrowed := true }
def CutBoundsUptoSaid : Prop := cutBoundsUptoRow.holds Tryd.pinned (OpenSpec.upto cutBoundsSpec)

/-- 'tranklaw05.CutBins', WHERE WHAT IT READS IS OF BULK AT MOST 1048576: true; the input reads as it did. -/
def cutBinsUptoRow : OpenClaim := { program := "ytibhgdglbillaaadoor", sum := "6c66963c30405f75551a1416ed908dc556b2cffc80967f32b9daa915cf3e3417", func := "trank/tranklaw05.CutBins", spec := "cutBins", inPlace := ["internal/bytealg.IndexByteString", "internal/bytealg.IndexString"], unfollowed := true, recurses := true, named := ["unicode/utf8.first", "unicode/utf8.acceptRanges", "internal/bytealg.MaxLen"], apart := false, laid := [("unicode/utf8.acceptRanges", laid_unicode_utf8_acceptRanges), ("unicode/utf8.first", laid_unicode_utf8_first)], narrowed := true }
def CutBinsUptoSaid : Prop := cutBinsUptoRow.holds Tryd.pinned (OpenSpec.upto cutBinsSpec)

/-- 'tranklaw05.CutReads', WHERE WHAT IT READS IS OF BULK AT MOST 1048576: true; the input reads as it did. -/
def cutReadsUptoRow : OpenClaim := { program := "ytibhgdglbillaaadoor", sum := "6c66963c30405f75551a1416ed908dc556b2cffc80967f32b9daa915cf3e3417", func := "trank/tranklaw05.CutReads", spec := "cutReads", inPlace := ["internal/bytealg.IndexByteString", "internal/bytealg.IndexString"], unfollowed := true, recurses := true, named := ["unicode/utf8.first", "unicode/utf8.acceptRanges", "internal/bytealg.MaxLen"], apart := false, laid := [("unicode/utf8.acceptRanges", laid_unicode_utf8_acceptRanges), ("unicode/utf8.first", laid_unicode_utf8_first)], narrowed := true }
def CutReadsUptoSaid : Prop := cutReadsUptoRow.holds Tryd.pinned (OpenSpec.upto cutReadsSpec)

/-- 'tranklaw05.CutPlans', WHERE WHAT IT READS IS OF BULK AT MOST 1048576: true; the input reads as it did. -/
def cutPlansUptoRow : OpenClaim := { program := "ytibhgdglbillaaadoor", sum := "6c66963c30405f75551a1416ed908dc556b2cffc80967f32b9daa915cf3e3417", func := "trank/tranklaw05.CutPlans", spec := "cutPlans", inPlace := ["internal/bytealg.IndexByteString", "internal/bytealg.IndexString"], unfollowed := true, recurses := true, named := ["unicode/utf8.first", "unicode/utf8.acceptRanges", "internal/bytealg.MaxLen"], apart := false, laid := [("unicode/utf8.acceptRanges", laid_unicode_utf8_acceptRanges), ("unicode/utf8.first", laid_unicode_utf8_first)], narrowed := true }
def CutPlansUptoSaid : Prop := cutPlansUptoRow.holds Tryd.pinned (OpenSpec.upto cutPlansSpec)

/-- 'tranklaw05.CutFits', WHERE WHAT IT READS IS OF BULK AT MOST 1048576: true; the input reads as it did. -/
def cutFitsUptoRow : OpenClaim := { program := "ytibhgdglbillaaadoor", sum := "6c66963c30405f75551a1416ed908dc556b2cffc80967f32b9daa915cf3e3417", func := "trank/tranklaw05.CutFits", spec := "cutFits", inPlace := ["internal/bytealg.IndexByteString", "internal/bytealg.IndexString"], unfollowed := true, recurses := true, named := ["unicode/utf8.first", "unicode/utf8.acceptRanges", "internal/bytealg.MaxLen"], apart := false, laid := [("unicode/utf8.acceptRanges", laid_unicode_utf8_acceptRanges), ("unicode/utf8.first", laid_unicode_utf8_first)], narrowed := true }
def CutFitsUptoSaid : Prop := cutFitsUptoRow.holds Tryd.pinned (OpenSpec.upto cutFitsSpec)

/-- 'tranklaw05.CutStrips', WHERE WHAT IT READS IS OF BULK AT MOST 1048576: true; the input reads as it did. -/
def cutStripsUptoRow : OpenClaim := { program := "ytibhgdglbillaaadoor", sum := "6c66963c30405f75551a1416ed908dc556b2cffc80967f32b9daa915cf3e3417", func := "trank/tranklaw05.CutStrips", spec := "cutStrips", inPlace := ["internal/bytealg.IndexByteString", "internal/bytealg.IndexString"], unfollowed := true, recurses := true, named := ["unicode/utf8.first", "unicode/utf8.acceptRanges", "internal/bytealg.MaxLen"], apart := false, laid := [("unicode/utf8.acceptRanges", laid_unicode_utf8_acceptRanges), ("unicode/utf8.first", laid_unicode_utf8_first)], narrowed := true }
def CutStripsUptoSaid : Prop := cutStripsUptoRow.holds Tryd.pinned (OpenSpec.upto cutStripsSpec)

end Rows
end Go.Proofs.YtibhgdglbillaaaDoor
