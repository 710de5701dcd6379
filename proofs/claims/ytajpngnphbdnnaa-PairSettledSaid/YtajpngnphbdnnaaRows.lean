/-
  No cell of these rows narrows 'for every input' (looked for: loops, veiled, ifaces, maps, wideKeys, modest, calm, conditions, laid).
  DERIVED. THE GIVEN ROWS OF THIS SEAT. 17 by the template 'for every input the law returns true; each argument reads behind the call as it read before'; 0 by the template 'total and deterministic' (their statements: YtajpngnphbdnnaaTotals.lean).
  GIVEN WITH THE SEED: the statements are not yours to turn. If you find one false, say at which input.
  Laid BY PROGRAM, IN A SANDBOX (cutbox-rows.mjs): the forced cells as the released guide's own fill.sh prints them over the translation e057e3c3aaeae4b7… (all of the seat's roots in one cut). By AI agents, Wed Nov 11 2026. No macro, syntax, notation, axiom, sorry.
-/
import Derived.Test.YtajpngnphbdnnaaChecked
import GoSem.Claim
import GoSem.ClaimJoined
import GoSem.ClaimMapViews
import Derived.JoinedTies
import Derived.KernelRfl
namespace Go.Proofs.Ytajpngnphbdnnaa
/- THE CELL 'sum', in the pinned program and in every row, IS THE sha256 OF THE DUMP (.gsa) THAT YtajpngnphbdnnaaProg.lean LOADS. Nothing in Lean hashes anything: it is a label: what it is worth is what the hold of that sum in a sandbox is worth. -/
noncomputable def Try.pinned : Pinned := { name := "ytajpngnphbdnnaa", sum := "e057e3c3aaeae4b7eb3198d768d8c22270bea0d38b79dd271528abfcb7940394", checked := Try.checked }
namespace Rows
def none {H : Type} : Left H := { results := [], args := [] }

/-- 'tranklaw06.PairCheapest': WHATEVER THE INPUT: true; the input reads as it did. -/
def pairCheapestSpec : ChangeSpec := { name := "pairCheapest", fn := fun _ => fun
  | [d1, d2, d3] => { results := [.lit (.bool true)], args := [d1, d2, d3] }
  | _ => none }
def pairCheapestRow : OpenClaim := { program := "ytajpngnphbdnnaa", sum := "e057e3c3aaeae4b7eb3198d768d8c22270bea0d38b79dd271528abfcb7940394", func := "trank/tranklaw06.PairCheapest", spec := "pairCheapest", unfollowed := true, recurses := true, apart := false }
def PairCheapestSaid : Prop := pairCheapestRow.holds Try.pinned (OpenSpec.ofChange pairCheapestSpec)

/-- ITS FALSE NEIGHBOUR: 'it returns false'. Refute it at one input. -/
def pairCheapestWrong : ChangeSpec := { name := "pairCheapest", fn := fun _ => fun
  | [d1, d2, d3] => { results := [.lit (.bool false)], args := [d1, d2, d3] }
  | _ => none }
def PairCheapestWrongFalsely : Prop := pairCheapestRow.holds Try.pinned (OpenSpec.ofChange pairCheapestWrong)

/-- 'tranklaw06.PairFirst': WHATEVER THE INPUT: true; the input reads as it did. -/
def pairFirstSpec : ChangeSpec := { name := "pairFirst", fn := fun _ => fun
  | [d1, d2, d3, d4] => { results := [.lit (.bool true)], args := [d1, d2, d3, d4] }
  | _ => none }
def pairFirstRow : OpenClaim := { program := "ytajpngnphbdnnaa", sum := "e057e3c3aaeae4b7eb3198d768d8c22270bea0d38b79dd271528abfcb7940394", func := "trank/tranklaw06.PairFirst", spec := "pairFirst", unfollowed := true, recurses := true, apart := false }
def PairFirstSaid : Prop := pairFirstRow.holds Try.pinned (OpenSpec.ofChange pairFirstSpec)

/-- ITS FALSE NEIGHBOUR: 'it returns false'. Refute it at one input. -/
def pairFirstWrong : ChangeSpec := { name := "pairFirst", fn := fun _ => fun
  | [d1, d2, d3, d4] => { results := [.lit (.bool false)], args := [d1, d2, d3, d4] }
  | _ => none }
def PairFirstWrongFalsely : Prop := pairFirstRow.holds Try.pinned (OpenSpec.ofChange pairFirstWrong)

/-- 'tranklaw06.PairCost': WHATEVER THE INPUT: true; the input reads as it did. -/
def pairCostSpec : ChangeSpec := { name := "pairCost", fn := fun _ => fun
  | [d1, d2, d3] => { results := [.lit (.bool true)], args := [d1, d2, d3] }
  | _ => none }
def pairCostRow : OpenClaim := { program := "ytajpngnphbdnnaa", sum := "e057e3c3aaeae4b7eb3198d768d8c22270bea0d38b79dd271528abfcb7940394", func := "trank/tranklaw06.PairCost", spec := "pairCost", unfollowed := true, recurses := true, apart := false }
def PairCostSaid : Prop := pairCostRow.holds Try.pinned (OpenSpec.ofChange pairCostSpec)

/-- ITS FALSE NEIGHBOUR: 'it returns false'. Refute it at one input. -/
def pairCostWrong : ChangeSpec := { name := "pairCost", fn := fun _ => fun
  | [d1, d2, d3] => { results := [.lit (.bool false)], args := [d1, d2, d3] }
  | _ => none }
def PairCostWrongFalsely : Prop := pairCostRow.holds Try.pinned (OpenSpec.ofChange pairCostWrong)

/-- 'tranklaw06.PairWeigh': WHATEVER THE INPUT: true; the input reads as it did. -/
def pairWeighSpec : ChangeSpec := { name := "pairWeigh", fn := fun _ => fun
  | [d1, d2, d3, d4] => { results := [.lit (.bool true)], args := [d1, d2, d3, d4] }
  | _ => none }
def pairWeighRow : OpenClaim := { program := "ytajpngnphbdnnaa", sum := "e057e3c3aaeae4b7eb3198d768d8c22270bea0d38b79dd271528abfcb7940394", func := "trank/tranklaw06.PairWeigh", spec := "pairWeigh", unfollowed := true, recurses := true, apart := false }
def PairWeighSaid : Prop := pairWeighRow.holds Try.pinned (OpenSpec.ofChange pairWeighSpec)

/-- ITS FALSE NEIGHBOUR: 'it returns false'. Refute it at one input. -/
def pairWeighWrong : ChangeSpec := { name := "pairWeigh", fn := fun _ => fun
  | [d1, d2, d3, d4] => { results := [.lit (.bool false)], args := [d1, d2, d3, d4] }
  | _ => none }
def PairWeighWrongFalsely : Prop := pairWeighRow.holds Try.pinned (OpenSpec.ofChange pairWeighWrong)

/-- 'tranklaw06.PairLimits': WHATEVER THE INPUT: true; the input reads as it did. -/
def pairLimitsSpec : ChangeSpec := { name := "pairLimits", fn := fun _ => fun
  | [d1, d2, d3, d4] => { results := [.lit (.bool true)], args := [d1, d2, d3, d4] }
  | _ => none }
def pairLimitsRow : OpenClaim := { program := "ytajpngnphbdnnaa", sum := "e057e3c3aaeae4b7eb3198d768d8c22270bea0d38b79dd271528abfcb7940394", func := "trank/tranklaw06.PairLimits", spec := "pairLimits", unfollowed := true, recurses := true, apart := false }
def PairLimitsSaid : Prop := pairLimitsRow.holds Try.pinned (OpenSpec.ofChange pairLimitsSpec)

/-- ITS FALSE NEIGHBOUR: 'it returns false'. Refute it at one input. -/
def pairLimitsWrong : ChangeSpec := { name := "pairLimits", fn := fun _ => fun
  | [d1, d2, d3, d4] => { results := [.lit (.bool false)], args := [d1, d2, d3, d4] }
  | _ => none }
def PairLimitsWrongFalsely : Prop := pairLimitsRow.holds Try.pinned (OpenSpec.ofChange pairLimitsWrong)

/-- 'tranklaw06.PairStable': WHATEVER THE INPUT: true; the input reads as it did. -/
def pairStableSpec : ChangeSpec := { name := "pairStable", fn := fun _ => fun
  | [d1, d2, d3] => { results := [.lit (.bool true)], args := [d1, d2, d3] }
  | _ => none }
def pairStableRow : OpenClaim := { program := "ytajpngnphbdnnaa", sum := "e057e3c3aaeae4b7eb3198d768d8c22270bea0d38b79dd271528abfcb7940394", func := "trank/tranklaw06.PairStable", spec := "pairStable", unfollowed := true, recurses := true, apart := false }
def PairStableSaid : Prop := pairStableRow.holds Try.pinned (OpenSpec.ofChange pairStableSpec)

/-- ITS FALSE NEIGHBOUR: 'it returns false'. Refute it at one input. -/
def pairStableWrong : ChangeSpec := { name := "pairStable", fn := fun _ => fun
  | [d1, d2, d3] => { results := [.lit (.bool false)], args := [d1, d2, d3] }
  | _ => none }
def PairStableWrongFalsely : Prop := pairStableRow.holds Try.pinned (OpenSpec.ofChange pairStableWrong)

/-- 'tranklaw06.PairPairs': WHATEVER THE INPUT: true; the input reads as it did. -/
def pairPairsSpec : ChangeSpec := { name := "pairPairs", fn := fun _ => fun
  | [d1, d2, d3] => { results := [.lit (.bool true)], args := [d1, d2, d3] }
  | _ => none }
def pairPairsRow : OpenClaim := { program := "ytajpngnphbdnnaa", sum := "e057e3c3aaeae4b7eb3198d768d8c22270bea0d38b79dd271528abfcb7940394", func := "trank/tranklaw06.PairPairs", spec := "pairPairs", unfollowed := true, recurses := true, apart := false }
def PairPairsSaid : Prop := pairPairsRow.holds Try.pinned (OpenSpec.ofChange pairPairsSpec)

/-- ITS FALSE NEIGHBOUR: 'it returns false'. Refute it at one input. -/
def pairPairsWrong : ChangeSpec := { name := "pairPairs", fn := fun _ => fun
  | [d1, d2, d3] => { results := [.lit (.bool false)], args := [d1, d2, d3] }
  | _ => none }
def PairPairsWrongFalsely : Prop := pairPairsRow.holds Try.pinned (OpenSpec.ofChange pairPairsWrong)

/-- 'tranklaw06.PairWorth': WHATEVER THE INPUT: true; the input reads as it did. -/
def pairWorthSpec : ChangeSpec := { name := "pairWorth", fn := fun _ => fun
  | [d1, d2, d3, d4, d5] => { results := [.lit (.bool true)], args := [d1, d2, d3, d4, d5] }
  | _ => none }
def pairWorthRow : OpenClaim := { program := "ytajpngnphbdnnaa", sum := "e057e3c3aaeae4b7eb3198d768d8c22270bea0d38b79dd271528abfcb7940394", func := "trank/tranklaw06.PairWorth", spec := "pairWorth", unfollowed := true, recurses := true, apart := false }
def PairWorthSaid : Prop := pairWorthRow.holds Try.pinned (OpenSpec.ofChange pairWorthSpec)

/-- ITS FALSE NEIGHBOUR: 'it returns false'. Refute it at one input. -/
def pairWorthWrong : ChangeSpec := { name := "pairWorth", fn := fun _ => fun
  | [d1, d2, d3, d4, d5] => { results := [.lit (.bool false)], args := [d1, d2, d3, d4, d5] }
  | _ => none }
def PairWorthWrongFalsely : Prop := pairWorthRow.holds Try.pinned (OpenSpec.ofChange pairWorthWrong)

/-- 'tranklaw06.PairBlocking': WHATEVER THE INPUT: true; the input reads as it did. -/
def pairBlockingSpec : ChangeSpec := { name := "pairBlocking", fn := fun _ => fun
  | [d1, d2, d3, d4] => { results := [.lit (.bool true)], args := [d1, d2, d3, d4] }
  | _ => none }
def pairBlockingRow : OpenClaim := { program := "ytajpngnphbdnnaa", sum := "e057e3c3aaeae4b7eb3198d768d8c22270bea0d38b79dd271528abfcb7940394", func := "trank/tranklaw06.PairBlocking", spec := "pairBlocking", unfollowed := true, recurses := true, apart := false }
def PairBlockingSaid : Prop := pairBlockingRow.holds Try.pinned (OpenSpec.ofChange pairBlockingSpec)

/-- ITS FALSE NEIGHBOUR: 'it returns false'. Refute it at one input. -/
def pairBlockingWrong : ChangeSpec := { name := "pairBlocking", fn := fun _ => fun
  | [d1, d2, d3, d4] => { results := [.lit (.bool false)], args := [d1, d2, d3, d4] }
  | _ => none }
def PairBlockingWrongFalsely : Prop := pairBlockingRow.holds Try.pinned (OpenSpec.ofChange pairBlockingWrong)

/-- 'tranklaw06.PairPrices': WHATEVER THE INPUT: true; the input reads as it did. -/
def pairPricesSpec : ChangeSpec := { name := "pairPrices", fn := fun _ => fun
  | [d1, d2, d3] => { results := [.lit (.bool true)], args := [d1, d2, d3] }
  | _ => none }
def pairPricesRow : OpenClaim := { program := "ytajpngnphbdnnaa", sum := "e057e3c3aaeae4b7eb3198d768d8c22270bea0d38b79dd271528abfcb7940394", func := "trank/tranklaw06.PairPrices", spec := "pairPrices", unfollowed := true, recurses := true, apart := false }
def PairPricesSaid : Prop := pairPricesRow.holds Try.pinned (OpenSpec.ofChange pairPricesSpec)

/-- ITS FALSE NEIGHBOUR: 'it returns false'. Refute it at one input. -/
def pairPricesWrong : ChangeSpec := { name := "pairPrices", fn := fun _ => fun
  | [d1, d2, d3] => { results := [.lit (.bool false)], args := [d1, d2, d3] }
  | _ => none }
def PairPricesWrongFalsely : Prop := pairPricesRow.holds Try.pinned (OpenSpec.ofChange pairPricesWrong)

/-- 'tranklaw06.PairDual': WHATEVER THE INPUT: true; the input reads as it did. -/
def pairDualSpec : ChangeSpec := { name := "pairDual", fn := fun _ => fun
  | [d1, d2, d3, d4, d5, d6] => { results := [.lit (.bool true)], args := [d1, d2, d3, d4, d5, d6] }
  | _ => none }
def pairDualRow : OpenClaim := { program := "ytajpngnphbdnnaa", sum := "e057e3c3aaeae4b7eb3198d768d8c22270bea0d38b79dd271528abfcb7940394", func := "trank/tranklaw06.PairDual", spec := "pairDual", unfollowed := true, recurses := true, apart := false }
def PairDualSaid : Prop := pairDualRow.holds Try.pinned (OpenSpec.ofChange pairDualSpec)

/-- ITS FALSE NEIGHBOUR: 'it returns false'. Refute it at one input. -/
def pairDualWrong : ChangeSpec := { name := "pairDual", fn := fun _ => fun
  | [d1, d2, d3, d4, d5, d6] => { results := [.lit (.bool false)], args := [d1, d2, d3, d4, d5, d6] }
  | _ => none }
def PairDualWrongFalsely : Prop := pairDualRow.holds Try.pinned (OpenSpec.ofChange pairDualWrong)

/-- 'tranklaw06.PairOdd': WHATEVER THE INPUT: true; the input reads as it did. -/
def pairOddSpec : ChangeSpec := { name := "pairOdd", fn := fun _ => fun
  | [d1, d2, d3, d4] => { results := [.lit (.bool true)], args := [d1, d2, d3, d4] }
  | _ => none }
def pairOddRow : OpenClaim := { program := "ytajpngnphbdnnaa", sum := "e057e3c3aaeae4b7eb3198d768d8c22270bea0d38b79dd271528abfcb7940394", func := "trank/tranklaw06.PairOdd", spec := "pairOdd", unfollowed := true, recurses := true, apart := false }
def PairOddSaid : Prop := pairOddRow.holds Try.pinned (OpenSpec.ofChange pairOddSpec)

/-- ITS FALSE NEIGHBOUR: 'it returns false'. Refute it at one input. -/
def pairOddWrong : ChangeSpec := { name := "pairOdd", fn := fun _ => fun
  | [d1, d2, d3, d4] => { results := [.lit (.bool false)], args := [d1, d2, d3, d4] }
  | _ => none }
def PairOddWrongFalsely : Prop := pairOddRow.holds Try.pinned (OpenSpec.ofChange pairOddWrong)

/-- 'tranklaw06.PairMost': WHATEVER THE INPUT: true; the input reads as it did. -/
def pairMostSpec : ChangeSpec := { name := "pairMost", fn := fun _ => fun
  | [d1, d2, d3] => { results := [.lit (.bool true)], args := [d1, d2, d3] }
  | _ => none }
def pairMostRow : OpenClaim := { program := "ytajpngnphbdnnaa", sum := "e057e3c3aaeae4b7eb3198d768d8c22270bea0d38b79dd271528abfcb7940394", func := "trank/tranklaw06.PairMost", spec := "pairMost", unfollowed := true, recurses := true, apart := false }
def PairMostSaid : Prop := pairMostRow.holds Try.pinned (OpenSpec.ofChange pairMostSpec)

/-- ITS FALSE NEIGHBOUR: 'it returns false'. Refute it at one input. -/
def pairMostWrong : ChangeSpec := { name := "pairMost", fn := fun _ => fun
  | [d1, d2, d3] => { results := [.lit (.bool false)], args := [d1, d2, d3] }
  | _ => none }
def PairMostWrongFalsely : Prop := pairMostRow.holds Try.pinned (OpenSpec.ofChange pairMostWrong)

/-- 'tranklaw06.PairHeap': WHATEVER THE INPUT: true; the input reads as it did. -/
def pairHeapSpec : ChangeSpec := { name := "pairHeap", fn := fun _ => fun
  | [d1, d2] => { results := [.lit (.bool true)], args := [d1, d2] }
  | _ => none }
def pairHeapRow : OpenClaim := { program := "ytajpngnphbdnnaa", sum := "e057e3c3aaeae4b7eb3198d768d8c22270bea0d38b79dd271528abfcb7940394", func := "trank/tranklaw06.PairHeap", spec := "pairHeap", unfollowed := true, recurses := true, apart := false }
def PairHeapSaid : Prop := pairHeapRow.holds Try.pinned (OpenSpec.ofChange pairHeapSpec)

/-- ITS FALSE NEIGHBOUR: 'it returns false'. Refute it at one input. -/
def pairHeapWrong : ChangeSpec := { name := "pairHeap", fn := fun _ => fun
  | [d1, d2] => { results := [.lit (.bool false)], args := [d1, d2] }
  | _ => none }
def PairHeapWrongFalsely : Prop := pairHeapRow.holds Try.pinned (OpenSpec.ofChange pairHeapWrong)

/-- 'tranklaw06.PairSettled': WHATEVER THE INPUT: true; the input reads as it did. -/
def pairSettledSpec : ChangeSpec := { name := "pairSettled", fn := fun _ => fun
  | [d1, d2, d3, d4] => { results := [.lit (.bool true)], args := [d1, d2, d3, d4] }
  | _ => none }
def pairSettledRow : OpenClaim := { program := "ytajpngnphbdnnaa", sum := "e057e3c3aaeae4b7eb3198d768d8c22270bea0d38b79dd271528abfcb7940394", func := "trank/tranklaw06.PairSettled", spec := "pairSettled", unfollowed := true, recurses := true, apart := false }
def PairSettledSaid : Prop := pairSettledRow.holds Try.pinned (OpenSpec.ofChange pairSettledSpec)

/-- ITS FALSE NEIGHBOUR: 'it returns false'. Refute it at one input. -/
def pairSettledWrong : ChangeSpec := { name := "pairSettled", fn := fun _ => fun
  | [d1, d2, d3, d4] => { results := [.lit (.bool false)], args := [d1, d2, d3, d4] }
  | _ => none }
def PairSettledWrongFalsely : Prop := pairSettledRow.holds Try.pinned (OpenSpec.ofChange pairSettledWrong)

/-- 'tranklaw06.PairEven': WHATEVER THE INPUT: true; the input reads as it did. -/
def pairEvenSpec : ChangeSpec := { name := "pairEven", fn := fun _ => fun
  | [d1, d2, d3] => { results := [.lit (.bool true)], args := [d1, d2, d3] }
  | _ => none }
def pairEvenRow : OpenClaim := { program := "ytajpngnphbdnnaa", sum := "e057e3c3aaeae4b7eb3198d768d8c22270bea0d38b79dd271528abfcb7940394", func := "trank/tranklaw06.PairEven", spec := "pairEven", unfollowed := true, recurses := true, apart := false }
def PairEvenSaid : Prop := pairEvenRow.holds Try.pinned (OpenSpec.ofChange pairEvenSpec)

/-- ITS FALSE NEIGHBOUR: 'it returns false'. Refute it at one input. -/
def pairEvenWrong : ChangeSpec := { name := "pairEven", fn := fun _ => fun
  | [d1, d2, d3] => { results := [.lit (.bool false)], args := [d1, d2, d3] }
  | _ => none }
def PairEvenWrongFalsely : Prop := pairEvenRow.holds Try.pinned (OpenSpec.ofChange pairEvenWrong)

/-- 'tranklaw06.PairSides': WHATEVER THE INPUT: true; the input reads as it did. -/
def pairSidesSpec : ChangeSpec := { name := "pairSides", fn := fun _ => fun
  | [d1, d2, d3] => { results := [.lit (.bool true)], args := [d1, d2, d3] }
  | _ => none }
def pairSidesRow : OpenClaim := { program := "ytajpngnphbdnnaa", sum := "e057e3c3aaeae4b7eb3198d768d8c22270bea0d38b79dd271528abfcb7940394", func := "trank/tranklaw06.PairSides", spec := "pairSides", unfollowed := true, recurses := true, apart := false }
def PairSidesSaid : Prop := pairSidesRow.holds Try.pinned (OpenSpec.ofChange pairSidesSpec)

/-- ITS FALSE NEIGHBOUR: 'it returns false'. Refute it at one input. -/
def pairSidesWrong : ChangeSpec := { name := "pairSides", fn := fun _ => fun
  | [d1, d2, d3] => { results := [.lit (.bool false)], args := [d1, d2, d3] }
  | _ => none }
def PairSidesWrongFalsely : Prop := pairSidesRow.holds Try.pinned (OpenSpec.ofChange pairSidesWrong)

/- THE SECOND FORM. 'bulk': how many values and letters a reading holds, each counted each time it is reached (what is shared counts as often as it is met; a slice's spare places count too). A statement '..UptoSaid' is the law's where the arguments, and the package variables that the reading takes, are together of bulk at most 1048576: NARROWER than '..Said'. Prove '..Said' where nothing that the law and all that it calls make is longer than what came in: it says more and counts as full. Else prove '..UptoSaid'. A law counts once. -/
mutual
def uptoBulk {H : Type} : DataW H → Nat
  | .lit (.string bytes) => bytes.length + 1
  | .lit _ => 1
  | .nil => 1
  | .ptr d => uptoBulk d + 1
  | .slice elems spare => uptoBulkAll elems + uptoBulkAll spare + 1
  | .agg parts => uptoBulkAll parts + 1
  | .iface _ d => uptoBulk d + 1
  | .map entries => uptoBulkEntries entries + 1
  | .held _ => 1
def uptoBulkAll {H : Type} : List (DataW H) → Nat
  | [] => 0
  | d :: r => uptoBulk d + uptoBulkAll r
def uptoBulkEntries {H : Type} : List (Lit × DataW H) → Nat
  | [] => 0
  | x :: r => uptoBulkEntry x + uptoBulkEntries r
def uptoBulkEntry {H : Type} : Lit × DataW H → Nat
  | (.string bytes, d) => bytes.length + uptoBulk d + 1
  | (_, d) => uptoBulk d + 1
 end
def uptoSmall : (H : Type) → List (DataW H) → Bool := fun _ ds => decide (uptoBulkAll ds ≤ 1048576)
def OpenSpec.upto (s : _root_.Go.ChangeSpec) : _root_.Go.OpenSpec := { _root_.Go.OpenSpec.ofChange s with cond := some uptoSmall }

/-- 'tranklaw06.PairCheapest', WHERE WHAT IT READS IS OF BULK AT MOST 1048576: true; the input reads as it did. -/
def pairCheapestUptoRow : OpenClaim := { program := "ytajpngnphbdnnaa", sum := "e057e3c3aaeae4b7eb3198d768d8c22270bea0d38b79dd271528abfcb7940394", func := "trank/tranklaw06.PairCheapest", spec := "pairCheapest", unfollowed := true, recurses := true, apart := false, narrowed := true }
def PairCheapestUptoSaid : Prop := pairCheapestUptoRow.holds Try.pinned (OpenSpec.upto pairCheapestSpec)

/-- 'tranklaw06.PairFirst', WHERE WHAT IT READS IS OF BULK AT MOST 1048576: true; the input reads as it did. -/
def pairFirstUptoRow : OpenClaim := { program := "ytajpngnphbdnnaa", sum := "e057e3c3aaeae4b7eb3198d768d8c22270bea0d38b79dd271528abfcb7940394", func := "trank/tranklaw06.PairFirst", spec := "pairFirst", unfollowed := true, recurses := true, apart := false, narrowed := true }
def PairFirstUptoSaid : Prop := pairFirstUptoRow.holds Try.pinned (OpenSpec.upto pairFirstSpec)

/-- 'tranklaw06.PairCost', WHERE WHAT IT READS IS OF BULK AT MOST 1048576: true; the input reads as it did. -/
def pairCostUptoRow : OpenClaim := { program := "ytajpngnphbdnnaa", sum := "e057e3c3aaeae4b7eb3198d768d8c22270bea0d38b79dd271528abfcb7940394", func := "trank/tranklaw06.PairCost", spec := "pairCost", unfollowed := true, recurses := true, apart := false, narrowed := true }
def PairCostUptoSaid : Prop := pairCostUptoRow.holds Try.pinned (OpenSpec.upto pairCostSpec)

/-- 'tranklaw06.PairWeigh', WHERE WHAT IT READS IS OF BULK AT MOST 1048576: true; the input reads as it did. -/
def pairWeighUptoRow : OpenClaim := { program := "ytajpngnphbdnnaa", sum := "e057e3c3aaeae4b7eb3198d768d8c22270bea0d38b79dd271528abfcb7940394", func := "trank/tranklaw06.PairWeigh", spec := "pairWeigh", unfollowed := true, recurses := true, apart := false, narrowed := true }
def PairWeighUptoSaid : Prop := pairWeighUptoRow.holds Try.pinned (OpenSpec.upto pairWeighSpec)

/-- 'tranklaw06.PairLimits', WHERE WHAT IT READS IS OF BULK AT MOST 1048576: true; the input reads as it did. -/
def pairLimitsUptoRow : OpenClaim := { program := "ytajpngnphbdnnaa", sum := "e057e3c3aaeae4b7eb3198d768d8c22270bea0d38b79dd271528abfcb7940394", func := "trank/tranklaw06.PairLimits", spec := "pairLimits", unfollowed := true, recurses := true, apart := false, narrowed := true }
def PairLimitsUptoSaid : Prop := pairLimitsUptoRow.holds Try.pinned (OpenSpec.upto pairLimitsSpec)

/-- 'tranklaw06.PairStable', WHERE WHAT IT READS IS OF BULK AT MOST 1048576: true; the input reads as it did. -/
def pairStableUptoRow : OpenClaim := { program := "ytajpngnphbdnnaa", sum := "e057e3c3aaeae4b7eb3198d768d8c22270bea0d38b79dd271528abfcb7940394", func := "trank/tranklaw06.PairStable", spec := "pairStable", unfollowed := true, recurses := true, apart := false, narrowed := true }
def PairStableUptoSaid : Prop := pairStableUptoRow.holds Try.pinned (OpenSpec.upto pairStableSpec)

/-- 'tranklaw06.PairPairs', WHERE WHAT IT READS IS OF BULK AT MOST 1048576: true; the input reads as it did. -/
def pairPairsUptoRow : OpenClaim := { program := "ytajpngnphbdnnaa", sum := "e057e3c3aaeae4b7eb3198d768d8c22270bea0d38b79dd271528abfcb7940394", func := "trank/tranklaw06.PairPairs", spec := "pairPairs", unfollowed := true, recurses := true, apart := false, narrowed := true }
def PairPairsUptoSaid : Prop := pairPairsUptoRow.holds Try.pinned (OpenSpec.upto pairPairsSpec)

/-- 'tranklaw06.PairWorth', WHERE WHAT IT READS IS OF BULK AT MOST 1048576: true; the input reads as it did. -/
def pairWorthUptoRow : OpenClaim := { program := "ytajpngnphbdnnaa", sum := "e057e3c3aaeae4b7eb3198d768d8c22270bea0d38b79dd271528abfcb7940394", func := "trank/tranklaw06.PairWorth", spec := "pairWorth", unfollowed := true, recurses := true, apart := false, narrowed := true }
def PairWorthUptoSaid : Prop := pairWorthUptoRow.holds Try.pinned (OpenSpec.upto pairWorthSpec)

/-- 'tranklaw06.PairBlocking', WHERE WHAT IT READS IS OF BULK AT MOST 1048576: true; the input reads as it did. -/
def pairBlockingUptoRow : OpenClaim := { program := "ytajpngnphbdnnaa", sum := "e057e3c3aaeae4b7eb3198d768d8c22270bea0d38b79dd271528abfcb7940394", func := "trank/tranklaw06.PairBlocking", spec := "pairBlocking", unfollowed := true, recurses := true, apart := false, narrowed := true }
def PairBlockingUptoSaid : Prop := pairBlockingUptoRow.holds Try.pinned (OpenSpec.upto pairBlockingSpec)

/-- 'tranklaw06.PairPrices', WHERE WHAT IT READS IS OF BULK AT MOST 1048576: true; the input reads as it did. -/
def pairPricesUptoRow : OpenClaim := { program := "ytajpngnphbdnnaa", sum := "e057e3c3aaeae4b7eb3198d768d8c22270bea0d38b79dd271528abfcb7940394", func := "trank/tranklaw06.PairPrices", spec := "pairPrices", unfollowed := true, recurses := true, apart := false, narrowed := true }
def PairPricesUptoSaid : Prop := pairPricesUptoRow.holds Try.pinned (OpenSpec.upto pairPricesSpec)

/-- 'tranklaw06.PairDual', WHERE WHAT IT READS IS OF BULK AT MOST 1048576: true; the input reads as it did. -/
def pairDualUptoRow : OpenClaim := { program := "ytajpngnphbdnnaa", sum := "e057e3c3aaeae4b7eb3198d768d8c22270bea0d38b79dd271528abfcb7940394", func := "trank/tranklaw06.PairDual", spec := "pairDual", unfollowed := true, recurses := true, apart := false, narrowed := true }
def PairDualUptoSaid : Prop := pairDualUptoRow.holds Try.pinned (OpenSpec.upto pairDualSpec)

/-- 'tranklaw06.PairOdd', WHERE WHAT IT READS IS OF BULK AT MOST 1048576: true; the input reads as it did. -/
def pairOddUptoRow : OpenClaim := { program := "ytajpngnphbdnnaa", sum := "e057e3c3aaeae4b7eb3198d768d8c22270bea0d38b79dd271528abfcb7940394", func := "trank/tranklaw06.PairOdd", spec := "pairOdd", unfollowed := true, recurses := true, apart := false, narrowed := true }
def PairOddUptoSaid : Prop := pairOddUptoRow.holds Try.pinned (OpenSpec.upto pairOddSpec)

/-- 'tranklaw06.PairMost', WHERE WHAT IT READS IS OF BULK AT MOST 1048576: true; the input reads as it did. -/
def pairMostUptoRow : OpenClaim := { program := "ytajpngnphbdnnaa", sum := "e057e3c3aaeae4b7eb3198d768d8c22270bea0d38b79dd271528abfcb7940394", func := "trank/tranklaw06.PairMost", spec := "pairMost", unfollowed := true, recurses := true, apart := false, narrowed := true }
def PairMostUptoSaid : Prop := pairMostUptoRow.holds Try.pinned (OpenSpec.upto pairMostSpec)

/-- 'tranklaw06.PairHeap', WHERE WHAT IT READS IS OF BULK AT MOST 1048576: true; the input reads as it did. -/
def pairHeapUptoRow : OpenClaim := { program := "ytajpngnphbdnnaa", sum := "e057e3c3aaeae4b7eb3198d768d8c22270bea0d38b79dd271528abfcb7940394", func := "trank/tranklaw06.PairHeap", spec := "pairHeap", unfollowed := true, recurses := true, apart := false, narrowed := true }
def PairHeapUptoSaid : Prop := pairHeapUptoRow.holds Try.pinned (OpenSpec.upto pairHeapSpec)

/-- 'tranklaw06.PairSettled', WHERE WHAT IT READS IS OF BULK AT MOST 1048576: true; the input reads as it did. -/
def pairSettledUptoRow : OpenClaim := { program := "ytajpngnphbdnnaa", sum := "e057e3c3aaeae4b7eb3198d768d8c22270bea0d38b79dd271528abfcb7940394", func := "trank/tranklaw06.PairSettled", spec := "pairSettled", unfollowed := true, recurses := true, apart := false, narrowed := true }
def PairSettledUptoSaid : Prop := pairSettledUptoRow.holds Try.pinned (OpenSpec.upto pairSettledSpec)

/-- 'tranklaw06.PairEven', WHERE WHAT IT READS IS OF BULK AT MOST 1048576: true; the input reads as it did. -/
def pairEvenUptoRow : OpenClaim := { program := "ytajpngnphbdnnaa", sum := "e057e3c3aaeae4b7eb3198d768d8c22270bea0d38b79dd271528abfcb7940394", func := "trank/tranklaw06.PairEven", spec := "pairEven", unfollowed := true, recurses := true, apart := false, narrowed := true }
def PairEvenUptoSaid : Prop := pairEvenUptoRow.holds Try.pinned (OpenSpec.upto pairEvenSpec)

/-- 'tranklaw06.PairSides', WHERE WHAT IT READS IS OF BULK AT MOST 1048576: true; the input reads as it did. -/
def pairSidesUptoRow : OpenClaim := { program := "ytajpngnphbdnnaa", sum := "e057e3c3aaeae4b7eb3198d768d8c22270bea0d38b79dd271528abfcb7940394", func := "trank/tranklaw06.PairSides", spec := "pairSides", unfollowed := true, recurses := true, apart := false, narrowed := true }
def PairSidesUptoSaid : Prop := pairSidesUptoRow.holds Try.pinned (OpenSpec.upto pairSidesSpec)

end Rows
end Go.Proofs.Ytajpngnphbdnnaa
